/- A part of the proof. No condition. -/
import Derived.SliceStrings
import Derived.Deep.Slices
import Derived.Carry
import Derived.ChangeSlices
import Derived.Test.YtcdebbidfgmieaaGreatReT9
set_option linter.unusedVariables false
set_option linter.unusedSimpArgs false
set_option maxHeartbeats 32000000
set_option maxRecDepth 100000
namespace Go.Q15
open Go Go.QAbs
variable {v:AV}{e:Env}{z:Int}{A:List (Bool × List Blk)}{ck dd l lm:List Nat}{s t:B8}{c i ix jx kx la n o ver w:Nat}{x:Nd}{a:Opd}{st:St}
end Go.Q15
namespace Go.QAbs
variable {v:AV}{e:Env}{z:Int}{A:List (Bool × List Blk)}{ck dd l lm:List Nat}{s t:B8}{c i ix jx kx la n o ver w:Nat}{a:Opd}{st:St}
section
variable {O:Orc}{k:List Fr}{Q:JD}{e:Env}{A A0:List (Bool × List Blk)}{L L0 T:List Blk}{keep:List Nat}{is:List PI}{d:Nat}{ks:List (Nat × Nat)}{b0 bs:List Blk}
end
end Go.QAbs
namespace Go.Q15
open Go Go.QAbs
variable {v:AV}{e:Env}{z:Int}{A:List (Bool × List Blk)}{ck dd l lm:List Nat}{s t:B8}{c i ix jx kx la n o ver w:Nat}{x:Nd}{a:Opd}{st:St}
def arL(L:List Blk)(n b:Nat)(r:AR):List Blk:=(((((L.set b r.b0).set (b+1) r.b1).set (b+2) r.b2).set (b+3) (r.b3 n b)).set (b+4) r.b4).set (b+5) (r.b5 n b)
theorem E0(A:List (Bool × List Blk))(L:List Blk)(b:Nat)(r:AR):QG ⟨A,false,L⟩ A.length b r=⟨A,false,arL L A.length b r⟩:=by
 simp[QG,arK,arB,Qo,St.upd,arL]
theorem Oe{L:List Blk}{b:Nat}(r:AR)(h:¬ (b<=i/\i<=b+5)):(arL L n b r)[i]?=L[i]?:=by
 unfold arL;rw[jS (by omega),jS (by omega),jS (by omega),jS (by omega),jS (by omega),jS (by omega)]
theorem Vw{L:List Blk}{b:Nat}(r:AR):(arL L n b r).length=L.length:=by simp[arL]
theorem Has.frmL{L L':List Blk}{b:Nat}{r:AR}(h:Has ⟨A,false,L⟩ A.length b r)(hg:∀i,b<=i->i<=b+5->L'[i]?=L[i]?):Has ⟨A,false,L'⟩ A.length b r:=by
 have e:∀i,b<=i->i<=b+5->St.get ⟨A,false,L'⟩ A.length i=St.get ⟨A,false,L⟩ A.length i:=fun i h1 h2=>by rw[St.get_cur,St.get_cur,hg i h1 h2]
 exact⟨by simp[St.wr],(e _ (by omega) (by omega)).trans h.h0,(e _ (by omega) (by omega)).trans h.h1,(e _ (by omega) (by omega)).trans h.h2,(e _ (by omega) (by omega)).trans h.h3,(e _ (by omega) (by omega)).trans h.h4,(e _ (by omega) (by omega)).trans h.h5⟩
theorem ZcG{ro:Bool}{L:List Blk}{b:Blk}(h:St.get ⟨A,ro,L⟩ A.length i=some b):i<L.length:=by
 rw[St.get_cur]at h;exact (List.getElem?_eq_some_iff.1 (Bm h).1).1
theorem Has.app{L:List Blk}{b:Nat}{r:AR}(h:Has ⟨A,false,L⟩ A.length b r)(T:List Blk):Has ⟨A,false,L++T⟩ A.length b r :=
 h.frmL fun i h1 h2=>by
  have:=ZcG h.h5;rw[jL (by omega)]
section
variable {O:Orc}{k:List Fr}{Q:JD}{e:Env}{A:List (Bool × List Blk)}{L:List Blk}{keep:List Nat}{is:List QAbs.PI}{d:Nat}
theorem Vx{b c:Opd}{agg:Bool}{vb ib ob vc ic oc:Nat}{es:LV}{x:AV}(ha:ZL e a=some (.ptr A.length ix ver i o))(hb:ZL e b=some (.ptr A.length jx vb ib ob))(hc:ZL e c=some (.ptr A.length kx vc ic oc))(hne:Nat.beq ix jx=false)(hne2:Nat.beq ix kx=false)
 (hg:L[ix]?=some (Blk.arr w ver es)) (hx:es[i]?=some x) (hv:Qs x agg o n=some v) (h:Is O is keep k Q ((d,v)::e) ⟨A,false,L⟩):Is O (⟨some d,none,false,.w (.hide [b,c]) (.ld agg n a)⟩::is) keep k Q e ⟨A,false,L⟩:=by
 refine DO ?_ h;have hp:XO (Xh e [b,c]) A.length ix=false:=by
  have hxy:ix≠jx:=fun q=>by subst q;simp at hne
  have hxz:ix≠kx:=fun q=>by subst q;simp at hne2
  simp[XO,Xh,ZB hb,ZB hc,AU,hxy,hxz]
 have hgt:(St.hide (XO (Xh e [b,c])) ⟨A,false,L⟩).get A.length ix=some (Blk.arr w ver es):=by
  rw[Bx,hp,St.get_cur,hg];rfl
 simp only[Zt,PO.reads,if_true,evalPO,ZB ha,loadP,hgt,Ax,hx,hv,oS,QL,QF]
end
theorem Zv9:((wrV (edV exUR.nodes exURo 9 0 [120,121,122]) exUR).2.1.at_,(wrV (edV exUR.nodes exURo 9 0 [120,121,122]) exUR).2.1.h,(wrV (edV exUR.nodes exURo 9 0 [120,121,122]) exUR).2.1.m.b)=(65540,1,20):=by
 unfold exUR;rw[Et];rfl
theorem Zti:Ap (fun n=>decide (2<=n)) (JX (wrV (edV exUR.nodes exURo 9 0 [120,121,122]) exUR).1.nodes [exURo,(wrV (edV exUR.nodes exURo 9 0 [120,121,122]) exUR).2.1])=[65537]:=by
 unfold exUR;rw[Et];rfl
theorem ZrJ(a:Nat)(h:a<18446744073709551616):Bo [a]=[a]:=List.perm_singleton.1 (Il (by simpa using h))
theorem Zn4(A:List (Bool × List Blk)):∃(y:Ro) (B:Blk),y=(wrV (edV exUR.nodes exURo 9 0 [120,121,122]) exUR).2.1/\S Tb YK [] ⟨A,false,[]⟩=some (.tup [.ptr A.length 7 0 0 0,exURo.av,y.av,.bool true],
 ⟨A,false,[.arr 5 0 [exURo.av],.arr 5 0 [y.av]]++(arB A.length 2 (wrV (edV exUR.nodes exURo 9 0 [120,121,122]) exUR).1++[.arr 5 0 [exURo.av],B])⟩):=by
 have hN:=UB 8 4 (by omega) (by omega) A [.arr 5 0 [Ro.zero.av],.arr 5 0 [Ro.zero.av]];have h1:=U4 (Yq A [.arr 5 0 [Ro.zero.av],.arr 5 0 [Ro.zero.av]] [] (Qq 8 4)) (OU 8 4 (by omega) (by omega)) IG exU (by decide) (by rw[Vh];decide);rw[Ib,Vg]at h1;obtain⟨o1,o2,o3⟩:=exU_ok;have hI:=fun T=>Zq1 (Yq A [.arr 5 0 [Ro.zero.av],.arr 5 0 [Ro.zero.av]] T exUR) o1 o2 exU_edOk Vi
 simp only[Ib]at hI;have hy:=Zv9;simp only[jP]at hy;obtain⟨y1,y2,y3⟩:=hy;generalize Xw exUR.nodes [exURo] (edV exUR.nodes exURo 9 0 [120,121,122])=dd at *;generalize edV exUR.nodes exURo 9 0 [120,121,122]=t at *;generalize (wrV t exUR).2.2=fr at *;generalize (wrV t exUR).2.1=r2 at *;generalize (wrV t exUR).1=R2 at *;refine⟨r2,.arr 7 0 [Yv r2 fr (slH dd)],rfl,?_⟩;change S Tb Fe [.ptr A.length 7 0 0 0,.str exU] ⟨A,false,_⟩=some (_,⟨A,false,[.arr 5 0 [Ro.zero.av],.arr 5 0 [Ro.zero.av]]++(arB A.length 2 exUR++[])⟩) at h1;change ∀T,S Tb X9 [.ptr A.length 7 0 0 0,exURo.av,.int .i64 9,.str [120,121,122]] ⟨A,false,[.arr 5 0 [Ro.zero.av],.arr 5 0 [Ro.zero.av]]++(arB A.length 2 exUR++T)⟩=some (_,⟨A,false,[.arr 5 0 [Ro.zero.av],.arr 5 0 [Ro.zero.av]]++(arB A.length 2 R2++T)⟩) at hI;refine X4 Y ?_;repeat'(first|refine ruS Y ?_|refine isS Y ?_|refine ZO ?_|refine cm0 Y Y Y ?_ ?_|(intro _;try omega)|refine Qc Y Y Y Y ?_|refine ZX Y Y Y ?_|refine ZA Y Y Y (hN) ?_)
 all_goals try first|contradiction|omega
 unfold exU at h1;refine ZA Y Y Y h1 ?_;change Is _ _ _ _ _ _ ⟨A,false,[.arr 5 0 [Ro.zero.av],.arr 5 0 [Ro.zero.av],exUR.b0,exUR.b1,exUR.b2,exUR.b3 A.length 2,exUR.b4,exUR.b5 A.length 2]⟩;change ∀T,S Tb X9 [.ptr A.length 7 0 0 0,exURo.av,.int .i64 9,.str [120,121,122]] ⟨A,false,.arr 5 0 [Ro.zero.av]::.arr 5 0 [Ro.zero.av]::exUR.b0::exUR.b1::exUR.b2::exUR.b3 A.length 2::exUR.b4::exUR.b5 A.length 2::T⟩=some (.tup [Yv r2 fr (slH dd),_],⟨A,false,.arr 5 0 [Ro.zero.av]::.arr 5 0 [Ro.zero.av]::R2.b0::R2.b1::R2.b2::R2.b3 A.length 2::R2.b4::R2.b5 A.length 2::T⟩) at hI;show Is _ _ _ _ (fun x e s=>QT _ _ (x,e,s)=some (_,⟨A,false,.arr 5 0 [exURo.av]::.arr 5 0 [r2.av]::R2.b0::R2.b1::R2.b2::R2.b3 A.length 2::R2.b4::R2.b5 A.length 2::[.arr 5 0 [exURo.av],.arr 7 0 [Yv r2 fr (slH dd)]]⟩)) _ _
 generalize exUR.b0=b0 at *;generalize exUR.b1=b1 at *;generalize exUR.b2=b2 at *;generalize exUR.b3 A.length 2=b3 at *;generalize exUR.b4=b4 at *;generalize exUR.b5 A.length 2=b5 at *;generalize R2.b0=c0 at *;generalize R2.b1=c1 at *;generalize R2.b2=c2 at *;generalize R2.b3 A.length 2=c3 at *;generalize R2.b4=c4 at *;generalize R2.b5 A.length 2=c5 at *;obtain⟨x1,x2,x3⟩:=r2;simp only at y1 y2 y3;subst y1;have hcs:slH dd=.nils\/slH dd=.lit (dd.map Zj):=by
  unfold slH;split
  ·exact .inl Y
  ·exact .inr Y
 generalize slH dd=dv at *;unfold Yv Ro.av Ro.zero exURo at *;rcases hcs with rfl|rfl
 ·repeat'(first|refine Fz Y Y Y Y Y Y ?_|refine Vx Y Y Y Y Y Y Y Y ?_|refine F0 Y Y Y Y Y Y Y ?_|refine ruS Y ?_|refine isS Y ?_|refine ZE Y Y Y Y ?_|refine rkS Y ?_|refine cm0 Y Y Y ?_ ?_|(intro _;try omega)|refine ZX Y Y Y ?_|refine Zg Y Y Y Y Y Y ?_|refine ZA Y Y Y (hI _) ?_)
  all_goals first|exact absurd Y ‹_›|exact (Si (.inr Y) Y Y Y Y Y).trans Y
 ·repeat'(first|refine Fz Y Y Y Y Y Y ?_|refine Vx Y Y Y Y Y Y Y Y ?_|refine F0 Y Y Y Y Y Y Y ?_|refine ruS Y ?_|refine isS Y ?_|refine ZE Y Y Y Y ?_|refine rkS Y ?_|refine cm0 Y Y Y ?_ ?_|(intro _;try omega)|refine ZX Y Y Y ?_|refine Zg Y Y Y Y Y Y ?_|refine ZA Y Y Y (hI _) ?_)
  all_goals first|exact absurd Y ‹_›|exact (Si (.inr Y) Y Y Y Y Y).trans Y
theorem Ir(st:St):S TX Z3 [] st=some (.bool true,st):=by
 refine Zv (leX Z3 (.pf Q3) (leW Z3 (.pf Q3) (leV Z3 (.pf Q3) (le3 Z3 (.pf Q3) Y)))) (fun A hA=>?_);obtain⟨y,B,hy,hS⟩:=Zn4 A;have hS:=Oc hS;obtain⟨o1,o2,o3⟩:=exU_ok;obtain⟨v1,v2,v3⟩:=exU_edOk.ok o2;obtain⟨w1,w2⟩:=CI (r:=exUR) (Yq [] [] [] _) o1 o2 v1 (by rw[v2];decide) Vi;have hx:=o3.rt.ext w1.ext;have hsel:=Zti;rw[<- hy]at hsel w2;have hSh:=fun T=>Zn2 w1.good w1.ok.h64 w1.ok.lv (Yq A [.arr 5 0 [exURo.av],.arr 5 0 [y.av]] T (wrV (edV exUR.nodes exURo 9 0 [120,121,122]) exUR).1).r.rd (rs:=[exURo,y]) (by simp;exact⟨hx,w2.rt⟩) (by simp)
 have hat:atL (wrV (edV exUR.nodes exURo 9 0 [120,121,122]) exUR).1.nodes 2 [exURo,y]=[65537]:=by
  unfold atL;rw[hsel,ZrJ _ (by decide)]
 rw[hat]at hSh;clear hy hsel v1 v2 v3 w1 w2 hx hat;generalize (wrV (edV exUR.nodes exURo 9 0 [120,121,122]) exUR).1=R2 at *;change ∀T,S TX JO [.ptr A.length 7 0 0 0,.lit [exURo.av,y.av]] ⟨A,false,.arr 5 0 [exURo.av]::.arr 5 0 [y.av]::R2.b0::R2.b1::R2.b2::R2.b3 A.length 2::R2.b4::R2.b5 A.length 2::T⟩=some (.tup [.lit [.int .u64 65537],.int .i64 0],⟨A,false,.arr 5 0 [exURo.av]::.arr 5 0 [y.av]::R2.b0::R2.b1::R2.b2::R2.b3 A.length 2::R2.b4::R2.b5 A.length 2::T⟩) at hSh;change S TX YK [] ⟨A,false,[]⟩=some (_,⟨A,false,.arr 5 0 [exURo.av]::.arr 5 0 [y.av]::R2.b0::R2.b1::R2.b2::R2.b3 A.length 2::R2.b4::R2.b5 A.length 2::[.arr 5 0 [exURo.av],B]⟩) at hS;have hEH:=fun st=>Oc (ZcA [65537] (by decide) st)
 change ∀st,S TX JL [.lit [.int .u64 65537],.lit [.int .u64 65537]] st=_ at hEH;generalize R2.b0=c0 at *;generalize R2.b1=c1 at *;generalize R2.b2=c2 at *;generalize R2.b3 A.length 2=c3 at *;generalize R2.b4=c4 at *;generalize R2.b5 A.length 2=c5 at *;unfold Ro.av exURo at *;repeat'(first|refine ruS Y ?_|refine isS Y ?_|refine ZE Y Y Y Y ?_|refine rkS Y ?_|refine cm0 Y Y Y ?_ ?_|(intro _;try omega)|refine ZX Y Y Y ?_|refine Zg Y Y Y Y Y Y ?_|refine Z7 Y Y Y Y ?_|refine ZA Y Y Y (hS) ?_|refine ZA Y Y Y (hSh _) ?_|refine ZA Y Y Y (hEH _) ?_)
 all_goals try contradiction
 all_goals refine ZQ hA (by simp) Y Y Y Y ?_
 all_goals rfl
theorem Vy(l m:List Nat):l.length=(l.filter fun o=>decide (o∈m)).length+(l.filter fun o=>decide (o∉m)).length:=by
 induction l with
 | nil=>rfl
 | cons a l ih =>
  rw[List.filter_cons,List.filter_cons,List.length_cons];by_cases h:a∈m
  ·rw[if_pos (decide_eq_true h),if_neg (by simp[h]),List.length_cons];omega
  ·rw[if_neg (by simp[h]),if_pos (decide_eq_true h),List.length_cons];omega
theorem Vz:∀ {l m:List Nat},l.Perm m->l.Pairwise (fun a b=>a % 65536<b % 65536)->m.Pairwise (fun a b=>a % 65536<b % 65536)->l=m
 | [],m,h,_,_=>h.nil_eq
 | a::l,[],h,_,_=>by have:=h.length_eq;simp at this
 | a::l,b::m,h,h1,h2=>by
  rw[List.pairwise_cons]at h1 h2;have e:a=b:=by
   rcases List.mem_cons.1 (h.mem_iff.1 List.mem_cons_self) with e|ha
   ·exact e
   ·rcases List.mem_cons.1 (h.mem_iff.2 List.mem_cons_self) with e|hb
    ·exact e.symm
    ·have:=h1.1 b hb
     have:=h2.1 a ha;omega
  subst e;rw[Vz (List.Perm.cons_inv h) h1.2 h2.2]
theorem GK{r:AR}(ho:AROk r)(hx:lk r.nodes o=some x):o∈ZJ r:=by
 obtain⟨s,g,k1,k2,k3,k4⟩:=ho.key o x hx;unfold ZJ;refine List.mem_map.2 ⟨s,?_,?_⟩
 ·unfold Z2 Qr
  rw[List.mem_filter,List.mem_range];exact⟨k2,by simp[k3]⟩
 ·unfold hOf;rw[k4,k1];simp
theorem V0{r:AR}(ho:AROk r):(ZJ r).Pairwise fun a b=>a % 65536<b % 65536:=by
 unfold ZJ;rw[List.pairwise_map];have h16:=ho.n16;have hp:(Z2 r.states 1).Pairwise fun a b=>a<b:=by
  unfold Z2 Qr;exact (List.pairwise_lt_range).filter _
 refine hp.imp_of_mem fun {a b} ha hb h=>?_
 have h1:=(Eu ha).1;have h2:=(Eu hb).1;unfold hOf;omega
theorem GL{r:AR}(ho:AROk r):(ZJ r).Nodup:=(V0 ho).imp fun h e=>by subst e;omega
theorem V1{N:ZC}(hN:GoodN N)(h6:Cs N){rs:List Ro}(hrs:∀r∈rs,RtOk N r){n:Int}:o∈atL N n rs↔o∈(JX N rs).map Prod.fst/\n<=Yc o (JX N rs):=by
 unfold atL;rw[(Il (Ob (N:=N) (GJ hN h6 hrs))).mem_iff,ZqL (Ez N rs),decide_eq_true_eq]
theorem ZvM{N:ZC}(hN:GoodN N)(h6:Cs N){rs:List Ro}(hrs:∀r∈rs,RtOk N r){n:Int}:(atL N n rs).Nodup :=
 (Il (Ob (N:=N) (GJ hN h6 hrs))).nodup_iff.2 (Uz (Ez N rs))
theorem cntR_key{N:ZC}{rs:List Ro}:o∈(JX N rs).map Prod.fst↔∃r∈rs,o∈Zr (ZY N r):=by
 unfold JX;rw[Io N o rs [] (by simp)];simp
theorem ZrK{N:ZC}{rs:List Ro}:Yc o (JX N rs)=((rs.filter fun r=>decide (o∈Zr (ZY N r))).length:Int):=by
 unfold JX;rw[In];simp[Yc]
theorem V2{N:ZC}(hN:GoodN N)(h6:Cs N){rs:List Ro}(hrs:∀r∈rs,RtOk N r):o∈atL N 1 rs↔∃r∈rs,o∈Zr (ZY N r):=by
 rw[V1 hN h6 hrs,cntR_key,ZrK];constructor
 ·exact fun h=>h.1
 ·rintro⟨r,hr,h⟩
  refine⟨⟨r,hr,h⟩,?_⟩;have:=List.length_pos_of_mem (show r∈rs.filter fun r=>decide (o∈Zr (ZY N r)) from List.mem_filter.2 ⟨hr,decide_eq_true h⟩);omega
theorem ZrL{r:AR}(ho:AROk r)(hg:GoodN r.nodes){rs:List Ro}(hrs:∀x∈rs,RtOk r.nodes x){n:Int}(h:o∈atL r.nodes n rs):o∈ZJ r:=by
 obtain⟨x,hx,h2⟩:=cntR_key.1 ((V1 hg ho.h64 hrs).1 h).1;obtain⟨y,hy⟩:=Ew hg (hrs x hx) o (onceV_mem.1 h2);exact GK ho hy
theorem Ztj(h:l.Pairwise fun a b=>a % 65536<b % 65536){a b:Nat}(ha:a∈l)(hb:b∈l)(e:a % 65536=b % 65536):a=b:=by
 induction l with
 | nil=>simp at ha
 | cons c l ih =>
  rw[List.pairwise_cons]at h;rcases List.mem_cons.1 ha with e1|ha'<;>rcases List.mem_cons.1 hb with e2|hb'
  ·rw[e1,e2]
  ·have:=h.1 _ hb';subst e1;omega
  ·have:=h.1 _ ha';subst e2;omega
  ·exact ih h.2 ha' hb'
theorem V3{lv:Nat}{L:List Blk}{b:Nat}{N:ZC}(hN:GoodN N)(hR:∀L,Rd ⟨A,false,L⟩ la (b+5) N){rs:List Ro}(hrs:∀r∈rs,RtOk N r)(hl:rs.length<=100)(g:∀L,St.get ⟨A,false,L⟩ lv ix=some (.arr 5 ver (rs.map Ro.av))):
 S T3 YP [.ptr la (b+5) 0 0 0,.ref lv ix ver 0 rs.length] ⟨A,false,L⟩=some (.tup [.map A.length (L++JP rs).length,.int .i64 0],
  ⟨A,false,(L++JP rs)++(.map (Jo (JX N rs))::JP rs)⟩):=by
 refine X4 Y ?_;have hw:∀L,wIs 5 ver (St.get ⟨A,false,L⟩ lv ix)=true:=fun L=>by rw[g];simp[wIs]
 have p1:∀r:Ro,Qs r.av true 0 5=some r.av:=fun r=>rfl
 repeat'(first|refine ruS Y ?_|refine isS Y ?_|refine ZO ?_|refine Z6 Y ?_|refine Qc Y Y Y Y ?_)
 all_goals try first|contradiction|omega
 refine Ze (α:=Nat) (fun i=>[(0,.ptr la (b+5) 0 0 0),(1,.ref lv ix ver 0 rs.length),(18,.ref lv ix ver 0 rs.length),(19,.int .i64 rs.length),(20,.int .i64 i)]) (fun i=>⟨A,false,L++JP (rs.take i)⟩) (fun i=>i<=rs.length) (fun i=>rs.length-i) 0 Y (by simp[JP]) (by omega) ?_;intro i hi;rcases Nat.lt_or_ge i rs.length with hlt|hge
 ·obtain⟨r,hr⟩:∃r,rs[i]?=some r:=⟨rs[i]'hlt,jE _⟩
  have q:(rs.map Ro.av)[0+((i:Nat):Int).toNat]?=some r.av:=by rw[show 0+((i:Nat):Int).toNat=i by omega,jG,hr];rfl
  have hC:=fun L=>up13 (IV hN (hR L) (hrs r (jM hr)))
  have ht:rs.take (i+1)=rs.take i++[r]:=ZF hr;repeat'(first|refine JH Y Y (by omega) (hw _) ?_|refine Zk Y (g _) q (p1 _) ?_|refine ruS Y ?_|refine isS Y ?_|refine rkS Y ?_|refine QU Y Y Y ?_|refine cm0 Y Y Y ?_ ?_|(intro _;try omega)|refine ZV Y Y (by omega) ?_|refine Zi Y Y Y ?_|refine Jr Y Y Y Y Y Y ?_|refine ZA Y Y Y (hC _) ?_)
  all_goals try first|contradiction|omega
  all_goals refine⟨i+1,⟨rfl,?_⟩,by omega,by omega⟩
  all_goals (rw[ht,Im,<- List.append_assoc];rfl)
 obtain rfl:i=rs.length:=by omega
 rw[List.take_length];obtain⟨X,hX⟩:∃X,X=L++JP rs:=⟨_,rfl⟩;rw[<- hX];repeat'(first|refine Ip ?_|refine ruS Y ?_|refine isS Y ?_|refine rkS Y ?_|refine Z6 Y ?_|refine cm0 Y Y Y ?_ ?_|(intro _;try omega))
 all_goals try first|contradiction|omega
 refine Ze (α:=Nat) (fun i=>[(0,.ptr la (b+5) 0 0 0),(9,.map A.length X.length),(32,.ref lv ix ver 0 rs.length),(33,.int .i64 rs.length),(34,.int .i64 i)]) (fun i=>⟨A,false,X++(.map (Jo (JX N (rs.take i)))::JP (rs.take i))⟩) (fun i=>i<=rs.length) (fun i=>rs.length-i) 0 Y Y (by omega) ?_;intro i hi;rcases Nat.lt_or_ge i rs.length with hlt|hge
 ·obtain⟨r,hr⟩:∃r,rs[i]?=some r:=⟨rs[i]'hlt,jE _⟩
  have q:(rs.map Ro.av)[0+((i:Nat):Int).toNat]?=some r.av:=by rw[show 0+((i:Nat):Int).toNat=i by omega,jG,hr];rfl
  have hro:=hrs r (jM hr);have hNd:=fun L=>Ur hN (hR L) hro
  have ht:rs.take (i+1)=rs.take i++[r]:=ZF hr;have ln:=DY hN hro;have ln2:(Zr (ZY N r)).length<=1000000000:=by have:=(Yp (ZY N r)).2.2;omega
  have hsn:=Vt N (rs.take i) r;have hnn:∀o,0<=Yc o (JX N (rs.take i))/\Yc o (JX N (rs.take i))<=100:=fun o=>by
   have h1:=In N o (rs.take i) [];have h2:=List.length_filter_le (fun r=>decide (o∈Zr (ZY N r))) (rs.take i);rw[List.length_take]at h2;unfold JX;rw[h1];simp only[Yc];omega
  generalize JX N (rs.take i)=c0 at *;generalize Zr (ZY N r)=v at *;have hbx:X++(.map (Jo c0)::JP (rs.take i))++[.arr 5 0 [r.av]]=X++(.map (Jo c0)::JP (rs.take (i+1))):=by rw[ht,Im];simp
  repeat'(first|refine JH Y Y (by omega) (hw _) ?_|refine Zk Y (g _) q (p1 _) ?_|refine JS Y ?_|refine ruS Y ?_|refine isS Y ?_|refine ZO ?_|refine QU Y Y Y ?_|refine cm0 Y Y Y ?_ ?_|(intro _;try omega)|refine Zi Y Y Y ?_|refine Jr Y Y Y Y Y Y ?_|refine ZA Y Y Y (hNd _) ?_)
  all_goals try first|contradiction|omega
  change Ru _ _ _ _ _ ⟨A,false,X++(.map (Jo c0)::JP (rs.take i))++[.arr 5 0 [r.av]]⟩;rw[hbx];refine Ze (α:=Nat) (fun j=>[(0,.ptr la (b+5) 0 0 0),(9,.map A.length X.length),(32,.ref lv ix ver 0 rs.length),(33,.int .i64 rs.length),(34,.int .i64 i),(47,.lit (v.map Zj)),(48,.int .i64 v.length),(49,.int .i64 j)]) (fun j=>⟨A,false,X++(.map (Jo (AB c0 (v.take j)))::JP (rs.take (i+1)))⟩) (fun j=>j<=v.length) (fun j=>v.length-j) 0 Y Y (by omega) ?_;intro j hj;rcases Nat.lt_or_ge j v.length with hjl|hjg
  ·obtain⟨h,hh⟩:∃k,v[j]?=some k:=⟨v[j]'hjl,jE _⟩
   have qk:0<=((j:Nat):Int)/\v[((j:Nat):Int).toNat]?=some h:=⟨by omega,by rw[show ((j:Nat):Int).toNat=j by omega];exact hh⟩
   have ht2:v.take (j+1)=v.take j++[h]:=ZF hh;have hg0:0<=Yc h (AB c0 (v.take j))/\Yc h (AB c0 (v.take j))<=2000000000:=by
    have h1:=IY h (v.take j) c0;have h2:=List.count_le_length (a:=h) (l:=v.take j);have h3:(v.take j).length<=v.length:=by rw[List.length_take];omega
    have h4:=hnn h;omega
   have hc:AB c0 (v.take (j+1))=AT h (AB c0 (v.take j)):=by rw[ht2,Uw]
   generalize AB c0 (v.take j)=c at *;have hlk:lookV ⟨A,false,X++(.map (Jo c)::JP (rs.take (i+1)))⟩ 0 (.int .i64 0) false (.int .u64 h) (.map A.length X.length)=some (.int .i64 (Yc h c)):=Uu (by simp only[St.get,if_true];rw[List.getElem?_append_right (Nat.le_refl _),Nat.sub_self];rfl) h;have hput:=OP h c;generalize Yc h c=n at *;repeat'(first|refine QY (f:=Zj) Y Y qk (fun _=>rfl) ?_|refine YI Y Y hlk ?_|refine Iq Y Y Y Y Y Y hput ?_|refine ruS Y ?_|refine isS Y ?_|refine rkS Y ?_|refine Zx Y Y ?_|refine cm0 Y Y Y ?_ ?_|(intro _;try omega)|refine ZV Y Y (by omega) ?_)
   all_goals try omega
   refine⟨j+1,⟨rfl,?_⟩,by omega,by omega⟩;rw[hc]
  ·obtain rfl:j=v.length:=by omega
   rw[List.take_length];repeat'(first|refine ruS Y ?_|refine isS Y ?_|refine rkS Y ?_|refine cm0 Y Y Y ?_ ?_|(intro _;try omega)|refine ZV Y Y (by omega) ?_)
   all_goals try omega
   refine⟨i+1,⟨rfl,?_⟩,by omega,by omega⟩;rw[ht,hsn,<- ht]
 ·obtain rfl:i=rs.length:=by omega
  rw[List.take_length];repeat'(first|refine ruS Y ?_|refine isS Y ?_|refine rkS Y ?_|refine cm0 Y Y Y ?_ ?_|(intro _;try omega))
  all_goals try omega
  exact (Jq (.inr Y) Y Y Y Y).trans Y
theorem ZwA{T T0:Tab}{f:FuncId}{X:Run}{pre:PC}{rs:List RV}{args:LV}{r:AV × St}(hT:T f=some (.base (fnK (BJ (S T0) itS X pre) rs)))
 (h:Ru (S T0) pre [] (fun x e s=>(x=.ret/\QT true rs (.ret,e,s)=some r)\/(x=.norm/\∃x2 e2 s2,X e s=some (x2,e2,s2)/\QT true rs (x2,e2,s2)=some r)) (QB 0 args) st):S T f args st=some r:=by
 refine FH (o:=fnK (BJ (S T0) itS X pre) rs) hT ?_;obtain⟨x,e1,s1,h1,h2⟩:=h.h;unfold fnK BJ;rw[h1,oS];rcases h2 with⟨rfl,h3⟩|⟨rfl,x2,e2,s2,h3,h4⟩
 ·simp only[JB,oS];exact h3
 ·simp only[JB,h3,oS];exact h4
theorem Ztk(a b:Nat):Bs (.int .u64 a) (.int .u64 b)=some (decide (a=b)):=by
 show (if IntKind.u64=IntKind.u64 then some (((a:Nat):Int) == ((b:Nat):Int)) else none)=_
 rw[if_pos rfl]
 congr 1
 rw[Bool.eq_iff_iff];simp only[beq_iff_eq,decide_eq_true_eq];omega
def YE(v:AV)(l:List Nat):List (AV × AV):=l.map fun (h:Nat)=>(AV.int .u64 (h:Int),v)
theorem Of(v:AV)(o:Nat):∀l:List Nat,o∉l->AE (.int .u64 o) v (YE v l)=some (YE v (l++[o]))
 | [],_=>rfl
 | p::l,h=>by
  simp only[List.mem_cons,not_or]at h;rw[YE,jC,AE,Ztk,decide_eq_false h.1,oS,if_neg (by simp)];have:=Of v o l h.2;unfold YE at this;rw[this];rfl
theorem Ztl(l:List Nat):YE (.int .i64 1) l=Jo (l.map fun o=>(o,1)):=by unfold YE Jo;rw[List.map_map];rfl
theorem Og{α:Type}(f:α->Nat)(g:α->AV):∀l:List α,(∀o∈l,f o<18446744073709551616)->J9 (l.map fun o=>(AV.int .u64 (f o),g o))=some (l.map fun o=>toH (f o))
 | [],_=>rfl
 | o::l,h=>by
  rw[jC];have ho:=h o (by simp);refine (UC (k:=toH (f o)) ?_ (Og f g l fun x hx=>h x (by simp[hx]))).trans Y;show AV.int .u64 ((f o:Nat):Int)=AV.int .u64 (((f o) % 18446744073709551616:Nat):Int)
  rw[Nat.mod_eq_of_lt ho]
theorem Iu(h:∀o∈l,o<18446744073709551616):J9 (YE v l)=some (l.map toH):=Og (fun o=>o) (fun _=>v) l h
theorem ZrM{c:List (Nat × Int)}(h:∀q∈c,q.1<18446744073709551616):J9 (Jo c)=some ((c.map Prod.fst).map toH):=by
 rw[List.map_map];exact Og (fun q:Nat × Int=>q.1) (fun q=>.int .i64 q.2) c h
theorem Oh{S:List Nat}(hS:∀o∈S,o<18446744073709551616)(hl:∀o∈l,o<18446744073709551616):Zq (S.map toH) (YE v l)=YE v (l.filter fun o=>decide (o∉S)):=by
 unfold Zq YE;rw[List.filter_map]
 congr 1
 refine List.filter_congr fun o ho=>?_
 show (!((S.map toH).any fun h=>decide (h.val=(((o:Nat):Int)).toNat)))=_
 rw[Bool.eq_iff_iff];simp only[Bool.not_eq_true',List.any_eq_false,decide_eq_true_eq,List.mem_map,forall_exists_index,and_imp,forall_apply_eq_imp_iff₂];constructor
 ·intro h hm
  refine h o hm ?_;show o % 18446744073709551616=_
  rw[Nat.mod_eq_of_lt (hl o ho)];omega
 ·intro h x hx e
  have e:x % 18446744073709551616=(((o:Nat):Int)).toNat:=e;rw[Nat.mod_eq_of_lt (hS x hx)]at e;have:x=o:=by omega
  subst this;exact h hx
theorem ZrN{L:List Blk}{i8 i10 i11:Nat}{es8 es10 es11:List (AV × AV)}{ks8 ks10 ks11:List H64}(h8:QAbs.look e 8=.map A.length i8)(h10:QAbs.look e 10=.map A.length i10)(h11:QAbs.look e 11=.map A.length i11)
 (n1:i8≠i10) (n2:i11≠i10) (n3:i8≠i11) (g8:L[i8]?=some (.map es8)) (g10:L[i10]?=some (.map es10)) (g11:L[i11]?=some (.map es11)) (k8:J9 es8=some ks8) (k10:J9 es10=some ks10) (k11:J9 es11=some ks11) (d8:ks8.Nodup) (d11:ks11.Nodup) :
 DU e ⟨A,false,L⟩=some (.norm,[(8,.map A.length i8),(10,.map A.length i10),(11,.map A.length i11)],⟨A,false,(L.set i8 (.map (Zq ks10 es8))).set i11 (.map (Zq ks10 es11))⟩):=by
 have q8:St.get ⟨A,false,L⟩ A.length i8=some (.map es8):=by rw[St.get_cur,g8];rfl
 have q10:St.get ⟨A,false,L⟩ A.length i10=some (.map es10):=by rw[St.get_cur,g10];rfl
 have q11:St.get ⟨A,false,L⟩ A.length i11=some (.map es11):=by rw[St.get_cur,g11];rfl
 have l8:=(List.getElem?_eq_some_iff.1 g8).1;have l11:=(List.getElem?_eq_some_iff.1 g11).1;have p1:St.put ⟨A,false,L⟩ A.length i8 (.map (Zq ks10 es8))=some ⟨A,false,L.set i8 (.map (Zq ks10 es8))⟩:=by simp only[St.put,if_true,if_pos l8];rfl
 have p2:St.put ⟨A,false,L.set i8 (.map (Zq ks10 es8))⟩ A.length i11 (.map (Zq ks10 es11))=some ⟨A,false,(L.set i8 (.map (Zq ks10 es8))).set i11 (.map (Zq ks10 es11))⟩:=by
  simp only[St.put,if_true,List.length_set,if_pos l11];rfl
 unfold DU;simp only[h8,h10,h11];rw[if_pos ⟨trivial,trivial,n1,n2,n3⟩];simp only[dlA,q8,q10,q11,AA,oS,k8,k10,k11];rw[if_pos ⟨d8,d11⟩,p1,oS,p2];rfl
theorem ZrO{L:List Blk}{i8 i11:Nat}{es8 es11:List (AV × AV)}{ks8 ks11:List H64}(h8:QAbs.look e 8=.map A.length i8)(h11:QAbs.look e 11=.map A.length i11)
 (n3:i8≠i11) (g8:L[i8]?=some (.map es8)) (g11:L[i11]?=some (.map es11)) (k8:J9 es8=some ks8) (k11:J9 es11=some ks11) (d8:ks8.Nodup) :
 DV e ⟨A,false,L⟩=some (.norm,[(8,.map A.length i8),(10,QAbs.look e 10),(11,.map A.length i11)],⟨A,false,L.set i8 (.map (Zq ks11 es8))⟩):=by
 have q8:St.get ⟨A,false,L⟩ A.length i8=some (.map es8):=by rw[St.get_cur,g8];rfl
 have q11:St.get ⟨A,false,L⟩ A.length i11=some (.map es11):=by rw[St.get_cur,g11];rfl
 have l8:=(List.getElem?_eq_some_iff.1 g8).1;have p1:St.put ⟨A,false,L⟩ A.length i8 (.map (Zq ks11 es8))=some ⟨A,false,L.set i8 (.map (Zq ks11 es8))⟩:=by simp only[St.put,if_true,if_pos l8];rfl
 unfold DV;simp only[h8,h11];rw[if_pos ⟨trivial,n3⟩];simp only[dlB,q8,q11,AA,oS,k8,k11];rw[if_pos d8,p1];rfl
def Jx(ck lm:List Nat):List Nat:=lm.filter fun o=>decide (o∉ck)
def QZ(ck lm live:List Nat):List Nat:=(live.filter fun o=>decide (o∉ck)).filter fun o=>decide (o∉Jx ck lm)
theorem Ztm{L:List Blk}{m:Nat}{es10 es11:List (AV × AV)}(hm:L[m]?=some (.map es10))(hx:L[ix]?=some (.map es11)):
 exec (S T3) itS GI [(8,.map A.length jx),(10,.map A.length m),(11,.map A.length ix)] ⟨A,false,L⟩=some (.ret,[(6,.int .i64 es10.length),(7,.int .i64 es11.length),(8,.map A.length jx),(9,.int .i64 0)],⟨A,false,L⟩):=by
 have q10:St.get ⟨A,false,L⟩ A.length m=some (.map es10):=by rw[St.get_cur,hm];rfl
 have q11:St.get ⟨A,false,L⟩ A.length ix=some (.map es11):=by rw[St.get_cur,hx];rfl
 have:Ru (S T3) GI [] (fun x e s=>x=.ret/\e=[(6,.int .i64 es10.length),(7,.int .i64 es11.length),(8,.map A.length jx),(9,.int .i64 0)]/\s=⟨A,false,L⟩) [(8,.map A.length jx),(10,.map A.length m),(11,.map A.length ix)] ⟨A,false,L⟩:=by
  repeat'(first|refine IH Y q10 ?_|refine IH Y q11 ?_|refine ruS Y ?_|refine isS Y ?_|refine rkS Y ?_)
  all_goals exact⟨rfl,rfl,rfl⟩
 obtain⟨x,e1,s1,h1,rfl,rfl,rfl⟩:=this.h;exact h1
theorem Ztn{X:List Blk}{m:Nat}{c:List (Nat × Int)}{live:List Nat}(h8:QAbs.look e 8=.map A.length (X.length+1))(h10:QAbs.look e 10=.map A.length m)(h11:QAbs.look e 11=.map A.length X.length)(gX:X[m]?=some (.map (Jo c)))
 (hc:∀q∈c,q.1<18446744073709551616) (h1:∀o∈lm,o<18446744073709551616) (h2:∀o∈live,o<18446744073709551616) (d1:lm.Nodup) (d2:live.Nodup) :
 Ey (S T3) e ⟨A,false,X++[.map (YE (.bool true) lm),.map (YE (.int .i64 1) live)]⟩=some (.ret,[(6,.int .i64 c.length),(7,.int .i64 (Jx (c.map Prod.fst) lm).length),(8,.map A.length (X.length+1)),(9,.int .i64 0)],
  ⟨A,false,X++[.map (YE (.bool true) (Jx (c.map Prod.fst) lm)),.map (YE (.int .i64 1) (QZ (c.map Prod.fst) lm live))]⟩):=by
 have hmX:m<X.length:=(List.getElem?_eq_some_iff.1 gX).1;have hk:∀o∈c.map Prod.fst,o<18446744073709551616:=fun o ho=>by obtain⟨q,hq,rfl⟩:=List.mem_map.1 ho;exact hc q hq
 have a0:∀T:List Blk,(X++T)[X.length]?=T[0]?:=fun T=>QI (i:=0)
 have a1:∀T:List Blk,(X++T)[X.length+1]?=T[1]?:=fun T=>QI (i:=1)
 have am:∀T:List Blk,(X++T)[m]?=some (.map (Jo c)):=fun T=>by rw[jL hmX];exact gX
 have s0:∀(T:List Blk) (x:Blk),(X++T).set X.length x=X++T.set 0 x:=fun T x=>DT (i:=0)
 have s1:∀(T:List Blk) (x:Blk),(X++T).set (X.length+1) x=X++T.set 1 x:=fun T x=>DT (i:=1)
 unfold Ey;rw[ZrN h8 h10 h11 (by omega) (by omega) (by omega) (a1 _) (am _) (a0 _) (Iu h2) (ZrM hc) (Iu h1) (Ia h2 d2) (Ia h1 d1)];simp only[oS,JB];rw[Oh hk h2,Oh hk h1,s1,s0];simp only[List.set_cons_succ,List.set_cons_zero];have h2':∀o∈live.filter (fun o=>decide (o∉c.map Prod.fst)),o<18446744073709551616:=fun o ho=>h2 o (List.mem_filter.1 ho).1
 have h1':∀o∈lm.filter (fun o=>decide (o∉c.map Prod.fst)),o<18446744073709551616:=fun o ho=>h1 o (List.mem_filter.1 ho).1
 rw[ZrO rfl rfl (by omega) (a1 _) (a0 _) (Iu h2') (Iu h1') (Ia h2' (d2.filter _))];simp only[oS,JB];rw[Oh h1' h2',s1];simp only[List.set_cons_succ,List.set_cons_zero];refine (Ztm (es10:=Jo c) (es11:=YE (.bool true) (Jx (c.map Prod.fst) lm)) (am _) (a0 _)).trans ?_;unfold YE Jo Jx QZ;simp only[List.length_map];rfl
theorem Iv{r:AR}(ho:AROk r)(h:o∈ZJ r):Ad r o/\o<18446744073709551616:=by
 unfold ZJ at h;obtain⟨s,hs,rfl⟩:=List.mem_map.1 h;obtain⟨h1,h2⟩:=Eu hs;obtain⟨g,g1,g2,g3⟩:=ho.gen s h1;have hm:=ho.most;have hn:=ho.n16;have e:hOf r s=g*65536+s:=by unfold hOf;rw[g1];simp
 rw[e];have e1:(g*65536+s) % 65536=s:=by omega
 have e2:(g*65536+s) / 65536=g:=by omega
 refine⟨⟨?_,by rw[e1];exact h2,by rw[e1,e2];exact g1⟩,by omega⟩;unfold J8;omega
theorem V4{a:Nat}(hn:l.Nodup)(h:l[i]?=some a):a∉l.take i:=by
 have h1:l.take (i+1)=l.take i++[a]:=ZF h;have h2:(l.take (i+1)).Nodup:=hn.sublist (List.take_sublist _ _);rw[h1,List.nodup_append]at h2;exact fun hm=>h2.2.2 a hm a (by simp) Y
theorem ZvN{r:AR}(hn:lm.Nodup)(hlm:∀o∈lm,o∈ZJ r):lm.length<=(ZJ r).length:=by
 revert hlm;generalize ZJ r=l;induction lm generalizing l with
 | nil=>intro _;simp
 | cons a lm ih =>
  intro h;rw[List.nodup_cons]at hn;have ha:=h a (by simp);have:=ih hn.2 (l.erase a) fun o ho=>(List.mem_erase_of_ne (fun e=>hn.1 (by rw[<- e];exact ho))).2 (h o (by simp[ho]))
  have hl:=List.length_erase_of_mem ha;have:=List.length_pos_of_mem ha;simp only[List.length_cons];omega
theorem V5{b lv:Nat}{L:List Blk}{r:AR}(ho:AROk r)(hg:GoodN r.nodes)(hH:∀L,HasR ⟨A,false,L⟩ la b r){rs:List Ro}(hrs:∀x∈rs,RtOk r.nodes x)(hl:rs.length<=100)(g:∀L,St.get ⟨A,false,L⟩ lv ix=some (.arr 5 ver (rs.map Ro.av)))
 {lm:List Nat} (hn:lm.Nodup) (hlm:∀o∈lm,o∈ZJ r) :
 S TZ JM [.ptr la (b+5) 0 0 0,.ref lv ix ver 0 rs.length,.lit (lm.map Zj)] ⟨A,false,L⟩=some (.tup [.int .i64 (JX r.nodes rs).length,.int .i64 (Jx ((JX r.nodes rs).map Prod.fst) lm).length,.map A.length (((L++JP rs)++(Blk.map (Jo (JX r.nodes rs))::JP rs)).length+1),.int .i64 0],
  ⟨A,false,((L++JP rs)++(Blk.map (Jo (JX r.nodes rs))::JP rs))++[.map (YE (.bool true) (Jx ((JX r.nodes rs).map Prod.fst) lm)),.map (YE (.int .i64 1) (QZ ((JX r.nodes rs).map Prod.fst) lm (ZJ r)))]⟩):=by
 refine ZwA (X:=Ey (S T3)) (pre:=pPa) (rs:=rsP) Y ?_;have hC:=V3 (A:=A) (L:=L) hg (fun L=>(hH L).rd) hrs hl g;have hHd:=fun L=>up3 (ZlY (hH L) ho)
 have hcn:=GJ hg ho.h64 hrs;have hlen:=Yr ho;have hlnd:=GL ho;have h64:∀o∈ZJ r,o<18446744073709551616:=fun o h=>(Iv ho h).2
 have gX:((L++JP rs)++(Blk.map (Jo (JX r.nodes rs))::JP rs))[(L++JP rs).length]?=some (.map (Jo (JX r.nodes rs))):=by rw[List.getElem?_append_right (Nat.le_refl _),Nat.sub_self];rfl
 have hLv:∀a∈lm,∀L,S T3 Ym [.ptr la (b+5) 0 0 0,.int .u64 a] ⟨A,false,L⟩=some (.bool true,⟨A,false,L⟩):=fun a ha L=>by
  obtain⟨k1,k2⟩:=Iv ho (hlm a ha);have:=up3 (Zup (hH L) ho.gl a k2);rw[decide_eq_true k1]at this;exact this
 have hlm64:∀o∈lm,o<18446744073709551616:=fun o h=>(Iv ho (hlm o h)).2
 have hlml:=ZvN hn hlm;generalize JX r.nodes rs=c at *;generalize ((L++JP rs)++(Blk.map (Jo c)::JP rs))=X at *;generalize (L++JP rs).length=m at *;generalize ZJ r=live at *;repeat'(first|refine Ip ?_|refine JS Y ?_|refine ruS Y ?_|refine isS Y ?_|refine ZO ?_|refine cm0 Y Y Y ?_ ?_|(intro _;try omega)|refine ZA Y Y Y (hC) ?_)
 all_goals try first|contradiction|omega
 refine Ze (α:=Nat) (fun i=>[(0,.ptr la (b+5) 0 0 0),(10,.map A.length m),(11,.map A.length X.length),(28,.lit (lm.map Zj)),(29,.int .i64 lm.length),(30,.int .i64 i)]) (fun i=>⟨A,false,X++(.map (YE (.bool true) (lm.take i))::[])⟩) (fun i=>i<=lm.length) (fun i=>lm.length-i) 0 Y Y (Nat.zero_le _) ?_;intro i hi;rcases Nat.lt_or_ge i lm.length with hlt|hge
 ·obtain⟨a,ha⟩:∃a,lm[i]?=some a:=⟨lm[i]'hlt,jE _⟩
  have q:0<=((i:Nat):Int)/\lm[((i:Nat):Int).toNat]?=some a:=⟨by omega,by rw[show ((i:Nat):Int).toNat=i by omega];exact ha⟩
  have qr:=U_ ha;have ht:lm.take (i+1)=lm.take i++[a]:=ZF ha;have hnot:a∉lm.take i:=V4 hn ha;have hput:=Of (.bool true) a _ hnot;have hLa:=fun L=>hLv a (jM ha) L
  have hlk:lookV ⟨A,false,X++(.map (YE (.bool true) (lm.take i))::[])⟩ 0 (.bool false) false (.int .u64 a) (.map A.length X.length)=some (.bool false):=by
   rw[Cn (l:=lm.take i) (by simp only[St.get,if_true];rw[List.getElem?_append_right (Nat.le_refl _),Nat.sub_self];rfl) a,decide_eq_false hnot]
  generalize lm.take i=w at *;repeat'(first|refine QY (f:=Zj) Y Y q (fun _=>rfl) ?_|refine YI Y Y hlk ?_|refine Iq Y Y Y Y Y Y hput ?_|refine ruS Y ?_|refine isS Y ?_|refine rkS Y ?_|refine Zx Y Y ?_|refine cm0 Y Y Y ?_ ?_|(intro _;try omega)|refine ZV Y Y (by omega) ?_|refine ZA Y Y Y (hLa _) ?_)
  all_goals try first|contradiction|omega
  all_goals exact⟨i+1,⟨rfl,by rw[ht]⟩,by omega,by omega⟩
 obtain rfl:i=lm.length:=by omega
 rw[List.take_length];all_goals repeat'(first|refine Ip ?_|refine JS Y ?_|refine ruS Y ?_|refine isS Y ?_|refine rkS Y ?_|refine cm0 Y Y Y ?_ ?_|(intro _;try omega)|refine ZA Y Y Y (hHd _) ?_)
 all_goals try first|contradiction|omega
 all_goals refine Ze (α:=Nat) (fun i=>[(8,.map A.length (X++[Blk.map (YE (.bool true) lm)]).length),(10,.map A.length m),(11,.map A.length X.length),(48,.lit (live.map Zj)),(49,.int .i64 live.length),(50,.int .i64 i)]) (fun i=>⟨A,false,(X++[.map (YE (.bool true) lm)])++(.map (YE (.int .i64 1) (live.take i))::[])⟩) (fun i=>i<=live.length) (fun i=>live.length-i) 0 Y Y (Nat.zero_le _) ?_
 all_goals intro i hi
 all_goals rcases Nat.lt_or_ge i live.length with hlt|hge
 ·obtain⟨a,ha⟩:∃a,live[i]?=some a:=⟨live[i]'hlt,jE _⟩
  have q:0<=((i:Nat):Int)/\live[((i:Nat):Int).toNat]?=some a:=⟨by omega,by rw[show ((i:Nat):Int).toNat=i by omega];exact ha⟩
  have ht:live.take (i+1)=live.take i++[a]:=ZF ha;have hnot:a∉live.take i:=V4 hlnd ha;have hput:=Of (.int .i64 1) a _ hnot;generalize X++[Blk.map (YE (.bool true) lm)]=Y' at *;repeat'(first|refine QY (f:=Zj) Y Y q (fun _=>rfl) ?_|refine Iq Y Y Y Y Y Y hput ?_|refine ruS Y ?_|refine isS Y ?_|refine rkS Y ?_|refine Zx Y Y ?_|refine cm0 Y Y Y ?_ ?_|(intro _;try omega)|refine ZV Y Y (by omega) ?_)
  all_goals try first|contradiction|omega
  all_goals exact⟨i+1,⟨rfl,by rw[ht]⟩,by omega,by omega⟩
 ·obtain rfl:i=live.length:=by omega
  rw[List.take_length];have e1:(X++[Blk.map (YE (.bool true) lm)])++(Blk.map (YE (.int .i64 1) live)::[])=X++[Blk.map (YE (.bool true) lm),Blk.map (YE (.int .i64 1) live)]:=by simp
  have e2:(X++[Blk.map (YE (.bool true) lm)]).length=X.length+1:=by simp
  rw[e1,e2];repeat'(first|refine ruS Y ?_|refine Jg Y ?_|refine rkS Y ?_|refine cm0 Y Y Y ?_ ?_|(intro _;try omega))
  all_goals try omega
  refine .inr ⟨rfl,_,_,_,Ztn Y Y Y gX hcn hlm64 h64 hn hlnd,?_⟩;rfl
theorem ZrP(h:l.Pairwise fun a b=>a % 65536<b % 65536)(h6:∀x∈l,x<18446744073709551616):Bo l=l:=by
 have hp:=Il h6;refine Vz hp ?_ h;have hs:(Bo l).Pairwise fun a b=>a % 65536<=b % 65536:=Zj3 _
 have hn:(Bo l).Pairwise fun a b=>a≠b:=hp.nodup_iff.2 (h.imp fun h e=>by subst e;omega)
 refine (hs.and hn).imp_of_mem fun {a b} ha hb q=>?_
 rcases Nat.lt_or_ge (a % 65536) (b % 65536) with w|w
 ·exact w
 ·exact absurd (Ztj h (hp.mem_iff.1 ha) (hp.mem_iff.1 hb) (by omega)) q.2
theorem Cu{live:List Nat}:(QZ ck lm live).Sublist live:=(List.filter_sublist).trans List.filter_sublist
theorem ZrQ(l:List Nat):Ap (fun n=>decide (1<=n)) (l.map fun o=>(o,1))=l:=by
 unfold Ap;rw[List.filter_eq_self.2,List.map_map]
 ·exact List.map_id l
 ·intro q hq;obtain⟨o,_,rfl⟩:=List.mem_map.1 hq;rfl
theorem Zto{r:AR}(ho:AROk r)(hla:la<=st.A.length)(hg:st.get la ix=some (.map (YE (.int .i64 1) (QZ ck lm (ZJ r))))):
 S TZ Q6 [.map la ix,.int .i64 1] st=some (.lit ((QZ ck lm (ZJ r)).map Zj),st):=by
 have hsub:=Cu (ck:=ck) (lm:=lm) (live:=ZJ r);have h6:∀x∈QZ ck lm (ZJ r),x<18446744073709551616:=fun x hx=>(Iv ho (hsub.subset hx)).2
 have hasc:=(V0 ho).sublist hsub;have hlen:=Yr ho;have hle:=hsub.length_le;generalize QZ ck lm (ZJ r)=l at *;rw[Ztl]at hg;have hL:=Od (n0:=1) hla hg (by rw[List.map_map];exact (show (l.map fun o=>o).Nodup by rw[List.map_id'];exact hasc.imp fun h e=>by subst e;omega)) (fun q hq=>by obtain⟨o,ho',rfl⟩:=List.mem_map.1 hq;exact h6 o ho') (by rw[List.length_map];omega);rw[ZrQ,ZrP hasc h6]at hL;exact upZ hL
def GM(r:AR)(ck lm:List Nat):AV:=.agg [.int .i64 (ck.length:Nat),.int .i64 (Jx ck lm).length,.int .i64 r.free.length,.int .i64 (Z2 r.states 2).length,.int .i64 (QZ ck lm (ZJ r)).length]
def QO(r:AR)(rs:List Ro):List Nat:=(JX r.nodes rs).map Prod.fst
theorem Zlc{b lv:Nat}{r:AR}(ho:AROk r)(hg:GoodN r.nodes)(hH:HasR st la b r){rs:List Ro}(hrs:∀x∈rs,RtOk r.nodes x)(hl:rs.length<=100)(g:St.get st lv ix=some (.arr 5 ver (rs.map Ro.av)))(hn:lm.Nodup)(hlm:∀o∈lm,o∈ZJ r):
 S TZ Qd [.ptr la (b+5) 0 0 0,.ref lv ix ver 0 rs.length,.lit (lm.map Zj)] st=some (.tup [.lit ((QZ (QO r rs) lm (ZJ r)).map Zj),.int .i64 0],st):=by
 refine Zv (leZ Qd (.pf Jt) (leX Qd (.pf Jt) (leW Qd (.pf Jt) (leV Qd (.pf Jt) (le3 Qd (.pf Jt) Y))))) (fun A hA=>?_);have hP:=V5 (A:=A) (L:=[]) ho hg (fun L=>hH.push hA (ro:=false) (L:=L)) hrs hl (fun L=>ZD hA (ro:=false) (L:=L) g) hn hlm;change S TZ JM _ _=some (.tup [_,.int .i64 (Jx (QO r rs) lm).length,_,_],⟨A,false,_++[.map (YE (.bool true) (Jx (QO r rs) lm)),.map (YE (.int .i64 1) (QZ (QO r rs) lm (ZJ r)))]⟩) at hP;generalize (([]:List Blk)++JP rs)++(Blk.map (Jo (JX r.nodes rs))::JP rs)=X at hP;have hL:=Zto (st:=⟨A,false,X++[.map (YE (.bool true) (Jx (QO r rs) lm)),.map (YE (.int .i64 1) (QZ (QO r rs) lm (ZJ r)))]⟩) ho (la:=A.length) (ix:=X.length+1) (ck:=QO r rs) (lm:=lm) (Nat.le_refl _) (by rw[St.get_cur,QI];rfl);generalize QZ (QO r rs) lm (ZJ r)=lost at *;generalize Jx (QO r rs) lm=wait at *;repeat'(first|refine ruS Y ?_|refine isS Y ?_|refine rkS Y ?_|refine cm0 Y Y Y ?_ ?_|(intro _;try omega)|refine ZA Y Y Y (hP) ?_|refine ZA Y Y Y (hL) ?_)
 all_goals try contradiction
 all_goals refine ZQ hA (by simp) Y Y Y Y ?_
 all_goals rfl
theorem V6{b lv:Nat}{r:AR}(ho:AROk r)(hg:GoodN r.nodes)(hH:HasR st la b r){rs:List Ro}(hrs:∀x∈rs,RtOk r.nodes x)(hl:rs.length<=100)(g:St.get st lv ix=some (.arr 5 ver (rs.map Ro.av)))(hn:lm.Nodup)(hlm:∀o∈lm,o∈ZJ r):
 S TZ Q0 [.ptr la (b+5) 0 0 0,.ref lv ix ver 0 rs.length,.lit (lm.map Zj)] st=some (.tup [GM r (QO r rs) lm,.int .i64 0],st):=by
 refine Zv (leZ Q0 (.pf YD) (leX Q0 (.pf YD) (leW Q0 (.pf YD) (leV Q0 (.pf YD) (le3 Q0 (.pf YD) Y))))) (fun A hA=>?_);have hP:=V5 (A:=A) (L:=[.arr 5 0 [.agg [.int .i64 0,.int .i64 0,.int .i64 0,.int .i64 0,.int .i64 0]]]) ho hg (fun L=>hH.push hA (ro:=false) (L:=L)) hrs hl (fun L=>ZD hA (ro:=false) (L:=L) g) hn hlm;have hS:=fun L=>A9 (ZrA (hH.push hA (ro:=false) (L:=L)) ho)
 have hk:((QO r rs).length:Int)=((JX r.nodes rs).length:Int):=by unfold QO;rw[List.length_map]
 change S TZ JM _ _=some (.tup [_,.int .i64 (Jx (QO r rs) lm).length,_,_],⟨A,false,_++[.map (YE (.bool true) (Jx (QO r rs) lm)),.map (YE (.int .i64 1) (QZ (QO r rs) lm (ZJ r)))]⟩) at hP;rw[<- hk]at hP;have e1:(([Blk.arr 5 0 [.agg [.int .i64 0,.int .i64 0,.int .i64 0,.int .i64 0,.int .i64 0]]]++JP rs)++(Blk.map (Jo (JX r.nodes rs))::JP rs))=Blk.arr 5 0 [.agg [.int .i64 0,.int .i64 0,.int .i64 0,.int .i64 0,.int .i64 0]]::(JP rs++(Blk.map (Jo (JX r.nodes rs))::JP rs)):=rfl;rw[e1]at hP;unfold GM;generalize QZ (QO r rs) lm (ZJ r)=lost at *;generalize Jx (QO r rs) lm=wait at *;generalize (QO r rs).length=kn at *;generalize (JP rs++(Blk.map (Jo (JX r.nodes rs))::JP rs))=X at *;have gq:St.get ⟨A,false,Blk.arr 5 0 [.agg [.int .i64 0,.int .i64 0,.int .i64 0,.int .i64 0,.int .i64 0]]::(X++[.map (YE (.bool true) wait),.map (YE (.int .i64 1) lost)])⟩ A.length (X.length+1+1)=some (.map (YE (.int .i64 1) lost)):=by
  rw[St.get_cur,List.getElem?_cons_succ,QI];rfl
 have hlo:(YE (.int .i64 1) lost).length=lost.length:=by unfold YE;rw[List.length_map]
 rw[<- hlo];generalize YE (.int .i64 1) lost=ml at *;generalize YE (.bool true) wait=mw at *;change S TZ JM _ _=some (.tup [_,_,.map A.length (X.length+1+1),_],⟨A,false,_::(X++[.map mw,.map ml])⟩) at hP;generalize X++[Blk.map mw,Blk.map ml]=Y' at *;generalize X.length+1+1=j at *;repeat'(first|refine IH Y gq ?_|refine JS Y ?_|refine ruS Y ?_|refine isS Y ?_|refine rkS Y ?_|refine cm0 Y Y Y ?_ ?_|(intro _;try omega)|refine Zf Y Y Y ?_|refine ZX Y Y Y ?_|refine Qn Y Y Y Y Y Y ?_|refine ZA Y Y Y (hP) ?_|refine ZA Y Y Y (hS _) ?_)
 all_goals try contradiction
 change QT false _ (Ex.ret,[(6,.ptr A.length 0 0 0 0),(7,.int .i64 0)],⟨A,false,Blk.arr 5 0 [.agg [.int .i64 kn,.int .i64 wait.length,.int .i64 r.free.length,.int .i64 (Z2 r.states 2).length,.int .i64 ml.length]]::Y'⟩)=_;exact Xu hA (.inr Y) Y Y Y Y Y Y
theorem Oi(l:List Int):∀n,(Qr l 0 n).length+(Qr l 1 n).length+(Qr l 2 n).length<=n
 | 0=>by simp[Qr]
 | n+1=>by
  have ih:=Oi l n;rw[F4,F4,F4,lL,lL,lL];by_cases h0:l[n]?=some 0
  ·rw[if_pos h0,if_neg (by rw[h0];simp),if_neg (by rw[h0];simp)];simp only[List.length_singleton,List.length_nil];omega
  ·by_cases h1:l[n]?=some 1
   ·rw[if_neg h0,if_pos h1,if_neg (by rw[h1];simp)];simp only[List.length_singleton,List.length_nil];omega
   ·rw[if_neg h0,if_neg h1]
    by_cases h2:l[n]?=some 2
    ·rw[if_pos h2];simp only[List.length_singleton,List.length_nil];omega
    ·rw[if_neg h2];simp only[List.length_nil];omega
theorem E1{m:List Nat}(hn:l.Nodup)(h:∀o∈l,o∈m):l.length<=m.length:=by
 induction l generalizing m with
 | nil=>simp
 | cons a l ih =>
  rw[List.nodup_cons]at hn;have ha:=h a (by simp);have:=ih (m:=m.erase a) hn.2 fun o ho=>(List.mem_erase_of_ne (fun e=>hn.1 (by rw[<- e];exact ho))).2 (h o (by simp[ho]))
  have hl:=List.length_erase_of_mem ha;have:=List.length_pos_of_mem ha;simp only[List.length_cons];omega
theorem V7{r:AR}(ho:AROk r):r.n<=(Z2 r.states 0).length:=by
 have h1:((List.range r.n).map fun i=>((r.blk[i]?).getD 0).toNat).Nodup:=by
  rw[List.Nodup,List.pairwise_map];refine List.pairwise_lt_range.imp_of_mem fun {i j} hi hj hij e=>?_
  rw[List.mem_range]at hi hj;obtain⟨s,a1,a2,a3⟩:=ho.stk i hi;obtain⟨t,b1,b2,b3⟩:=ho.stk j hj;have e2:((r.blk[i]?).getD 0).toNat=((r.blk[j]?).getD 0).toNat:=e;rw[a1,b1]at e2;have e3:s=t:=by simpa using e2
  have:=ho.nd i j hi hj (by rw[a1,b1,e3]);omega
 have h2:=E1 (m:=Z2 r.states 0) h1 fun o hm=>by
  obtain⟨i,hi,rfl⟩:=List.mem_map.1 hm;rw[List.mem_range]at hi;obtain⟨s,a1,a2,a3⟩:=ho.stk i hi;unfold Z2 Qr;rw[List.mem_filter,List.mem_range,a1];exact⟨a2,by simp[a3]⟩
 simpa using h2
theorem ZrR{r:AR}(ho:AROk r)(hk:KdP r)(hn:r.nodes.length+r.n=r.states.length):(ZJ r).length+r.n+(Z2 r.states 2).length=r.states.length:=by
 obtain⟨l,h1,h2,h3⟩:=hk;have a1:=E1 (m:=ZJ r) h1 fun o hm=>by obtain⟨x,hx⟩:=h2 o hm;exact GK ho hx
 have a2:=V7 ho;have a3:=Oi r.states r.states.length;have a4:(ZJ r).length=(Z2 r.states 1).length:=by unfold ZJ;rw[List.length_map]
 unfold Z2 at *;omega
structure RpOk(r:AR)(ck ins lm live:List Nat):Prop where
 ln:ck.length=ins.length
 mem:∀o,o∈ins↔o∈ck
 sum:ck.length+(Jx ck lm).length+(QZ ck lm live).length=live.length
 btw:(live.filter fun o=>decide (o∉ck/\o∈lm)).length=(Jx ck lm).length
 small:ck.length<=16384/\(Jx ck lm).length<=16384/\(QZ ck lm live).length<=16384/\live.length<=16384/\lm.length<=16384
theorem Iw{r:AR}(ho:AROk r)(hg:GoodN r.nodes){rs:List Ro}(hrs:∀x∈rs,RtOk r.nodes x)(hn:lm.Nodup)(hlm:∀o∈lm,o∈ZJ r):
 RpOk r (QO r rs) (atL r.nodes 1 rs) lm (ZJ r):=by
 have h6:=ho.h64;have hcn:(QO r rs).Nodup:=Ez r.nodes rs;have hmem:∀o,o∈atL r.nodes 1 rs↔o∈QO r rs:=fun o=>by
  rw[V2 hg h6 hrs];exact cntR_key.symm
 have hli:∀o∈QO r rs,o∈ZJ r:=fun o h=>ZrL ho hg hrs ((hmem o).2 h)
 have hlen:=Yr ho;have hnd:=GL ho;have l1:=E1 hcn hli;have l2:=E1 hn hlm;have l3:(Jx (QO r rs) lm).length<=lm.length:=by unfold Jx;exact List.length_filter_le _ _
 have l4:=(Cu (ck:=QO r rs) (lm:=lm) (live:=ZJ r)).length_le;have p0:=(GH (ZvM hg h6 (n:=1) hrs) hcn hmem).length_eq;generalize QO r rs=ck at *;generalize ZJ r=live at *;have s1:=Vy live ck;have p1:=(GH (hnd.filter fun o=>decide (o∈ck)) hcn fun o=>by rw[List.mem_filter,decide_eq_true_eq];exact⟨fun h=>h.2,fun h=>⟨hli o h,h⟩⟩).length_eq;have s2:=Vy (live.filter fun o=>decide (o∉ck)) (Jx ck lm);have p2:=(GH ((hnd.filter fun o=>decide (o∉ck)).filter fun o=>decide (o∈Jx ck lm)) (hn.filter fun o=>decide (o∉ck)) fun o=>by
  unfold Jx;simp only[List.mem_filter,decide_eq_true_eq];exact⟨fun h=>h.2,fun h=>⟨⟨hlm o h.1,h.2⟩,h⟩⟩).length_eq
 have p3:=(GH (hnd.filter fun o=>decide (o∉ck/\o∈lm)) (hn.filter fun o=>decide (o∉ck)) fun o=>by
  simp only[List.mem_filter,decide_eq_true_eq];exact⟨fun h=>⟨h.2.2,h.2.1⟩,fun h=>⟨hlm o h.1,h.2,h.1⟩⟩).length_eq
 refine⟨p0.symm,hmem,?_,p3,by omega⟩;unfold QZ;change ((live.filter fun o=>decide (o∉ck)).filter fun o=>decide (o∈Jx ck lm)).length=(Jx ck lm).length at p2;omega
theorem ZvO{b lv:Nat}{N:ZC}(hN:GoodN N)(h6:Cs N)(hK:∀l,Lv N l->l.length<=16384)(hR:Rd st la (b+5) N){rs:List Ro}(hrs:∀r∈rs,RtOk N r)(hl:rs.length<=100)(g:St.get st lv ix=some (.arr 5 ver (rs.map Ro.av))):
 S TX XZ [.ptr la (b+5) 0 0 0,.ref lv ix ver 0 rs.length] st=some (.tup [.lit ((atL N 1 rs).map Zj),.int .i64 0],st):=by
 refine Zv (leX XZ (.pf DM) (leW XZ (.pf DM) (leV XZ (.pf DM) (le3 XZ (.pf DM) Y)))) (fun A hA=>?_);have hC:=up3X (V3 (A:=A) (L:=[]) hN (fun L=>hR.push hA (ro:=false) (L:=L)) hrs hl (fun L=>ZD hA (ro:=false) (L:=L) g));have hg:St.get ⟨A,false,([]++JP rs)++(.map (Jo (JX N rs))::JP rs)⟩ A.length (([]++JP rs):List Blk).length=some (.map (Jo (JX N rs))):=by
  simp only[St.get,if_true];rw[List.getElem?_append_right (Nat.le_refl _),Nat.sub_self];rfl
 have hL:=Od (n0:=1) (Nat.le_refl _) hg (Ez N rs) (GJ hN h6 hrs) (by have:=Vv hN hK hrs;omega);change _=some (AV.lit ((atL N 1 rs).map Zj),_) at hL;generalize JX N rs=c at *;generalize ([]++JP rs:List Blk)=X at *;repeat'(first|refine ruS Y ?_|refine isS Y ?_|refine rkS Y ?_|refine cm0 Y Y Y ?_ ?_|(intro _;try omega)|refine ZA Y Y Y (hC) ?_|refine ZA Y Y Y (hL) ?_)
 all_goals try contradiction
 all_goals refine ZQ hA (by simp) Y Y Y Y ?_
 all_goals rfl
section
variable {O:Orc}{k:List Fr}{Q:JD}{e:Env}{A:List (Bool × List Blk)}{X:List Blk}{keep:List Nat}{is:List QAbs.PI}{d:Nat}
theorem ZrS{bytes:Nat}{s x:Opd}{es:LV}{y:AV}(hs:ZL e s=some (.ref A.length ix ver 0 n))(hx:ZL e x=some (.lit [y]))(hi:ix=X.length)(hb:n=es.length)(hl:es.length+1<4294967296)(hw:bytes<=4096)(hsm:y.wide=some w)
 (hm:ZI Zs (A.length+1) ⟨A,false,X++[Blk.arr w ver es]⟩ y=some (y,⟨A,false,X++[Blk.arr w ver es]⟩)) (h:Is O is keep k Q ((d,.ref A.length ix (ver+1) 0 (n+1))::e) ⟨A,false,X++[Blk.arr w (ver+1) (es++[y])]⟩) :
 Is O (⟨some d,none,false,.app w bytes s x⟩::is) keep k Q e ⟨A,false,X++[Blk.arr w ver es]⟩:=by
 subst hi;refine K8 hs hx (List.getElem?_concat_length ..) hb hl hw hsm hm ?_;rw[List.set_append_right _ _ (Nat.le_refl _),Nat.sub_self];exact h
end
theorem V8{b lv:Nat}{r:AR}(ho:AROk r)(hg:GoodN r.nodes)(hH:HasR st la b r){rs:List Ro}(hrs:∀x∈rs,RtOk r.nodes x)(hl:rs.length<=100)(g:St.get st lv ix=some (.arr 5 ver (rs.map Ro.av))):
 S TZ Qd [.ptr la (b+5) 0 0 0,.ref lv ix ver 0 rs.length,.lit []] st=some (.tup [.lit ((QZ (QO r rs) [] (ZJ r)).map Zj),.int .i64 0],st):=Zlc (lm:=[]) ho hg hH hrs hl g .nil (by simp)
theorem Zn5{b lv:Nat}{r:AR}(ho:AROk r)(hg:GoodN r.nodes)(hH:HasR st la b r){rs:List Ro}(hrs:∀x∈rs,RtOk r.nodes x)(hl:rs.length<=100)(g:St.get st lv ix=some (.arr 5 ver (rs.map Ro.av))):
 S TZ Q0 [.ptr la (b+5) 0 0 0,.ref lv ix ver 0 rs.length,.lit []] st=some (.tup [GM r (QO r rs) [],.int .i64 0],st):=V6 (lm:=[]) ho hg hH hrs hl g .nil (by simp)
theorem ZkC{L:List Blk}{lv:Nat}{ros:List Ro}(hn:n=ros.length)(hb:n<65536)(gL:∀T,St.get ⟨A,false,L++T⟩ lv ix=some (.arr 5 ver (ros.map Ro.av))):
 S Tb Y2 [.ref lv ix ver 0 n] ⟨A,false,L⟩=some (.ref A.length L.length n 0 n,⟨A,false,L++[.arr 5 n (ros.map Ro.av)]⟩):=by
 subst hn;refine X4 Y ?_;have hw:∀T,wIs 5 ver (St.get ⟨A,false,L++T⟩ lv ix)=true:=fun T=>by rw[gL];simp[wIs]
 have p1:∀r:Ro,Qs r.av true 0 5=some r.av:=fun r=>rfl
 repeat'(first|refine Nx ?_|refine ruS Y ?_|refine isS Y ?_|refine ZO ?_)
 all_goals try contradiction
 refine Ze (α:=Nat) (fun i=>[(0,.ref lv ix ver 0 ros.length),(3,.ref A.length L.length i 0 i),(4,.int .i64 i)]) (fun i=>⟨A,false,L++[.arr 5 i ((ros.take i).map Ro.av)]⟩) (fun i=>i<=ros.length) (fun i=>ros.length-i) 0 Y Y (Nat.zero_le _) ?_;intro i hi;rcases Nat.lt_or_ge i ros.length with hlt|hge
 ·obtain⟨x,hx⟩:∃x,ros[i]?=some x:=⟨ros[i]'hlt,jE _⟩
  have q:(ros.map Ro.av)[0+((i:Nat):Int).toNat]?=some x.av:=by rw[show 0+((i:Nat):Int).toNat=i by omega,jG,hx];rfl
  have ht:ros.take (i+1)=ros.take i++[x]:=ZF hx;have hes:((ros.take i).map Ro.av).length=i:=by simp;omega
  have sR:∀(b:Nat) (st:St),ZI Zs b st x.av=some (x.av,st):=fun b st=>by cases x;rfl
  have wR:x.av.wide=some 5:=by cases x;rfl
  repeat'(first|refine JH Y Y (by omega) (hw _) ?_|refine Zk Y (gL _) q (p1 _) ?_|refine ZrS Y Y Y hes.symm (by omega) (by decide) wR (sR _ _) ?_|refine ruS Y ?_|refine isS Y ?_|refine rkS Y ?_|refine Z6 Y ?_|refine cm0 Y Y Y ?_ ?_|(intro _;try omega)|refine ZV Y Y (by omega) ?_|refine Z7 Y Y Y Y ?_)
  all_goals try first|contradiction|omega
  all_goals exact⟨i+1,⟨rfl,by rw[ht,List.map_append];rfl⟩,by omega,by omega⟩
 ·obtain rfl:i=ros.length:=by omega
  rw[List.take_length];repeat'(first|refine ruS Y ?_|refine isS Y ?_|refine rkS Y ?_|refine Z6 Y ?_|refine cm0 Y Y Y ?_ ?_|(intro _;try omega))
  all_goals try omega
  exact (Jq (.inr Y) Y Y Y Y).trans Y
theorem Zn6(dd m:List Nat):ZG (ZS ([]++[slH dd,.lit (m.map Zj)]++[]))=some [.lit (dd.map Zj),.lit (m.map Zj)]:=by
 unfold slH;split
 ·rename_i h;subst h;rfl
 ·rfl
theorem Zn7(dd m:List Nat):ZG (ZS ([]++[.lit (m.map Zj),slH dd]++[]))=some [.lit (m.map Zj),.lit (dd.map Zj)]:=by
 unfold slH;split
 ·rename_i h;subst h;rfl
 ·rfl
namespace Tr
mutual
theorem wr_stl:∀(t:Tr) (r:AR),(t.wr r).1.stale=r.stale/\(t.wr r).1.frees=r.frees
 | .mk o h m s k,r=>by
  unfold wr;by_cases ho:o≠0
  ·rw[if_pos ho];exact⟨rfl,rfl⟩
  ·rw[if_neg ho]
   by_cases hh:h=0
   ·rw[if_pos hh];exact⟨rfl,rfl⟩
   ·rw[if_neg hh]
    obtain⟨h1,h2⟩:=Ztp k r;exact⟨by simp[AR.add,AR.alloc,AR.take,h1],by simp[AR.add,AR.alloc,AR.take,h2]⟩
theorem Ztp:∀(k:Option (List Tr)) (r:AR),(wrO k r).1.stale=r.stale/\(wrO k r).1.frees=r.frees
 | none,r=>by unfold wrO;exact⟨rfl,rfl⟩
 | some l,r=>by unfold wrO;exact V9 l r
theorem V9:∀(l:List Tr) (r:AR),(wrL l r).1.stale=r.stale/\(wrL l r).1.frees=r.frees
 | [],r=>by unfold wrL;exact⟨rfl,rfl⟩
 | t::l,r=>by
  unfold wrL;obtain⟨h1,h2⟩:=wr_stl t r;obtain⟨h3,h4⟩:=V9 l (t.wr r).1;exact⟨h3.trans h1,h4.trans h2⟩
end
end Tr
theorem Oj(t:Tr)(r:AR):(wrV t r).1.stale=r.stale/\(wrV t r).1.frees=r.frees:=by
 unfold wrV;split
 ·exact⟨rfl,rfl⟩
 ·exact t.wr_stl r
theorem Ol{N:ZC}{ros:List Ro}{ss:List B8}(h:Rts N ros ss):∀x∈ros,RtOk N x:=by
 intro x hx;obtain⟨i,hi,rfl⟩:=List.getElem_of_mem hx;have hi2:i<ss.length:=by rw[<- h.1];exact hi
 exact (h.2 i _ _ (jE hi) (jE hi2)).rt
structure MkR(r:AR)(ros:List Ro):Prop where
 stale:r.stale=0
 fr:r.frees=0
 rch:∀o x,lk r.nodes o=some x->∃ro∈ros,o∈ZY r.nodes ro
theorem MkR.wr{r:AR}{ros:List Ro}(h:MkR r ros)(ho:AROk r)(hg:GoodN r.nodes){t:Tr}(hv:VE r.nodes t)(hb:t.bytes<=65536)(hn:nw t<=r.n)(hrs:∀x∈ros,RtOk r.nodes x):MkR (wrV t r).1 (ros++[(wrV t r).2.1]):=by
 obtain⟨w1,w2⟩:=CI (Yq [] [] [] r) ho hg hv hb hn;refine⟨(Oj t r).1.trans h.stale,(Oj t r).2.trans h.fr,fun o x hx=>?_⟩;rcases w1.all o x hx with q|q
 ·obtain⟨ro,hro,hm⟩:=h.rch o x q
  exact⟨ro,by simp[hro],by rw[Ii hg w1.ext (hrs ro hro)];exact hm⟩
 ·exact⟨_,by simp,(Vo ho hg hv hb hn o).2 (.inl q)⟩
theorem Zn8(texts:List B8)(hl:texts.flatten.length<=900):∀i,i<=texts.length->MkR (Jw (texts.take i)).1 (Jw (texts.take i)).2:=by
 intro i;induction i with
 | zero=>intro _;exact⟨rfl,rfl,fun o x h=>by simp[Jw,Qq,lk]at h⟩
 | succ i ih =>
  intro hi;obtain⟨s,hs⟩:∃s,texts[i]?=some s:=⟨texts[i]'(by omega),by simp[show i<texts.length by omega]⟩
  have hl2:=Cp texts (i+1);have h:=GA texts hl i (by omega);obtain⟨hn,_⟩:=F_ (s:=s) h (by rw[<- ZF hs];omega);have hfl:=DZ hs;have hs2:s.length<=900:=by rw[hfl,lL]at hl2;omega
  obtain⟨b1,b2,b3⟩:=YY h.good (show s.length<=65536 by omega);rw[ZF hs,F9];exact (ih (by omega)).wr h.ok h.good b1 (by rw[b3];omega) hn (Ol h.rts)
theorem Ztq(texts:List B8)(ys:List Ed)(h9:texts.flatten.length<=900/\texts.length<=4)(hy12:ys.length<=12)(hys:∀y∈ys,y.text.length<=200)(A:List (Bool × List Blk)):
 Sp Tb Yk [.lit (texts.map .str),.lit (ys.map Ed.av)] ⟨A,false,[]⟩ (fun v st'=>∃r c ros ss G0 G1 n,v=.tup [.ptr A.length 5 0 0 0,.ref A.length 6 n 0 n,.ref A.length (7+G0.length) c 0 n,.bool true]/\st'=⟨A,false,ltL A.length r n ros G0 c ss G1⟩/\MkInv r ros ss n 3300/\MkR r ros):=by
 refine Se (rfl:Tb Yk=some (.pf Hp)) ?_;have hLd:=Zun texts h9.1 h9.2 A [];have hLok:=GA texts h9.1 texts.length (Nat.le_refl _);have hnl0:=Zqc texts h9.1 texts.length (Nat.le_refl _);rw[List.take_length]at hLok hnl0;have hsl0:=Zqf texts;have hkd0:=Zqg texts h9.1 texts.length (Nat.le_refl _);rw[List.take_length]at hkd0;have hmr0:=Zn8 texts h9.1 texts.length (Nat.le_refl _);rw[List.take_length]at hmr0;have hrl:=hLok.rts.1;obtain⟨r0,ros0,hV⟩:∃r0 ros0,Jw texts=(r0,ros0):=⟨_,_,rfl⟩;rw[hV]at hLd hLok hrl hnl0 hsl0 hkd0 hmr0;simp only at hLd hLok hrl hnl0 hsl0 hkd0 hmr0;have hG:(Bp ros0).length=texts.length:=by unfold Bp;rw[List.length_map,hrl]
 generalize Bp ros0=G0 at *;change S Tb Yl [.lit (texts.map .str)] ⟨A,false,[]⟩=some (.tup [.ptr A.length 5 0 0 0,.ref A.length 6 texts.length 0 texts.length,.bool true],⟨A,false,r0.b0::r0.b1::r0.b2::r0.b3 A.length 0::r0.b4::r0.b5 A.length 0::.arr 5 texts.length (ros0.map Ro.av)::G0⟩) at hLd;repeat'(first|refine ruS Y ?_|refine isS Y ?_|refine ZO ?_|refine Z7 Y Y Y Y ?_|refine ZA Y Y Y (hLd) ?_)
 all_goals try contradiction
 refine IJ (vx:=.lit (texts.map .str)) (ys:=texts.map .str) (bytes:=16) Y Y Y (by rw[List.length_map];omega) (by decide) (Znu _) ?_;repeat'(first|refine ruS Y ?_|refine isS Y ?_|refine ZO ?_)
 have hl7:(r0.b0::r0.b1::r0.b2::r0.b3 A.length 0::r0.b4::r0.b5 A.length 0::Blk.arr 5 texts.length (ros0.map Ro.av)::G0).length=7+G0.length:=by simp;omega
 rw[hl7,List.length_map]
 refine Ze (α:=Nat × Nat × AR × List Ro × List B8 × List Blk) (fun q=>[(1,.lit (ys.map Ed.av)),(8,.ptr A.length 5 0 0 0),(9,.ref A.length 6 (texts.length+q.2.1) 0 (texts.length+q.2.1)),(11,.ref A.length (7+G0.length) q.2.1 0 (texts.length+q.2.1)),(12,.int .i64 q.1)])
  (fun q=>⟨A,false,ltL A.length q.2.2.1 (texts.length+q.2.1) q.2.2.2.1 G0 q.2.1 q.2.2.2.2.1 q.2.2.2.2.2⟩) (fun q=>q.1<=ys.length/\q.2.1<=q.1/\MkInv q.2.2.1 q.2.2.2.1 q.2.2.2.2.1 (texts.length+q.2.1) (900+200*q.1)/\MkR q.2.2.1 q.2.2.2.1) (fun q=>ys.length-q.1) (0,0,r0,ros0,texts,[]) rfl rfl ⟨Nat.zero_le _,Nat.zero_le _,⟨hLok.ok,hLok.good,hLok.rts,hrl,by simp only;omega,ZlT h9.1,hnl0,hsl0,hkd0⟩,hmr0⟩ ?_
 rintro⟨i,c,r,ros,ss,G1⟩ ⟨hi,hci,hI,hR⟩;simp only at hi hci hI hR ⊢;have hsl:=hI.rts.1;have hrs:=hI.len;rcases Nat.lt_or_ge i ys.length with hlt|hge
 ·obtain⟨y,hyi⟩:∃y,ys[i]?=some y:=⟨ys[i]'(by omega),by simp[hlt]⟩
  have hy2:=hys y (jM hyi);have hP:PlanOk r.nodes ros:=hI.plan (by omega);obtain⟨hv,hvb⟩:=ZqS hI.good hP hy2;have hvs:=Zqd hI.good hP hy2 (B:=((900+200*i:Nat):Int)) (by omega) hI.mb;have hPl:=fun L (hR:Rd ⟨A,false,L⟩ A.length 5 r.nodes) (hg:St.get ⟨A,false,L⟩ A.length 6=some (.arr 5 (texts.length+c) (ros.map Ro.av)))=>ZtR (b:=0) hI.good hR hg hP (ys:=[y]) (by simp) (fun z hz=>by rw[List.mem_singleton]at hz;rw[hz];exact hy2)
  have hPl:=hPl _ VB (OD (OW (r:=r) (v:=texts.length+c) (G0:=G0) (w:=c) (ss:=ss) (G1:=G1)) rfl);have hTx:=Zua hI.good (VB (A:=A) (r:=r) (v:=texts.length+c) (ros:=ros) (G0:=G0) (w:=c) (ss:=ss) (G1:=G1)) hv (by omega);have hln:=hv.len hI.good;simp only[jC,List.map_nil]at hPl;rw[hrs]at hPl;generalize hT:Aq r.nodes ros y=t at *;rcases Nat.lt_or_ge r.n (nw t) with hfull|hroom
  ·have hWr:=U2 (GB (A:=A) (r:=r) (v:=texts.length+c) (ros:=ros) (G0:=G0) (w:=c) (ss:=ss) (G1:=G1)) hI.ok hI.good hv (by omega) hfull
   have eb:=VC (n:=A.length) (r:=r) (v:=texts.length+c) (ros:=ros) (G0:=G0) (w:=c) (ss:=ss) (G1:=G1) (.arr 5 0 [Ro.zero.av]);generalize ltL A.length r (texts.length+c) ros G0 c ss G1=L1 at *;repeat'(first|refine JS Y ?_|refine VD Y Y Y Y hyi ?_|refine QY (f:=Tr.av) (l:=[t]) Y Y ⟨by decide,rfl⟩ Zn ?_|refine ruS Y ?_|refine isS Y ?_|refine rkS Y ?_|refine cm0 Y Y Y ?_ ?_|(intro _;try omega)|refine ZV Y Y (by omega) ?_|refine Zi Y Y Y ?_|refine Jr Y Y Y Y Y Y ?_|refine Zx Y (Zb _) ?_|refine zA0 Y Y (hPl) ?_|refine zA0 Y Y (hTx) ?_|refine zA0 Y Y (hWr) ?_)
   all_goals try first|contradiction|omega
   refine⟨(i+1,c,r,ros,ss,G1++[Blk.arr 5 0 [Ro.zero.av]]),⟨rfl,?_⟩,⟨by simp only;omega,by simp only;omega,⟨hI.ok,hI.good,hI.rts,hrs,hI.n20,fun s hs=>by have:=hI.small s hs;simp only;omega,hI.nl,hI.sl,hI.kd⟩,hR⟩,by simp only;omega⟩;exact congrArg (St.mk A false) eb
  ·have hWr:=OF (GB (A:=A) (r:=r) (v:=texts.length+c) (ros:=ros) (G0:=G0) (w:=c) (ss:=ss) (G1:=G1)) hI.ok hI.good hv (by omega) hroom
   rw[Zuq]at hWr;obtain⟨w1,w2⟩:=CI (GB (A:=A) (r:=r) (v:=texts.length+c) (ros:=ros) (G0:=G0) (w:=c) (ss:=ss) (G1:=G1)) hI.ok hI.good hv (by omega) hroom;have f6:(ltL A.length (wrV t r).1 (texts.length+c) ros G0 c ss G1)[6]?=_:=OW;have f7:(ltL A.length (wrV t r).1 (texts.length+c) ros G0 c ss G1)[7+G0.length]?=_:=lt_7;have n1:=w1.n;have n2:=w1.nl;have n3:=hI.nl;have n4:=hI.n20;have v1:=OY t r;have v2:=hI.sl;have v3:=hI.kd.wr w1;have v4:=hR.wr hI.ok hI.good hv (by omega) hroom (Ol hI.rts);generalize hL2:ltL A.length (wrV t r).1 (texts.length+c) ros G0 c ss G1=L2 at *;generalize ltL A.length r (texts.length+c) ros G0 c ss G1=L1 at *;generalize (wrV t r).1=r2 at *;generalize (wrV t r).2.1=ro at *;generalize (wrV t r).2.2=hh at *;generalize hTT:t.txt r.nodes=T at *;have hl6:=(List.getElem?_eq_some_iff.1 f6).1;have hl7':=(List.getElem?_eq_some_iff.1 f7).1;repeat'(first|refine JS Y ?_|refine VD Y Y Y Y hyi ?_|refine QY (f:=Tr.av) (l:=[t]) Y Y ⟨by decide,rfl⟩ Zn ?_|refine ruS Y ?_|refine isS Y ?_|refine ZO ?_|refine QU Y Y Y ?_|refine cm0 Y Y Y ?_ ?_|(intro _;try omega)|refine ZV Y Y (by omega) ?_|refine Zi Y Y Y ?_|refine Jr Y Y Y Y Y Y ?_|refine Z7 Y Y Y Y ?_|refine Zx Y (Zb _) ?_|refine zA0 Y Y (hPl) ?_|refine zA0 Y Y (hTx) ?_|refine zA0 Y Y (hWr) ?_)
   all_goals try first|contradiction|omega
   refine BL (es:=ros.map Ro.av) (ys:=[ro.av]) Y Y (CE f6) (by rw[List.length_map];omega) rfl rfl (by rw[List.length_map,List.length_singleton];omega) (by decide) ?_;repeat'(first|refine Qv ?_|refine isS Y ?_|refine ZO ?_|refine Z7 Y Y Y Y ?_)
   refine BL (es:=ss.map .str) (ys:=[.str T]) Y Y ((jS (by omega)).trans (CE f7)) (by rw[List.length_map];omega) rfl rfl (by rw[List.length_map,List.length_singleton];omega) (by decide) ?_;repeat'(first|refine Qv ?_|refine isS Y ?_|refine rkS Y ?_|refine ZV Y Y (by omega) ?_)
   refine⟨(i+1,c+1,r2,ros++[ro],ss++[T],G1++[.arr 5 0 [ro.av]]),⟨rfl,?_⟩,⟨by simp only;omega,by simp only;omega,⟨w1.ok,w1.good,(hI.rts.ext hI.good w1.ext).snoc w2,by simp only[lL,List.length_singleton];omega,by simp only;omega,fun s hs=>?_,by simp only;omega,⟨v1.2.trans v2.1,v1.1.trans v2.2⟩,v3⟩,v4⟩,by simp only;omega⟩
   ·show (⟨A,false,((L2++[Blk.arr 5 0 [ro.av]]).set 6 (Blk.arr 5 (texts.length+c+1) (ros.map Ro.av++[ro.av]))).set (7+G0.length) (Blk.arr 1 (c+1) (ss.map AV.str++[AV.str T]))⟩:St)=_
    rw[<- hL2,VC,ZtV,ZtW];rfl
   ·rcases List.mem_append.1 hs with q|q
    ·have:=hI.small s q;simp only;omega
    ·rw[List.mem_singleton.1 q];simp only;omega
 ·obtain rfl:i=ys.length:=by omega
  repeat'(first|refine JS Y ?_|refine ruS Y ?_|refine isS Y ?_|refine rkS Y ?_|refine cm0 Y Y Y ?_ ?_|(intro _;try omega))
  all_goals try omega
  refine⟨_,_,Jq (.inr Y) Y Y Y Y,r,c,ros,ss,G0,G1,texts.length+c,rfl,rfl,⟨hI.ok,hI.good,hI.rts,hrs,hI.n20,fun s hs=>?_,hI.nl,hI.sl,hI.kd⟩,hR⟩;have:=hI.small s hs;omega
def Nk(N:ZC):Prop:=(N.map Prod.fst).Nodup
theorem V_{N:ZC}(h:lk N o=some x):o∈N.map Prod.fst:=by
 induction N with
 | nil=>simp[lk]at h
 | cons p l ih =>
  rw[lk]at h;by_cases q:p.1=o
  ·simp[q]
  ·rw[if_neg q]at h;rw[jC];exact List.mem_cons_of_mem _ (ih h)
theorem ZrU{N:ZC}(h:o∉N.map Prod.fst):lk N o=none:=by
 cases hx:lk N o with
 | none=>rfl
 | some x=>exact absurd (V_ hx) h
theorem ZkD(hl:l.Nodup):∀ {m:List Nat},(∀o∈l,o∈m)->l.length=m.length->m.Nodup:=by
 induction l with
 | nil=>intro m _ he;have:m=[]:=List.eq_nil_of_length_eq_zero he.symm;subst this;exact .nil
 | cons a l ih =>
  intro m h he;have hl':=hl;rw[List.nodup_cons]at hl;have ha:=h a (by simp);have hel:=List.length_erase_of_mem ha;have hpos:=List.length_pos_of_mem ha;rw[List.length_cons]at he;have hsub:∀o∈l,o∈m.erase a:=fun o ho=>(List.mem_erase_of_ne (fun e=>hl.1 (by rw[<- e];exact ho))).2 (h o (by simp[ho]))
  have h1:=ih hl.2 hsub (by omega);refine (List.perm_cons_erase ha).nodup_iff.2 (List.nodup_cons.2 ⟨fun hm=>?_,h1⟩);have:=E1 hl' (m:=m.erase a) (fun o ho=>by
   rcases List.mem_cons.1 ho with e|q
   ·rw[e];exact hm
   ·exact hsub o q)
  rw[List.length_cons]at this;omega
theorem KdP.nk{r:AR}(h:KdP r):Nk r.nodes:=by
 obtain⟨l,h1,h2,h3⟩:=h;exact ZkD h1 (fun o ho=>by obtain⟨x,hx⟩:=h2 o ho;exact V_ hx) (by rw[List.length_map];exact h3)
theorem WA(o:Nat):∀N:ZC,(AO o N).Sublist N
 | []=>.slnil
 | p::l=>by
  rw[AO];split
  ·exact .cons _ (List.Sublist.refl l)
  ·exact .cons_cons _ (WA o l)
theorem Nk.del{N:ZC}(h:Nk N)(o:Nat):Nk (AO o N):=h.sublist ((WA o N).map _)
theorem Om{o:Nat}:∀ {N:ZC},Nk N->lk (AO o N) o=none
 | [],_=>rfl
 | p::l,h=>by
  unfold Nk at h;rw[jC,List.nodup_cons]at h;rw[AO];by_cases q:p.1=o
  ·rw[if_pos q];exact ZrU (by rw[<- q];exact h.1)
  ·rw[if_neg q,lk,if_neg q];exact Om (N:=l) h.2
theorem AROk.del{r:AR}(h:AROk r)(hk:Nk r.nodes)(hx:lk r.nodes o=some x)(hf:r.frees+1<=900000):AROk (r.del o):=by
 obtain⟨s,g,k1,k2,k3,k4⟩:=h.key o x hx;have h16:=h.n16;have es:o % 65536=s:=by omega
 have eg:o / 65536=g:=by omega
 have hfr:=h.fr;have hal:=h.al;have hnb:=h.nb;have hnn:=h.nn;obtain⟨g',j1,j2,j3⟩:=h.gen s k2;have egg:(g:Int)=g':=by rw[k4]at j1;exact Option.some.inj j1
 have hkey:∀p y,lk (AO o r.nodes) p=some y->∃s2 g2:Nat,p=g2*65536+s2/\s2<r.states.length/\r.states[s2]?=some 1/\r.gens[s2]?=some (g2:Int)/\s2≠s:=fun p y hy=>by
  have hne:p≠o:=fun e=>by subst e;rw[Om hk]at hy;simp at hy
  rw[GC hne]at hy;obtain⟨s2,g2,a1,a2,a3,a4⟩:=h.key p y hy;refine⟨s2,g2,a1,a2,a3,a4,fun e=>hne ?_⟩;subst e;rw[k4]at a4;have:=Option.some.inj a4;omega
 have hstk:∀i,i<r.n->∃s2:Nat,r.blk[i]?=some (s2:Int)/\s2<r.states.length/\r.states[s2]?=some 0/\s2≠s:=fun i hi=>by
  obtain⟨s2,a1,a2,a3⟩:=h.stk i hi;exact⟨s2,a1,a2,a3,fun e=>by subst e;rw[k3]at a3;simp at a3⟩
 by_cases hm:r.gens[s]?=some r.most
 ·have e : r.del o = { r with states := r.states.set s 2, nodes := AO o r.nodes, frees := r.frees + 1 } := by
   unfold AR.del AR.give;rw[es,if_pos hm]
  rw[e];refine⟨hnb,by simpa using h16,by simpa using hnn,by simpa using h.gl,fun i hi=>?_,h.nd,fun s2 hs=>?_,h.most,fun p y hy=>?_,by simp only;omega,by simp only;omega,h.sl⟩
  ·obtain⟨s2,a1,a2,a3,a4⟩:=hstk i hi
   exact⟨s2,a1,by simpa using a2,by rw[jS (Ne.symm a4)];exact a3⟩
  ·exact h.gen s2 (by simpa using hs)
  ·obtain⟨s2,g2,a1,a2,a3,a4,a5⟩:=hkey p y hy
   exact⟨s2,g2,a1,by simpa using a2,by rw[jS (Ne.symm a5)];exact a3,a4⟩
 ·have e : r.del o = { r with gens := r.gens.set s ((g : Nat) + 1), states := r.states.set s 0, blk := r.blk.take r.n ++ [(s : Int)], n := r.n + 1, ver := r.ver + 1, nodes := AO o r.nodes, frees := r.frees + 1 } := by
   unfold AR.del AR.give;rw[es,if_neg hm,eg]
  have hlt:r.n+1<=r.states.length:=by
   have f1:=V7 h;have f2:=Oi r.states r.states.length;have f3:0<(Z2 r.states 1).length:=List.length_pos_of_mem (a:=s) (by
    unfold Z2 Qr;rw[List.mem_filter,List.mem_range];exact⟨k2,by simp[k3]⟩)
   unfold Z2 at *;omega
  have hgm:(g:Int)+1<=r.most:=by
   have:(g:Int)≠r.most:=fun e=>hm (by rw[k4,e])
   omega
  have hbt:(r.blk.take r.n).length=r.n:=by rw[List.length_take];omega
  have hb1:∀i,i<r.n->(r.blk.take r.n++[(s:Int)])[i]?=r.blk[i]?:=fun i hi=>by
   rw[jL (by omega),List.getElem?_take,if_pos hi]
  have hb2:(r.blk.take r.n++[(s:Int)])[r.n]?=some (s:Int):=by
   rw[List.getElem?_append_right (by omega),hbt];simp
  rw[e];refine⟨by simp only[lL,List.length_singleton];omega,by simpa using h16,by simpa using hlt,by simpa using h.gl,fun i hi=>?_,fun i j hi hj hij=>?_,fun s2 hs=>?_,h.most,fun p y hy=>?_,by simp only;omega,by simp only;omega,h.sl⟩
  ·simp only at hi ⊢
   rcases Nat.lt_or_ge i r.n with q|q
   ·obtain⟨s2,a1,a2,a3,a4⟩:=hstk i q
    exact⟨s2,by rw[hb1 i q];exact a1,by simpa using a2,by rw[jS (Ne.symm a4)];exact a3⟩
   ·obtain rfl:i=r.n:=by omega
    exact⟨s,hb2,by simpa using k2,by rw[List.getElem?_set_self k2]⟩
  ·simp only at hi hj hij
   rcases Nat.lt_or_ge i r.n with q|q<;>rcases Nat.lt_or_ge j r.n with q'|q'
   ·rw[hb1 i q,hb1 j q']at hij;exact h.nd i j q q' hij
   ·obtain rfl:j=r.n:=by omega
    rw[hb1 i q,hb2]at hij;obtain⟨s2,a1,a2,a3,a4⟩:=hstk i q;rw[a1]at hij;have:=Option.some.inj hij;omega
   ·obtain rfl:i=r.n:=by omega
    rw[hb1 j q',hb2]at hij;obtain⟨s2,a1,a2,a3,a4⟩:=hstk j q';rw[a1]at hij;have:=Option.some.inj hij;omega
   ·omega
  ·simp only[List.length_set]at hs
   by_cases q:s2=s
   ·subst q
    exact⟨g+1,by rw[List.getElem?_set_self (by rw[h.gl];exact k2)];simp,by omega,by simp only;omega⟩
   ·obtain⟨g2,b1,b2,b3⟩:=h.gen s2 hs
    exact⟨g2,by rw[jS (fun w=>q w.symm)];exact b1,b2,b3⟩
  ·obtain⟨s2,g2,a1,a2,a3,a4,a5⟩:=hkey p y hy
   exact⟨s2,g2,a1,by simpa using a2,by rw[jS (Ne.symm a5)];exact a3,by rw[jS (Ne.symm a5)];exact a4⟩
theorem Zn9{l:List Int}{s:Nat}(h1:s<l.length)(h2:l[s]?=some z):s∈Z2 l z:=by
 unfold Z2 Qr;rw[List.mem_filter,List.mem_range];exact⟨h1,by simp[h2]⟩
theorem ZrV{r:AR}(h:AROk r)(hx:lk r.nodes o=some x){p:Nat}(hp:p∈ZJ (r.del o)):p∈ZJ r/\p≠o:=by
 obtain⟨s,g,k1,k2,k3,k4⟩:=h.key o x hx;have h16:=h.n16;have es:o % 65536=s:=by omega
 unfold ZJ at hp;obtain⟨s2,hs2,rfl⟩:=List.mem_map.1 hp;obtain⟨m1,m2⟩:=Eu hs2;obtain⟨n1,n2⟩:=VI (r:=r) (o:=o) s2 m2;have n3:s2<r.states.length:=(List.getElem?_eq_some_iff.1 n2).1;have e:hOf (r.del o) s2=hOf r s2:=by
  unfold hOf;have eg:(r.del o).gens[s2]?=r.gens[s2]?:=by
   unfold AR.del AR.give;split
   ·rfl
   ·show (r.gens.set (o % 65536) _)[s2]?=_
    rw[jS (fun w=>n1 w.symm)]
  rw[eg]
 rw[e];refine⟨List.mem_map.2 ⟨s2,Zn9 n3 n2,rfl⟩,fun q=>n1 ?_⟩;rw[<- q];unfold hOf;omega
structure Dels(r:AR)(l:List Nat)(r':AR):Prop where
 ok:AROk r'
 nk:Nk r'.nodes
 lk:∀p,lk r'.nodes p=if p∈l then none else lk r.nodes p
 live:∀p∈ZJ r',p∈ZJ r/\p∉l
 stale:r'.stale=r.stale
 frees:r'.frees=r.frees+l.length
 sl:r'.slots=r.slots/\r'.states.length=r.states.length
theorem WB:∀ {l:List Nat} {r:AR},AROk r->Nk r.nodes->(∀o∈l,∃x,lk r.nodes o=some x)->l.Nodup->r.frees+l.length<=900000->Dels r l (AD r l)
 | [],r,h1,h2,_,_,_=>⟨h1,h2,fun p=>by simp[AD],fun p hp=>⟨hp,by simp⟩,rfl,by simp[AD],rfl,rfl⟩
 | o::l,r,h1,h2,h3,h4,h5=>by
  obtain⟨x,hx⟩:=h3 o (by simp);rw[List.nodup_cons]at h4;rw[List.length_cons]at h5;obtain⟨e1,e2,e3,e4,e5,e6,e7,e8⟩:=OX r o;have d:=WB (l:=l) (r:=r.del o) (h1.del h2 hx (by omega)) (h2.del o) (fun p hp=>by
   obtain⟨y,hy⟩:=h3 p (by simp[hp]);exact⟨y,by show lk (AO o r.nodes) p=_;rw[GC (fun e=>h4.1 (by rw[<- e];exact hp))];exact hy⟩) h4.2 (by show r.frees+1+_<=_;omega)
  refine⟨d.ok,d.nk,fun p=>?_,fun p hp=>?_,d.stale.trans e5,?_,d.sl.1.trans e2,d.sl.2.trans e7⟩
  ·show lk (AD (r.del o) l).nodes p=_
   rw[d.lk p];show (if p∈l then none else lk (AO o r.nodes) p)=_
   by_cases q:p=o
   ·subst q;rw[Om h2];simp
   ·rw[GC q]
    by_cases q2:p∈l
    ·simp[q2]
    ·simp[q2,q]
  ·obtain⟨a,b⟩:=d.live p hp
   obtain⟨a1,a2⟩:=ZrV h1 hx a;exact⟨a1,by simp[a2,b]⟩
  ·show (AD (r.del o) l).frees=_
   rw[d.frees,List.length_cons];show r.frees+1+_=_;omega
theorem Zle{N:ZC}(hN:GoodN N){r:Ro}(hr:RtOk N r)(ho:o∈ZY N r)(hx:lk N o=some x){k:Kid}(hk:k∈x.ks):k.at_∈ZY N r:=by
 unfold ZY at ho ⊢;split at ho
 ·simp at ho
 ·rename_i h0
  rw[if_neg h0];rcases hr with rfl|⟨_,y,y1,y2,y3,y4⟩
  ·exact absurd Y h0
  ·obtain⟨z,z1,z2,z3⟩:=GE hN r.h r.at_ y y1 y3 o ho
   rw[hx]at z1;obtain rfl:=Option.some.inj z1;obtain⟨_,w,w1,w2,_⟩:=(hN o x hx).2 k hk;refine z3 _ ?_;rw[show x.h=w.h+1 from w2.symm,QM,QS hx];refine List.mem_cons_of_mem _ (List.mem_flatMap.2 ⟨k,hk,?_⟩);cases w.h with
   | zero=>simp[QM]
   | succ n=>rw[QM];simp
theorem ZkF{N:ZC}{r:Ro}(h0:r.at_≠0):r.at_∈ZY N r:=by
 unfold ZY;rw[if_neg h0];cases r.h with
 | zero=>simp[QM]
 | succ n=>rw[QM];simp
theorem keyL_mem{r:AR}{rs:List Ro}:o∈QO r rs↔∃x∈rs,o∈ZY r.nodes x:=by
 unfold QO;rw[cntR_key];constructor<;>rintro⟨x,hx,h⟩
 ·exact⟨x,hx,onceV_mem.1 h⟩
 ·exact⟨x,hx,onceV_mem.2 h⟩
theorem lost_mem{live:List Nat}:o∈QZ ck [] live↔o∈live/\o∉ck:=by
 unfold QZ Jx;simp
theorem Ix{r:AR}(ho:AROk r)(hk:KdP r)(hn:r.nodes.length+r.n=r.states.length):∀o∈ZJ r,∃x,lk r.nodes o=some x:=by
 intro o hm;have hl:=ZrR ho hk hn;obtain⟨l,h1,h2,h3⟩:=hk;by_cases q:o∈l
 ·exact h2 o q
 ·have := E1 (l := o :: l) (m := ZJ r) (List.nodup_cons.2 ⟨q, h1⟩) fun p hp => by
   rcases List.mem_cons.1 hp with e|w
   ·rw[e];exact hm
   ·obtain⟨x,hx⟩:=h2 p w;exact GK ho hx
  rw[List.length_cons]at this;omega
theorem ZoA{r:AR}{ros:List Ro}(ho:AROk r)(hk:KdP r)(hn:r.nodes.length+r.n=r.states.length)(hR:MkR r ros):QZ (QO r ros) [] (ZJ r)=[]:=by
 refine List.eq_nil_iff_forall_not_mem.2 fun o h=>?_
 obtain⟨h1,h2⟩:=lost_mem.1 h;obtain⟨x,hx⟩:=Ix ho hk hn o h1;exact h2 (keyL_mem.2 (hR.rch o x hx))
theorem ZrW{N M:ZC}(hN:GoodN N)(hE:Ext M N)(hc:∀o x,lk M o=some x->∀k∈x.ks,∃y,lk M k.at_=some y):GoodN M:=by
 intro o x hx;obtain⟨h1,h2⟩:=hN o x (hE o x hx);refine⟨h1,fun k hk=>?_⟩;obtain⟨h3,y,y1,y2⟩:=h2 k hk;obtain⟨z,hz⟩:=hc o x hx k hk;have:=hE _ z hz;rw[y1]at this;obtain rfl:=Option.some.inj this;exact⟨h3,y,hz,y2⟩
theorem WC{N M:ZC}(hM:GoodN M)(hE:Ext M N){r:Ro}(h:RtOk M r):ZY N r=ZY M r/\∀s,Rt N r s->Rt M r s:=by
 refine⟨Ii hM hE h,fun s hs=>⟨h,?_⟩⟩;have h1:Rt M r (Da M r):=⟨h,rfl⟩;have h2:=h1.ext hM hE;rw[<- hs.tx,h2.tx]
theorem Zlf{N M:ZC}:∀ {rs:List Ro},(∀x∈rs,ZY M x=ZY N x)->JX M rs=JX N rs:=by
 intro rs h;unfold JX
 suffices ∀(rs:List Ro) (c:List (Nat × Int)),(∀x∈rs,ZY M x=ZY N x)->rs.foldl (fun c r=>AB c (Zr (ZY M r))) c=rs.foldl (fun c r=>AB c (Zr (ZY N r))) c from this rs [] h
 intro rs;induction rs with
 | nil=>intro c _;rfl
 | cons a rs ih=>intro c h;rw[List.foldl_cons,List.foldl_cons,h a (by simp)];exact ih _ fun x hx=>h x (by simp[hx])
structure ReOk(r:AR)(rs:List Ro)(l:List Nat)(r':AR):Prop where
 ok:AROk r'
 good:GoodN r'.nodes
 rts:∀x∈rs,RtOk r'.nodes x
 key:QO r' rs=QO r rs
 none:QZ (QO r' rs) [] (ZJ r')=[]
 sum:r'.n+(Z2 r'.states 2).length=r.n+(Z2 r.states 2).length+l.length
 stale:r'.stale=r.stale
 txt:∀x∈rs,∀s,Rt r.nodes x s->Rt r'.nodes x s
theorem ZrY{r:AR}(ho:AROk r)(hg:GoodN r.nodes)(hk:KdP r)(hn:r.nodes.length+r.n=r.states.length)(hf:r.frees=0){rs:List Ro}(hrs:∀x∈rs,RtOk r.nodes x):
 ReOk r rs (QZ (QO r rs) [] (ZJ r)) (AD r (QZ (QO r rs) [] (ZJ r))):=by
 have hlv:=Ix ho hk hn;have hlm:∀o∈QZ (QO r rs) [] (ZJ r),∃x,lk r.nodes o=some x:=fun o h=>hlv o (lost_mem.1 h).1
 have hnd:(QZ (QO r rs) [] (ZJ r)).Nodup:=(GL ho).sublist Cu;have hlen:=Cu (ck:=QO r rs) (lm:=[]) (live:=ZJ r) |>.length_le;have hl16:=Yr ho;have d:=WB ho hk.nk hlm hnd (by omega);have hFO:=ho.fok hnd hlm (by omega);have hsum:=(FOk.dels (l:=QZ (QO r rs) [] (ZJ r)) (l2:=[]) (r:=r) (by rw[lN];exact hFO)).2.1;have hmem:∀o,o∈QZ (QO r rs) [] (ZJ r)↔o∈ZJ r/\o∉QO r rs:=fun o=>lost_mem
 generalize QZ (QO r rs) [] (ZJ r)=l at *;generalize AD r l=r' at *;have hE:Ext r'.nodes r.nodes:=fun o x hx=>by
  rw[d.lk]at hx;split at hx
  ·simp at hx
  ·exact hx
 have hst:∀o,o∈QO r rs->lk r'.nodes o=lk r.nodes o:=fun o hm=>by
  rw[d.lk,if_neg (fun h=>((hmem o).1 h).2 hm)]
 have hky:∀o x,lk r'.nodes o=some x->o∈QO r rs:=fun o x hx=>by
  by_cases q:o∈QO r rs
  ·exact q
  ·have hx0:=hE o x hx
   rw[d.lk,if_pos ((hmem o).2 ⟨GK ho hx0,q⟩)]at hx;simp at hx
 have hgood:GoodN r'.nodes:=ZrW hg hE fun o x hx k hk'=>by
  obtain⟨w,hw,hm⟩:=keyL_mem.1 (hky o x hx);have:=Zle hg (hrs w hw) hm (hE o x hx) hk';rw[hst _ (keyL_mem.2 ⟨w,hw,this⟩)];exact Ew hg (hrs w hw) _ this
 have hrts:∀x∈rs,RtOk r'.nodes x:=fun x hx=>by
  rcases hrs x hx with e|⟨h0,y,y1,y2⟩
  ·exact .inl e
  ·exact .inr ⟨h0,y,by rw[hst _ (keyL_mem.2 ⟨x,hx,ZkF h0⟩)];exact y1,y2⟩
 have hkeq:QO r' rs=QO r rs:=by
  unfold QO;rw[Zlf fun x hx=>((WC hgood hE (hrts x hx)).1).symm]
 refine⟨d.ok,hgood,hrts,hkeq,?_,hsum,d.stale,fun x hx s h=>(WC hgood hE (hrts x hx)).2 s h⟩;refine List.eq_nil_iff_forall_not_mem.2 fun o h=>?_
 obtain⟨h1,h2⟩:=lost_mem.1 h;rw[hkeq]at h2;obtain⟨q1,q2⟩:=d.live o h1;exact q2 ((hmem o).2 ⟨q1,h2⟩)
theorem set_mem{α:Type}{l:List α}{a b:α}(h:b∈l.set i a):b∈l\/b=a:=List.mem_or_eq_of_mem_set h
structure ReN(r:AR)(rs:List Ro)(dd:List Nat):Prop where
 len:(QZ (QO r rs) [] (ZJ r)).length=(Zr (dd.filter fun o=>decide (o∉atL r.nodes 1 rs))).length
 sub:∀o∈QZ (QO r rs) [] (ZJ r),o∈dd
 gone:QZ (QO r rs) (QZ (QO r rs) [] (ZJ r)) (ZJ r)=[]
 wait:Jx (QO r rs) (QZ (QO r rs) [] (ZJ r))=QZ (QO r rs) [] (ZJ r)
theorem Ztr{r2:AR}(ho:AROk r2)(hg:GoodN r2.nodes)(hk:KdP r2)(hn:r2.nodes.length+r2.n=r2.states.length){rs:List Ro}(hrs:∀x∈rs,RtOk r2.nodes x){ro ro2:Ro}{fr lv:List Nat}
 (h:OG r2.nodes [ro] ro2 fr dd lv) (hro2:ro2∈rs) (hall:∀o x,lk r2.nodes o=some x->o∈fr\/o∈ZY r2.nodes ro\/∃w∈rs,o∈ZY r2.nodes w):ReN r2 rs dd:=by
 have hlv:=Ix ho hk hn;have hkm:∀o,o∈atL r2.nodes 1 rs↔o∈QO r2 rs:=fun o=>by
  rw[V2 hg ho.h64 hrs];exact cntR_key.symm
 have hw:AW r2.nodes [ro]=Zr (ZY r2.nodes ro):=by unfold AW;simp
 have hdm:∀o,o∈dd↔o∈ZY r2.nodes ro/\o∉ZY r2.nodes ro2:=fun o=>by
  rw[h.hd,onceV_mem,List.mem_filter,hw,onceV_mem,decide_eq_true_eq,onceV_mem]
 have key:∀o,o∈QZ (QO r2 rs) [] (ZJ r2)↔o∈dd/\o∉QO r2 rs:=fun o=>by
  rw[lost_mem];constructor
  ·rintro⟨h1,h2⟩
   refine⟨?_,h2⟩;obtain⟨x,hx⟩:=hlv o h1;rcases hall o x hx with q|q|q
   ·exact absurd (keyL_mem.2 ⟨ro2,hro2,onceV_mem.1 (h.frk o q).2⟩) h2
   ·exact (hdm o).2 ⟨q,fun w=>h2 (keyL_mem.2 ⟨ro2,hro2,w⟩)⟩
   ·exact absurd (keyL_mem.2 q) h2
  ·rintro⟨h1,h2⟩
   obtain⟨x,hx⟩:=Ew hg (h.rsk ro (by simp)) o ((hdm o).1 h1).1;exact⟨GK ho hx,h2⟩
 have hnd:(QZ (QO r2 rs) [] (ZJ r2)).Nodup:=(GL ho).sublist Cu;refine⟨(GH hnd (Vs _) fun o=>?_).length_eq,fun o ho'=>((key o).1 ho').1,?_,?_⟩
 ·rw[key,onceV_mem,List.mem_filter,decide_eq_true_eq,hkm]
 ·refine List.eq_nil_iff_forall_not_mem.2 fun o hm=>?_
  unfold QZ at hm;simp only[List.mem_filter,decide_eq_true_eq]at hm;obtain⟨⟨a,b⟩,c⟩:=hm;refine c ?_;unfold Jx;rw[List.mem_filter,decide_eq_true_eq];exact⟨lost_mem.2 ⟨a,b⟩,b⟩
 ·unfold Jx
  exact List.filter_eq_self.2 fun o hm=>by rw[decide_eq_true_eq];exact (lost_mem.1 hm).2
section
variable {O:Orc}{k:List Fr}{Q:JD}{e:Env}{A:List (Bool × List Blk)}{L:List Blk}{keep:List Nat}{is:List QAbs.PI}
theorem WD{d:Nat}{x y:Opd}{a b c:B8}(hx:ZL e x=some (.str a))(hy:ZL e y=some (.str b))(hl:a.length+b.length<4611686018427387904)(he:a++b=c)(h:Is O is keep k Q ((d,.str c)::e) st):Is O (⟨some d,none,false,.bin .add x y⟩::is) keep k Q e st:=by
 subst he;exact SY hx hy hl h
end
theorem ZrZ{Z:List Blk}{r:AR}{v3 v4 v5 v15 v19 v21 v24:AV}(hZ:Has ⟨A,false,Z⟩ A.length 0 r)(hF:FOk r l)(hl:l.length<=16384){k:List Fr}{Q:JD}
 (hQ:Rk (S TZ) k Q .norm [(3,v3),(4,v4),(5,v5),(13,.ptr A.length 5 0 0 0),(15,v15),(17,.lit (l.map Zj)),(19,v19),(21,v21),(24,v24),(25,.int .i64 l.length),(172,.bool false)] ⟨A,false,arL Z A.length 0 (AD r l)⟩) :
 Ru (S TZ) p_quartolaw22_ReachEdits_33.loop (.blk 0::k) Q [(3,v3),(4,v4),(5,v5),(13,.ptr A.length 5 0 0 0),(15,v15),(17,.lit (l.map Zj)),(19,v19),(21,v21),(24,v24),(25,.int .i64 0)] ⟨A,false,Z⟩:=by
 refine Ze (α:=Nat) (fun i=>[(3,v3),(4,v4),(5,v5),(13,.ptr A.length 5 0 0 0),(15,v15),(17,.lit (l.map Zj)),(19,v19),(21,v21),(24,v24),(25,.int .i64 i)]) (fun i=>⟨A,false,arL Z A.length 0 (AD r (l.take i))⟩) (fun i=>i<=l.length) (fun i=>l.length-i) 0 Y ?_ (Nat.zero_le _) ?_
 ·rw[List.take_zero]
  show _=(⟨A,false,arL Z A.length 0 r⟩:St)
  rw[<- E0,hZ.same]
 intro i hi;replace hi:i<=l.length:=hi;rcases Nat.lt_or_ge i l.length with hlt|hge
 ·obtain⟨o,ho'⟩:∃x,l[i]?=some x:=⟨l[i]'hlt,jE _⟩
  have hF2:=FOk.dels (l:=l.take i) (l2:=l.drop i) (r:=r) (by rw[List.take_append_drop];exact hF);obtain⟨f1,_,_,_⟩:=hF2;have hmem:o∈l.drop i:=by rw[U9 ho'];simp
  obtain⟨g1,g2,_⟩:=f1.live o hmem;have g3:=f1.nn;have g4:=f1.fr;have g5:=f1.most;have hP:=hZ.put (AD r (l.take i));have hFr:=A9 (ZtX hP f1.gl f1.nb (by omega) g1 g2 g5 (by omega));rw[N5,<- Znx,<- ZF ho',E0,E0]at hFr;have q:0<=((i:Nat):Int)/\l[((i:Nat):Int).toNat]?=some o:=⟨by omega,by rw[show ((i:Nat):Int).toNat=i by omega];exact ho'⟩
  generalize arL Z A.length 0 (AD r (l.take i))=s1 at *;generalize hs2:arL Z A.length 0 (AD r (l.take (i+1)))=s2 at *;repeat'(first|refine QY (f:=Zj) Y Y q (fun _=>rfl) ?_|refine JS Y ?_|refine ruS Y ?_|refine isS Y ?_|refine rkS Y ?_|refine Zx Y Y ?_|refine cm0 Y Y Y ?_ ?_|(intro _;try omega)|refine ZV Y Y (by omega) ?_|refine ZA Y Y Y (hFr) ?_)
  all_goals try first|contradiction|omega
  exact⟨i+1,⟨rfl,by rw[hs2]⟩,by omega,by omega⟩
 ·obtain rfl:i=l.length:=by omega
  rw[List.take_length];repeat'(first|refine JS Y ?_|refine ruS Y ?_|refine isS Y ?_|refine rkS Y ?_|refine cm0 Y Y Y ?_ ?_|(intro _;try omega))
  all_goals try omega
  all_goals exact hQ
theorem Zra{W:List Blk}{N:ZC}{rs:List Ro}{ss:List B8}{a m:Int}{T:B8}(hg:GoodN N)(hR:Rd ⟨A,false,W⟩ A.length 5 N)(hn:rs.length=n)(hsn:ss.length=n)(hn20:n<=20)
 (g21:W[jx]?=some (.arr 5 ver (rs.map Ro.av))) (g15:W[kx]?=some (.arr 1 c (ss.map .str))) (hz:0<=z/\z<n) (ht:ss[z.toNat]?=some t) (hab:0<=a/\0<=m/\a+m<=t.length) (hT:T=t.take a.toNat++s++t.drop (a+m).toNat)
 (hb:t.length<=3300/\s.length<=200) (hsm:∀u∈ss,u.length<=3300)
 (htx:∀(i:Nat) (x:Ro) (u:B8),rs[i]?=some x->ss[i]?=some u->Rt N x (if (i:Int)=z then T else u)) {k:List Fr} {Q:JD}
 (hQ:Rk (S TZ) k Q .norm [(3,.int .i64 a),(4,.int .i64 m),(5,.str s),(13,.ptr A.length 5 0 0 0),(15,.ref A.length kx c 0 n),(19,.int .i64 z),(21,.ref A.length jx ver 0 n),(27,.int .i64 n),(226,.bool false)] ⟨A,false,W⟩) :
 Ru (S TZ) p_quartolaw22_ReachEdits_46.loop (.blk 2::k) Q [(3,.int .i64 a),(4,.int .i64 m),(5,.str s),(13,.ptr A.length 5 0 0 0),(15,.ref A.length kx c 0 n),(19,.int .i64 z),(21,.ref A.length jx ver 0 n),(27,.int .i64 0)] ⟨A,false,W⟩:=by
 refine Ze (α:=Nat) (fun i=>[(3,.int .i64 a),(4,.int .i64 m),(5,.str s),(13,.ptr A.length 5 0 0 0),(15,.ref A.length kx c 0 n),(19,.int .i64 z),(21,.ref A.length jx ver 0 n),(27,.int .i64 i)]) (fun i=>⟨A,false,W⟩) (fun i=>i<=n) (fun i=>n-i) 0 Y Y (Nat.zero_le _) ?_;intro i hi;rcases Nat.lt_or_ge i n with hlt|hge
 ·obtain⟨x,hx⟩:∃x,rs[i]?=some x:=⟨_,jE (by omega)⟩
  obtain⟨u,hu⟩:∃u,ss[i]?=some u:=⟨_,jE (by omega)⟩
  have hRt:=htx i x u hx hu;have hul:=hsm u (jM hu);have hTl:T.length<=3500:=by
   rw[hT];simp only[lL,List.length_take,List.length_drop];omega
  have gx:(rs.map Ro.av)[0+((i:Nat):Int).toNat]?=some x.av:=by rw[show 0+((i:Nat):Int).toNat=i by omega,jG,hx];rfl
  have gu:(ss.map AV.str)[0+((i:Nat):Int).toNat]?=some (.str u):=by rw[show 0+((i:Nat):Int).toNat=i by omega,jG,hu];rfl
  have gt:(ss.map AV.str)[0+z.toNat]?=some (.str t):=by rw[Nat.zero_add,jG,ht];rfl
  have hc1:(t.take a.toNat).length+s.length<4611686018427387904:=by
   simp only[List.length_take];omega
  have hc2:(t.take a.toNat++s).length+(t.drop (a+m).toNat).length<4611686018427387904:=by
   simp only[lL,List.length_take,List.length_drop];omega
  have hTx:=upZ (upX (upW (upV (ZqN hg hR (b:=0) hRt.rt (by rw[hRt.leaves hg];split;(rename_i q;omega);(rename_i q;omega))))));rw[hRt.leaves hg]at hTx;by_cases hiz:(i:Int)=z
  ·rw[if_pos hiz]at hTx
   subst hiz;obtain rfl:u=t:=by
    rw[show ((i:Nat):Int).toNat=i by omega,hu]at ht;exact Option.some.inj ht
   repeat'(first|refine Xl Y Y (by omega) g21 ?_|refine ZE Y g21 gx (Es _) ?_|refine Xl Y Y (by omega) g15 ?_|refine ZE Y g15 gu Y ?_|refine WD Y Y hc1 Y ?_|refine WD Y Y hc2 hT.symm ?_|refine HL Y Y (by omega) ?_|refine HM Y Y (by omega) ?_|refine ruS Y ?_|refine isS Y ?_|refine rkS Y ?_|refine Z6 Y ?_|refine cm0 Y Y Y ?_ ?_|(intro _;try omega)|(refine Kv Y Y (fun _=>?_) (fun _=>?_)<;>try contradiction)|refine ZV Y Y (by omega) ?_|refine ZA Y Y Y (hTx) ?_)
   all_goals try first|contradiction|omega
   all_goals try exact absurd Y ‹_›
   all_goals exact⟨i+1,⟨rfl,rfl⟩,by omega,by omega⟩
  ·rw[if_neg hiz]at hTx
   repeat'(first|refine Xl Y Y (by omega) g21 ?_|refine ZE Y g21 gx (Es _) ?_|refine Xl Y Y (by omega) g15 ?_|refine ZE Y g15 gu Y ?_|refine ruS Y ?_|refine isS Y ?_|refine rkS Y ?_|refine Z6 Y ?_|refine cm0 Y Y Y ?_ ?_|(intro _;try omega)|(refine Kv Y Y (fun _=>?_) (fun _=>?_)<;>try contradiction)|refine ZV Y Y (by omega) ?_|refine ZA Y Y Y (hTx) ?_)
   all_goals try first|contradiction|omega
   all_goals try exact absurd Y ‹_›
   all_goals exact⟨i+1,⟨rfl,rfl⟩,by omega,by omega⟩
 ·obtain rfl:i=n:=by omega
  repeat'(first|refine ruS Y ?_|refine isS Y ?_|refine rkS Y ?_|refine Z6 Y ?_|refine cm0 Y Y Y ?_ ?_|(intro _;try omega))
  all_goals try omega
  all_goals exact hQ
def On:PC:=.seq XF (D (D XG (E 222 (D XH .ret) .skip)) (D (D XI (.block 2 (.loop p_quartolaw22_ReachEdits_46))) (D XJ .ret)))
def Oo:PC:=.seq XB (D (D XC (E 168 (D XD .ret) .skip)) (D (D XE (.block 0 (.loop p_quartolaw22_ReachEdits_33))) On))
def reT1:PC:=.seq Y5 (D Y6 (D Y7 (D Y8 (D (D Y9 (E 147 (D XA .ret) .skip)) Oo))))
def Iy(st:St):JD:=fun x e s=>QT false [.s 12] (x,e,s)=some (.bool true,st)
section
variable {O:Orc}{k:List Fr}{Q:JD}{e:Env}{A:List (Bool × List Blk)}{L:List Blk}{keep:List Nat}{is:List QAbs.PI}
theorem WE{x:Opd}{y:AV}{n1 n2 n3 n4 n5:Int}(ha:ZL e a=some (.ptr A.length L.length 0 0 0))(hx:ZL e x=some (.agg [.int .i64 n1,.int .i64 n2,.int .i64 n3,.int .i64 n4,.int .i64 n5]))(h:Is O is keep k Q e ⟨A,false,L++[Blk.arr 5 0 [.agg [.int .i64 n1,.int .i64 n2,.int .i64 n3,.int .i64 n4,.int .i64 n5]]]⟩):
 Is O (⟨none,none,false,.st 5 a x⟩::is) keep k Q e ⟨A,false,L++[Blk.arr 5 0 [y]]⟩ :=
 CA (L0:=L) (T:=[Blk.arr 5 0 [y]]) (ix:=0) (i:=0) (w:=5) (ver:=0) (es:=[y]) ha hx rfl rfl rfl rfl (Yf _) h
end
theorem Zrb(hA:A=st.A++[(st.ro,st.L)]){Z:List Blk}{r:AR}{rs:List Ro}{ss:List B8}{bx:Nat}{a m:Int}{T:B8}{kn:Nat}{w2 f2 d2:Nat}{v25:AV}
 (ho:AROk r) (hg:GoodN r.nodes) (hH:∀U,HasR ⟨A,false,Z++U⟩ A.length 0 r) (hrs:∀x∈rs,RtOk r.nodes x) (hn:rs.length=n) (hsn:ss.length=n) (hn20:n<=20)
 (g21:∀U,(Z++U)[jx]?=some (.arr 5 n (rs.map Ro.av))) (g15:∀U,(Z++U)[kx]?=some (.arr 1 c (ss.map .str))) (g24:∀U,(Z++U)[bx]?=some (.arr 5 0 [.agg [.int .i64 kn,.int .i64 w2,.int .i64 f2,.int .i64 d2,.int .i64 (0:Nat)]]))
 (hkey:(QO r rs).length=kn) (hnone:QZ (QO r rs) [] (ZJ r)=[]) (hsum:r.n+(Z2 r.states 2).length=f2+d2+l.length) (hst:r.stale=0) (hl:l.length<=16384) (hfd:f2<=20000/\d2<=20000)
 (hz:0<=z/\z<n) (ht:ss[z.toNat]?=some t) (hab:0<=a/\0<=m/\a+m<=t.length) (hT:T=t.take a.toNat++s++t.drop (a+m).toNat)
 (hb:t.length<=3300/\s.length<=200) (hsm:∀u∈ss,u.length<=3300)
 (htx:∀(i:Nat) (x:Ro) (u:B8),rs[i]?=some x->ss[i]?=some u->Rt r.nodes x (if (i:Int)=z then T else u)) :
 Ru (S TZ) On [] (Iy st) [(3,.int .i64 a),(4,.int .i64 m),(5,.str s),(13,.ptr A.length 5 0 0 0),(15,.ref A.length kx c 0 n),(17,.lit (l.map Zj)),(19,.int .i64 z),(21,.ref A.length jx n 0 n),(24,.ptr A.length bx 0 0 0),(25,v25),(172,.bool false)] ⟨A,false,Z⟩:=by
 have hWk:=fun st=>upZ (Ir st)
 have gs:St.get ⟨A,false,Z⟩ A.length jx=some (.arr 5 n (rs.map Ro.av)):=by
  have:=g21 [];rw[lN]at this;rw[St.get_cur,this];rfl
 have hH0:=hH [];rw[lN]at hH0;have hAu:=Zn5 (b:=0) ho hg hH0 hrs (by omega) gs;have hn16:=ho.n16;have hnn:=ho.nn;have hfl:=AR.free_len ho.nb;have hsl:(Z2 r.states 2).length<=16384:=by have:=F5 r.states 2 r.states.length;unfold Z2;omega
 have hSt:=fun U=>A9 (II (hH U) ho.nb ho.n16 (by omega))
 have hkl:kn<=16384:=by rw[<- hkey];exact (Iw ho hg hrs .nil (by simp)).small.1
 unfold GM at hAu;rw[hnone,hkey,hfl]at hAu;have hw0:(Jx (QO r rs) []).length=0:=rfl;rw[hw0]at hAu;unfold AR.statsAV at hSt;rw[hst]at hSt;have hlp:=fun B k Q hQ=>Zra (A:=A) (W:=Z++[B]) (s:=s) (k:=k) (Q:=Q) hg (hH [B]).rd hn hsn hn20 (g21 [B]) (g15 [B]) hz ht hab hT hb hsm htx hQ
 rw[hn]at hAu;simp only[List.length_nil]at hAu;generalize (Z2 r.states 2).length=d at *;generalize r.n=f at *;generalize r.nodes.length=nl at *;generalize r.allocs=al at *;generalize r.frees=fr at *;generalize r.slots=sls at *;clear hH hH0 htx hnone;unfold On;repeat'(first|refine hlp _ _ _ ?_|refine WE Y Y ?_|refine ZE Y (List.getElem?_concat_length ..) Y Y ?_|refine ZE Y (g24 _) Y Y ?_|refine JS Y ?_|refine ruS Y ?_|refine isS Y ?_|refine rkS Y ?_|refine EN (agg:=false) Y Y ?_|refine cm0 Y Y Y ?_ ?_|(intro _;try omega)|refine ZV Y Y (by omega) ?_|refine Zi Y Y Y ?_|refine ZA Y Y Y (hAu) ?_|refine ZA Y Y Y (hWk _) ?_|refine ZA Y Y Y (hSt _) ?_)
 all_goals try first|contradiction|omega
 all_goals unfold Iy
 all_goals first|contradiction|omega|(refine ZQ hA (by simp) Y Y Y Y ?_;rfl)
structure ReI(r:AR)(rs:List Ro)(n:Nat)(dd:List Nat):Prop where
 ok:AROk r
 good:GoodN r.nodes
 kd:KdP r
 nl:r.nodes.length+r.n=r.states.length
 fr:r.frees=0
 st:r.stale=0
 rts:∀x∈rs,RtOk r.nodes x
 len:rs.length=n
 num:ReN r rs dd
theorem Zrc(hA:A=st.A++[(st.ro,st.L)]){V:List Blk}{r:AR}{rs:List Ro}{ss:List B8}{a m:Int}{T:B8}
 (hI:ReI r rs n dd) (hl:l=QZ (QO r rs) [] (ZJ r)) (hV:Has ⟨A,false,V⟩ A.length 0 r) (hsn:ss.length=n) (hn20:n<=20) (hjx:5<jx) (hkx:5<kx)
 (g21:V[jx]?=some (.arr 5 n (rs.map Ro.av))) (g15:V[kx]?=some (.arr 1 c (ss.map .str)))
 (hz:0<=z/\z<n) (ht:ss[z.toNat]?=some t) (hab:0<=a/\0<=m/\a+m<=t.length) (hT:T=t.take a.toNat++s++t.drop (a+m).toNat)
 (hb:t.length<=3300/\s.length<=200) (hsm:∀u∈ss,u.length<=3300)
 (htx:∀(i:Nat) (x:Ro) (u:B8),rs[i]?=some x->ss[i]?=some u->Rt r.nodes x (if (i:Int)=z then T else u)) :
 Ru (S TZ) Oo [] (Iy st) [(3,.int .i64 a),(4,.int .i64 m),(5,.str s),(13,.ptr A.length 5 0 0 0),(15,.ref A.length kx c 0 n),(17,.lit (l.map Zj)),(19,.int .i64 z),(21,.ref A.length jx n 0 n),(147,.bool false)] ⟨A,false,V⟩:=by
 have hWk:=fun st=>upZ (Ir st)
 have ho:=hI.ok;have hg:=hI.good;have hrs:=hI.rts;have hn:=hI.len;have hlen:=Cu (ck:=QO r rs) (lm:=[]) (live:=ZJ r) |>.length_le;have hnd:(QZ (QO r rs) [] (ZJ r)).Nodup:=(GL ho).sublist Cu;have hlm:∀o∈QZ (QO r rs) [] (ZJ r),o∈ZJ r:=fun o h=>(lost_mem.1 h).1
 have hl16:=Yr ho;have hre:=ZrY ho hg hI.kd hI.nl hI.fr hrs;have hFO:=ho.fok hnd (fun o h=>Ix ho hI.kd hI.nl o (hlm o h)) (by omega);have hN:=hI.num;have hwt:=hN.wait;have hgo:=hN.gone;rw[<- hl]at hlen hnd hlm hre hFO hwt hgo;have gs:St.get ⟨A,false,V⟩ A.length jx=some (.arr 5 n (rs.map Ro.av)):=by rw[St.get_cur,g21];rfl
 have hAu:=V6 (b:=0) ho hg hV.r hrs (by omega) gs hnd hlm;unfold GM at hAu;rw[hwt,hgo,AR.free_len ho.nb,hn]at hAu;have hn16:=ho.n16;have hnn:=ho.nn;have hsl:(Z2 r.states 2).length<=16384:=by have:=F5 r.states 2 r.states.length;unfold Z2;omega
 have hkl:=(Iw ho hg hrs .nil (by simp)).small.1;have jl:jx<V.length:=(List.getElem?_eq_some_iff.1 g21).1;have kl:kx<V.length:=(List.getElem?_eq_some_iff.1 g15).1;have hV5:5<V.length:=by omega
 obtain⟨B2,hB2⟩:∃B,B=Blk.arr 5 0 [.agg [.int .i64 (QO r rs).length,.int .i64 l.length,.int .i64 r.n,.int .i64 (Z2 r.states 2).length,.int .i64 (0:Nat)]]:=⟨_,rfl⟩
 have hlp:=fun v24 k Q hQ=>ZrZ (v3:=.int .i64 a) (v4:=.int .i64 m) (v5:=.str s) (v15:=.ref A.length kx c 0 n) (v19:=.int .i64 z) (v21:=.ref A.length jx n 0 n) (v24:=v24) (k:=k) (Q:=Q) (hV.app [B2]) hFO (by omega) hQ
 have hP:=(hV.app [B2]).put (AD r l);rw[E0]at hP;have hne:∀(j:Nat) (U:List Blk),5<j->j<(V++[B2]).length->(arL (V++[B2]) A.length 0 (AD r l)++U)[j]?=(V++[B2])[j]?:=fun j U h1 h2=>by
  rw[jL (by rw[Vw];exact h2),Oe _ (by omega)]
 have hVl:(V++[B2]).length=V.length+1:=by simp
 have htl:=fun v25=>Zrb hA (Z:=arL (V++[B2]) A.length 0 (AD r l)) (r:=AD r l) (rs:=rs) (ss:=ss) (n:=n) (c:=c) (jx:=jx) (kx:=kx) (bx:=V.length) (z:=z) (a:=a) (m:=m) (s:=s) (t:=t) (T:=T) (l:=l) (kn:=(QO r rs).length) (w2:=l.length) (f2:=r.n) (d2:=(Z2 r.states 2).length) (v25:=v25)
  hre.ok hre.good (fun U=>(hP.app U).r) hre.rts hn hsn hn20
  (fun U=>by rw[hne jx U hjx (by omega),jL jl];exact g21)
  (fun U=>by rw[hne kx U hkx (by omega),jL kl];exact g15)
  (fun U=>by rw[hne V.length U hV5 (by omega),List.getElem?_concat_length,hB2])
  (by rw[hre.key]) hre.none hre.sum (by rw[hre.stale];exact hI.st) (by omega) ⟨by omega,by omega⟩ hz ht hab hT hb hsm
  (fun i x u h1 h2=>hre.txt x (jM h1) _ (htx i x u h1 h2))
 clear hre hN hwt hgo hP hne htx hFO;generalize (Z2 r.states 2).length=d at *;generalize r.n=f at *;generalize (QO r rs).length=kn at *;generalize arL (V++[B2]) A.length 0 (AD r l)=Z at *;simp only[List.length_nil]at hAu;rw[hB2]at hlp;unfold Oo;repeat'(first|exact htl _|refine hlp _ _ _ ?_|refine WE Y Y ?_|refine ZE Y (List.getElem?_concat_length ..) Y Y ?_|refine JS Y ?_|refine ruS Y ?_|refine isS Y ?_|refine ZO ?_|refine cm0 Y Y Y ?_ ?_|(intro _;try omega)|refine Zi Y Y Y ?_|refine ZA Y Y Y (hAu) ?_)
 all_goals try first|contradiction|omega
section
variable {O:Orc}{k:List Fr}{Q:JD}{e:Env}{A:List (Bool × List Blk)}{L:List Blk}{keep:List Nat}{is:List QAbs.PI}
theorem Zts{x:Opd}{ros:List Ro}{y:Ro}(ha:ZL e a=some (.ptr A.length L.length n (0+z.toNat) 0))(hx:ZL e x=some y.av)(hz:z.toNat<ros.length)(h:Is O is keep k Q e ⟨A,false,L++[Blk.arr 5 n ((ros.set z.toNat y).map Ro.av)]⟩):
 Is O (⟨none,none,false,.st 5 a x⟩::is) keep k Q e ⟨A,false,L++[Blk.arr 5 n (ros.map Ro.av)]⟩:=by
 have q:(ros.map Ro.av)[0+z.toNat]?=some (ros[z.toNat].av):=by rw[Nat.zero_add,jG,jE hz];rfl
 refine CA (L0:=L) (T:=[Blk.arr 5 n (ros.map Ro.av)]) (ix:=0) (i:=0+z.toNat) (o:=0) (w:=5) (ver:=n) (es:=ros.map Ro.av) (v:=y.av) (v':=y.av) ha hx Y q (by cases y;rfl) ?_ (Yf _) ?_
 ·generalize ros[z.toNat]=w
  cases w;cases y;rfl
 ·show Is O is keep k Q e ⟨A,false,L++[Blk.arr 5 n ((ros.map Ro.av).set (0+z.toNat) y.av)]⟩
  rw[Nat.zero_add,<- List.map_set];exact h
end
theorem Zrd(hA:A=st.A++[(st.ro,st.L)]){Y':List Blk}{r:AR}{ros:List Ro}{ss:List B8}{a m:Int}{T:B8}{ro2:Ro}{fr:List Nat}
 (hI:ReI r (ros.set z.toNat ro2) n dd) (hY:Has ⟨A,false,Y'⟩ A.length 0 r) (hsn:ss.length=n) (hn20:n<=20) (hkx:5<kx)
 (g6:Y'[6]?=some (.arr 5 n (ros.map Ro.av))) (g15:Y'[kx]?=some (.arr 1 c (ss.map .str))) (hdl:dd.length<1000000000)
 (hz:0<=z/\z<n) (ht:ss[z.toNat]?=some t) (hab:0<=a/\0<=m/\a+m<=t.length) (hT:T=t.take a.toNat++s++t.drop (a+m).toNat)
 (hb:t.length<=3300/\s.length<=200) (hsm:∀u∈ss,u.length<=3300)
 (htx:∀(i:Nat) (x:Ro) (u:B8),(ros.set z.toNat ro2)[i]?=some x->ss[i]?=some u->Rt r.nodes x (if (i:Int)=z then T else u)) :
 Ru (S TZ) reT1 [] (Iy st) [(3,.int .i64 a),(4,.int .i64 m),(5,.str s),(13,.ptr A.length 5 0 0 0),(14,.ref A.length 6 n 0 n),(15,.ref A.length kx c 0 n),(19,.int .i64 z),(20,.ptr A.length Y'.length 0 0 0),(104,.bool false)] ⟨A,false,Y'++[.arr 7 0 [Yv ro2 fr (slH dd)]]⟩:=by
 have hWk:=fun st=>upZ (Ir st)
 have ho:=hI.ok;have hg:=hI.good;have hrs:=hI.rts;have hn:=hI.len;have hnr:n=ros.length:=by rw[<- hn,List.length_set]
 obtain⟨rs,hrsE⟩:∃x,x=ros.set z.toNat ro2:=⟨_,rfl⟩;rw[<- hrsE]at hI hrs hn htx;obtain⟨Y1,hY1⟩:∃x,x=Y'++[Blk.arr 7 0 [Yv ro2 fr (slH dd)]]:=⟨_,rfl⟩;have l6:6<Y'.length:=(List.getElem?_eq_some_iff.1 g6).1;have lk':kx<Y'.length:=(List.getElem?_eq_some_iff.1 g15).1;have y6:∀U,(Y1++U)[6]?=some (.arr 5 n (ros.map Ro.av)):=fun U=>by rw[hY1,List.append_assoc,jL l6];exact g6
 have y15:∀U,(Y1++U)[kx]?=some (.arr 1 c (ss.map .str)):=fun U=>by rw[hY1,List.append_assoc,jL lk'];exact g15
 have yb:∀U,(Y1++U)[Y'.length]?=some (Blk.arr 7 0 [Yv ro2 fr (slH dd)]):=fun U=>by rw[hY1,List.append_assoc];exact QI (i:=0)
 have hYl:Y1.length=Y'.length+1:=by rw[hY1];simp
 have hHV:∀U,Has ⟨A,false,Y1++U⟩ A.length 0 r:=fun U=>by rw[hY1,List.append_assoc];exact hY.app _
 have hCR:=A9 (ZkC (A:=A) (L:=Y1) (lv:=A.length) (ix:=6) (ver:=n) hnr (by omega) (fun T=>by rw[St.get_cur,y6];rfl));have zn:z.toNat<ros.length:=by omega
 obtain⟨V,hV⟩:∃x,x=Y1++[Blk.arr 5 n (rs.map Ro.av)]:=⟨_,rfl⟩
 have gV:V[Y1.length]?=some (.arr 5 n (rs.map Ro.av)):=by rw[hV];exact List.getElem?_concat_length ..
 have gs:St.get ⟨A,false,V⟩ A.length Y1.length=some (.arr 5 n (rs.map Ro.av)):=by rw[St.get_cur,gV];rfl
 have hHs:Has ⟨A,false,V⟩ A.length 0 r:=by rw[hV];exact hHV _
 have vb:V[Y'.length]?=some (Blk.arr 7 0 [Yv ro2 fr (slH dd)]):=by rw[hV];exact yb _
 have v15:V[kx]?=some (.arr 1 c (ss.map .str)):=by rw[hV];exact y15 _
 have hSe:=upZ (ZvO (b:=0) hg ho.h64 ho.lv hHs.r.rd hrs (by omega) gs);have hLe:=V8 (b:=0) ho hg hHs.r hrs (by omega) gs;obtain⟨l,hl⟩:∃l,l=QZ (QO r rs) [] (ZJ r):=⟨_,rfl⟩;have hN:=hI.num;have n1:=hN.len;have n2:=hN.sub;have hlen:=Cu (ck:=QO r rs) (lm:=[]) (live:=ZJ r) |>.length_le;have hl16:=Yr ho;rw[<- hl]at hLe n1 n2 hlen;have hul:(atL r.nodes 1 rs).length<1000000000:=by
  have h1:=(Iw ho hg hrs .nil (by simp)).ln;have h2:=(Iw ho hg hrs .nil (by simp)).small.1;omega
 have hW1:=fun st=>A9 (VZ dd (atL r.nodes 1 rs) hdl hul st)
 have hW2:=fun st=>A9 (VZ l dd (by omega) hdl st)
 have hk1:=Zn6 dd (atL r.nodes 1 rs);have hk2:=Zn7 dd l;have hf:l.filter (fun o=>decide (o∉dd))=[]:=List.filter_eq_nil_iff.2 fun o ho'=>by simp[n2 o ho']
 rw[hf]at hW2;have hz0:Zr ([]:List Nat)=[]:=rfl;rw[hz0]at hW2;have htl:=Zrc hA (V:=V) (jx:=Y1.length) (kx:=kx) (c:=c) (z:=z) (a:=a) (m:=m) (s:=s) (t:=t) (T:=T) hI hl hHs hsn hn20 (by omega) hkx gV v15 hz ht hab hT hb hsm htx;rw[hn]at hSe hLe;clear htx hI hN;have c5:Qs (Yv ro2 fr (slH dd)) true 0 5=some ro2.av:=rfl;have cd:Qs (Yv ro2 fr (slH dd)) false 6 1=some (slH dd):=rfl;generalize (Zr (dd.filter fun o=>decide (o∉atL r.nodes 1 rs)))=w1 at *;generalize atL r.nodes 1 rs=used at *;rw[<- hY1];unfold reT1;repeat'(first|refine ZE Y (yb _) Y c5 ?_|refine Xl Y Y (by omega) (List.getElem?_concat_length ..) ?_|refine Zts Y Y zn ?_|refine ruS Y ?_|refine isS Y ?_|refine ZO ?_|refine ZA Y Y Y (hCR) ?_)
 all_goals try first|contradiction|omega
 rw[<- hrsE,<- hV];repeat'(first|exact htl|refine ZA Y Y hk1 (hW1 _) ?_|refine ZA Y Y hk2 (hW2 _) ?_|refine ZE Y vb Y cd ?_|refine JS Y ?_|refine ruS Y ?_|refine isS Y ?_|refine rkS Y ?_|refine cm0 Y Y Y ?_ ?_|(intro _;try omega)|refine ZA Y Y Y (hSe) ?_|refine ZA Y Y Y (hLe) ?_)
 all_goals try first|contradiction|omega
theorem Zlg{texts:List B8}{ys:List Ed}(h:¬ Cr texts ys):(texts.flatten.length<=900/\texts.length<=4)/\ys.length<=12/\∀y∈ys,y.text.length<=200:=by
 have h1:¬ Cq texts:=fun q=>h (.inl q)
 have h2:¬ Dd ys:=fun q=>h (.inr (.inl q))
 have h3:¬ 12<ys.length:=fun q=>h (.inr (.inr q))
 obtain⟨a,b,c⟩:=Zus h1 h2;exact⟨a,by omega,c⟩
theorem ZoB(b:Nat)(st:St)(ro:Ro)(fr dd:List Nat):ZI Zs b st (Yv ro fr (slH dd))=some (Yv ro fr (slH dd),st):=by
 unfold slH Yv;split<;>rfl
theorem Zre(y:AV)(ro:Ro)(fr dd:List Nat):(Q7 7 y 0 7 (Yv ro fr (slH dd))).bind Yi=some (Yv ro fr (slH dd)):=by
 unfold slH Yv;split<;>rfl
section
variable {O:Orc}{k:List Fr}{Q:JD}{e:Env}{A:List (Bool × List Blk)}{L:List Blk}{keep:List Nat}{is:List QAbs.PI}{d:Nat}
theorem ZoC{x:Opd}{y:AV}{ro:Ro}{fr:List Nat}(ha:ZL e a=some (.ptr A.length L.length 0 0 0))(hx:ZL e x=some (Yv ro fr (slH dd)))(h:Is O is keep k Q e ⟨A,false,L++[Blk.arr 7 0 [Yv ro fr (slH dd)]]⟩):
 Is O (⟨none,none,false,.st 7 a x⟩::is) keep k Q e ⟨A,false,L++[Blk.arr 7 0 [y]]⟩ :=
 CA (L0:=L) (T:=[Blk.arr 7 0 [y]]) (ix:=0) (i:=0) (w:=7) (ver:=0) (es:=[y]) ha hx rfl rfl (ZoB _ _ _ _ _) (Zre _ _ _ _) (Yf _) h
end
theorem ZiA(texts:List B8)(ys:List Ed)(which at_ num:Int)(s:B8)(hb:texts.length<9223372036854775808)(hbs:∀s∈texts,s.length<9223372036854775808)(hy:ys.length<9223372036854775808)(hys:∀y∈ys,y.text.length<9223372036854775808)(hs0:s.length<9223372036854775808)(st:St):
 S TZ Zw [.lit (texts.map .str),.lit (ys.map Ed.av),.int .i64 which,.int .i64 at_,.int .i64 num,.str s] st=some (.bool true,st):=by
 refine Zv (leZ Zw (.pf Z8) (leX Zw (.pf Z8) (leW Zw (.pf Z8) (leV Zw (.pf Z8) (le3 Zw (.pf Z8) Y))))) (fun A hA=>?_);have hBy:=fun st=>A9 (Zq2 texts ys hb hbs hy hys st)
 have hWk:=fun st=>upZ (Ir st)
 by_cases hl:Cr texts ys
 ·simp only[decide_eq_true hl]at hBy
  repeat'(first|refine ruS Y ?_|refine isS Y ?_|refine rkS Y ?_|refine ZA Y Y Y (hBy _) ?_|refine ZA Y Y Y (hWk _) ?_)
  all_goals try first|contradiction|omega
  all_goals refine ZQ hA (by simp) Y Y Y Y ?_
  all_goals rfl
 simp only[decide_eq_false hl]at hBy;obtain⟨h9,h12,hy2⟩:=Zlg hl;by_cases h3:s.length > 200
 ·repeat'(first|refine ruS Y ?_|refine isS Y ?_|refine rkS Y ?_|refine JQ Y ?_|refine cm0 Y Y Y ?_ ?_|(intro _;try omega)|refine ZA Y Y Y (hBy _) ?_|refine ZA Y Y Y (hWk _) ?_)
  all_goals try first|contradiction|omega
  all_goals refine ZQ hA (by simp) Y Y Y Y ?_
  all_goals rfl
 obtain⟨v,st',hMk,r,c,ros,ss,G0,G1,n,rfl,rfl,hI,hR⟩:=Ztq texts ys h9 h12 hy2 A;have hMk:=A9 hMk;have hn20:=hI.n20;have hrs:=hI.len;have hsl:=hI.rts.1;rcases Nat.eq_zero_or_pos n with hn0|hpos
 ·subst hn0
  repeat'(first|refine ruS Y ?_|refine isS Y ?_|refine rkS Y ?_|refine JQ Y ?_|refine Z6 Y ?_|refine cm0 Y Y Y ?_ ?_|(intro _;try omega)|refine ZA Y Y Y (hBy _) ?_|refine ZA Y Y Y (hWk _) ?_|refine ZA Y Y Y (hMk) ?_)
  all_goals try first|contradiction|omega
  all_goals refine ZQ hA (by simp) Y Y Y Y ?_
  all_goals rfl
 have hpb:=Qk (x:=which) (n:=(n:Int)-1) (by omega);have hPk:=fun st=>A9 (OZ which ((n:Int)-1) (by omega) (by omega) st)
 generalize JF which ((n:Int)-1)=z at *;obtain⟨ro,hro⟩:∃x,ros[z.toNat]?=some x:=⟨_,jE (by omega)⟩
 obtain⟨t,ht⟩:∃x,ss[z.toNat]?=some x:=⟨_,jE (by omega)⟩
 have hRt:=hI.rts.2 z.toNat ro t hro ht;have hsm:=hI.small t (jM ht);have f6:(ltL A.length r n ros G0 c ss G1)[6]?=_:=OW;have f7:(ltL A.length r n ros G0 c ss G1)[7+G0.length]?=_:=lt_7;have hHas:=GB (A:=A) (r:=r) (v:=n) (ros:=ros) (G0:=G0) (w:=c) (ss:=ss) (G1:=G1);have hXl:7+G0.length<(ltL A.length r n ros G0 c ss G1).length:=(List.getElem?_eq_some_iff.1 f7).1;have g6:(ros.map Ro.av)[0+z.toNat]?=some ro.av:=by rw[Nat.zero_add,jG,hro];rfl
 have g7:(ss.map AV.str)[0+z.toNat]?=some (.str t):=by rw[Nat.zero_add,jG,ht];rfl
 have hab:=Qk (x:=at_) (n:=(t.length:Int)) (by omega);have hPa:=fun st=>A9 (OZ at_ t.length (by omega) (by omega) st)
 generalize JF at_ t.length=a at *;have hmb:=Qk (x:=num) (n:=(t.length:Int)-a) (by omega);have hPm:=fun st=>A9 (OZ num ((t.length:Int)-a) (by omega) (by omega) st)
 generalize JF num ((t.length:Int)-a)=m at *;have o1:=hI.ok;have o2:=hI.good;have hro0:=Ol hI.rts;have hLe:=V8 (b:=0) o1 o2 hHas.r hro0 (by omega) (show St.get ⟨A,false,ltL A.length r n ros G0 c ss G1⟩ A.length 6=some (.arr 5 n (ros.map Ro.av)) by rw[St.get_cur,f6];rfl);rw[ZoA o1 hI.kd (by have:=hI.nl;have:=hI.sl.2;omega) hR,hrs]at hLe;have hE:EdOk r.nodes ro t a m s:=⟨hRt,hab.1,hmb.1,by omega,by omega,by omega⟩
 have hX:ltL A.length r n ros G0 c ss G1=ltL A.length r n ros G0 c ss G1:=rfl;generalize ltL A.length r n ros G0 c ss G1=X at *;rcases Nat.lt_or_ge r.n (nw (edV r.nodes ro a m s)) with hfull|hroom
 ·have hRe:=A9 (Zep (b:=0) hHas o1 o2 hE hfull)
  unfold chZ at hRe;repeat'(first|refine JS Y ?_|refine Xl Y Y (by omega) f7 ?_|refine ZE Y f7 g7 Y ?_|refine Xl Y Y (by omega) f6 ?_|refine ZE Y f6 g6 (Es _) ?_|refine ruS Y ?_|refine isS Y ?_|refine rkS Y ?_|refine JQ Y ?_|refine Z6 Y ?_|refine cm0 Y Y Y ?_ ?_|(intro _;try omega)|refine YH Y Y (by omega) ?_|refine Zi Y Y Y ?_|refine Jr Y Y Y Y Y Y ?_|refine ZA Y Y Y (hBy _) ?_|refine ZA Y Y Y (hWk _) ?_|refine ZA Y Y Y (hMk) ?_|refine ZA Y Y Y (hLe) ?_|refine ZA Y Y Y (hPk _) ?_|refine ZA Y Y Y (hPa _) ?_|refine ZA Y Y Y (hPm _) ?_|refine ZA Y Y Y (hRe) ?_)
  all_goals try first|contradiction|omega
  all_goals refine ZQ hA (by simp) Y Y Y Y ?_
  all_goals rfl
 have hRe:=A9 (Vf (b:=0) hHas o1 o2 hE hroom);rw[E0]at hRe;obtain⟨v1,v2,v3⟩:=hE.ok o2;obtain⟨w1,w2⟩:=CI (r:=r) (Yq [] [] [] _) o1 o2 v1 (by rw[v2];omega) hroom;rw[v3]at w2;have hSh:=ZrD o1 o2 v1 (by rw[v2];omega) hroom (rs:=[ro]) (by simp) (fun x hx=>by rw[List.mem_singleton]at hx;subst hx;exact hRt.rt) (fun o ho=>⟨ro,by simp,Zu0 o2 hE o ho⟩);have hst:=Oj (edV r.nodes ro a m s) r;have hsl2:=OY (edV r.nodes ro a m s) r;have hkd:=hI.kd.wr w1;obtain⟨Y',hY⟩:∃Y',Y'=arL X A.length 0 (wrV (edV r.nodes ro a m s) r).1:=⟨_,rfl⟩
 have lY:Y'.length=X.length:=by rw[hY,Vw]
 have y6:Y'[6]?=some (.arr 5 n (ros.map Ro.av)):=by rw[hY,Oe _ (by omega)];exact f6
 have y7:Y'[7+G0.length]?=some (.arr 1 c (ss.map .str)):=by rw[hY,Oe _ (by omega)];exact f7
 have hHY:Has ⟨A,false,Y'⟩ A.length 0 (wrV (edV r.nodes ro a m s) r).1:=by
  have:=hHas.put (wrV (edV r.nodes ro a m s) r).1;rw[E0,<- hY]at this;exact this
 rw[<- hY]at hRe;have hzn:z.toNat<ros.length:=by omega
 have hII:ReI (wrV (edV r.nodes ro a m s) r).1 (ros.set z.toNat (wrV (edV r.nodes ro a m s) r).2.1) n (Xw r.nodes [ro] (edV r.nodes ro a m s)):=by
  have h1:(wrV (edV r.nodes ro a m s) r).1.nodes.length+(wrV (edV r.nodes ro a m s) r).1.n=(wrV (edV r.nodes ro a m s) r).1.states.length:=by
   have:=w1.n;have:=w1.nl;have:=hI.nl;have:=hI.sl.2;have:=hsl2.1;omega
  have h2:∀x∈ros.set z.toNat (wrV (edV r.nodes ro a m s) r).2.1,RtOk (wrV (edV r.nodes ro a m s) r).1.nodes x:=fun x hx=>by
   rcases set_mem hx with q|q
   ·exact (hro0 x q).ext w1.ext
   ·rw[q];exact w2.rt
  refine⟨w1.ok,w1.good,hkd,h1,hst.2.trans hR.fr,hst.1.trans hR.stale,h2,by rw[List.length_set];exact hrs,Ztr w1.ok w1.good hkd h1 h2 hSh ?_ fun o x hx=>?_⟩
  ·exact jM (List.getElem?_set_self hzn)
  ·rcases w1.all o x hx with q|q
   ·obtain⟨w,hw,hm⟩:=hR.rch o x q
    rw[<- Ii o2 w1.ext (hro0 w hw)]at hm;obtain⟨i,hi,rfl⟩:=List.getElem_of_mem hw;by_cases e:i=z.toNat
    ·subst e
     have:ros[z.toNat]=ro:=by rw[jE hi]at hro;exact Option.some.inj hro
     rw[this]at hm;exact .inr (.inl hm)
    ·refine .inr (.inr ⟨ros[i],?_,hm⟩)
     refine jM (i:=i) ?_;rw[jS (Ne.symm e)];exact jE hi
   ·exact .inl q
 have htx:∀(i:Nat) (x:Ro) (u:B8),(ros.set z.toNat (wrV (edV r.nodes ro a m s) r).2.1)[i]?=some x->ss[i]?=some u->Rt (wrV (edV r.nodes ro a m s) r).1.nodes x (if (i:Int)=z then t.take a.toNat++s++t.drop (a+m).toNat else u):=fun i x u h1 h2=>by
  by_cases e:(i:Int)=z
  ·have:i=z.toNat:=by omega
   rw[if_pos e];subst this;rw[List.getElem?_set_self hzn]at h1;rw[<- Option.some.inj h1];exact w2
  ·rw[if_neg e]
   rw[jS (by omega)]at h1;exact (hI.rts.2 i x u h1 h2).ext o2 w1.ext
 have hdl:(Xw r.nodes [ro] (edV r.nodes ro a m s)).length<1000000000:=by
  have h1:=hSh.ln.2.2.1;have h2:=(Yp ((AW (wrV (edV r.nodes ro a m s) r).1.nodes [ro]).filter fun o=>decide (o∉Zr (ZY (wrV (edV r.nodes ro a m s) r).1.nodes (wrV (edV r.nodes ro a m s) r).2.1)))).2.2;have h3:=List.length_filter_le (fun o=>decide (o∉Zr (ZY (wrV (edV r.nodes ro a m s) r).1.nodes (wrV (edV r.nodes ro a m s) r).2.1))) (AW (wrV (edV r.nodes ro a m s) r).1.nodes [ro]);rw[hSh.hd];omega
 have htl:=Zrd hA (fr:=(wrV (edV r.nodes ro a m s) r).2.2) hII hHY (by omega) hn20 (by omega) y6 y7 hdl (c:=c) (kx:=7+G0.length) (a:=a) (m:=m) (s:=s) (t:=t) ⟨by omega,by omega⟩ ht ⟨hab.1,hmb.1,by omega⟩ rfl ⟨by omega,by omega⟩ hI.small htx;clear hY w1 hSh v1 v2 v3 hroom hE hII htx hdl;generalize Xw r.nodes [ro] (edV r.nodes ro a m s)=dd at *;generalize (wrV (edV r.nodes ro a m s) r).2.2=fr at *;generalize (wrV (edV r.nodes ro a m s) r).2.1=ro2 at *;generalize (wrV (edV r.nodes ro a m s) r).1=r2 at *;repeat'(first|exact htl|refine JS Y ?_|refine Xl Y Y (by omega) f7 ?_|refine ZE Y f7 g7 Y ?_|refine Xl Y Y (by omega) f6 ?_|refine ZE Y f6 g6 (Es _) ?_|refine ZoC Y Y ?_|refine ruS Y ?_|refine isS Y ?_|refine rkS Y ?_|refine JQ Y ?_|refine Z6 Y ?_|refine cm0 Y Y Y ?_ ?_|(intro _;try omega)|refine YH Y Y (by omega) ?_|refine Zi Y Y Y ?_|refine ZA Y Y Y (hBy _) ?_|refine ZA Y Y Y (hMk) ?_|refine ZA Y Y Y (hLe) ?_|refine ZA Y Y Y (hPk _) ?_|refine ZA Y Y Y (hPa _) ?_|refine ZA Y Y Y (hPm _) ?_|refine ZA Y Y Y (hRe) ?_)
 all_goals try first|contradiction|omega
end Go.Q15
namespace Go.QAbs
open Go.ChangeShapes Go.WideShapes Go.RowKit Go.Deep
variable {v:AV}{e:Env}{z:Int}{A:List (Bool × List Blk)}{ck dd l lm:List Nat}{s t:B8}{c i ix jx kx la n o ver w:Nat}{a:Opd}{st:St}
variable {P:Program}
def rho0:Rho:=⟨fun _ _=>⟨0,0,0⟩,fun _=>(0,[])⟩
theorem ZoD(lv ix:Nat):St.empty.get lv ix=none:=by
 unfold St.empty St.get;split<;>simp[vis]
theorem Zrf{W:World}{b:Nat}{v:Value}(h:W.cell? ⟨b,o,none⟩=some v):(cx .empty rho0 W 0).im b o v :=
 ⟨h,fun ⟨lv,ix,w,ver,es,hg,_⟩=>by rw[ZoD]at hg;simp at hg⟩
theorem walk_in(hm:P.follows .mixedOrders=true){T:Tab}(hT:TabOk P T){f:FuncId}{args:LV}(h:∃st',S T f args .empty=some (.bool true,st')){W:World}{xs:List Value}(hg:KG P W (.of W))(hx:RL (cx .empty rho0 W 0) args xs):
 Calls P f xs.toArray W fun e W'=>e=.returned (.bool true)/\Below W.heap.size W W':=by
 obtain⟨st',h⟩:=h;refine (bi hm hT h hg (bj W) hx).mono fun e' W' ⟨x,_,he,g,hv⟩=>?_
 subst he;exact⟨by rw[J1 hv],g.rel.below.b⟩
theorem WF{W:World}{b off len cap:Nat}(es:LV)(g:Nat->Value)(hlen:es.length=len)(hc:len<=cap)(he:∀(i:Nat) (e:AV),es[i]?=some e->QAbs.R (cx .empty rho0 W 0).pure e (g i))
 (hg:∀i,i<len->(g i).cells.size=w/\∀(j:Nat) (v:Value),(g i).cells[j]?=some v->W.cell? ⟨b,off+i*w+j,none⟩=some v):QAbs.R (cx .empty rho0 W 0) (.lit es) (.slice (some ⟨b,off,none⟩) len cap):=by
 subst hlen;exact .lit (w:=w) g he (fun i hi=>⟨(hg i hi).1,fun j v hv=>Zrf ((hg i hi).2 j v hv)⟩) hc
section
variable {H:Type}{enc:TypeId × Value->H}
theorem open_strs_arg{W:World}{base:Nat}{t e:TypeId}{v:Value}{d:DataW H}{ps:List MemPlace}(ht:P.underlying t=some (.slice e))(he:P.underlying e=some .string)(hc:P.cellsOf e=1)
 (hval:Value.okWide P W .any base t v) (h:DataW.Trod enc P W 0 (fun _=>true) true t v d ps) :
 ∃ss:List B8,(∀s∈ss,s.length<=maxLen)/\ss.length<=maxLen/\QAbs.R (cx .empty rho0 W 0) (.lit (ss.map .str)) v:=by
 obtain⟨a0,len,cap,rfl⟩:=okWide_slice ht hval;obtain⟨fuel,hf⟩:=h;rcases open_strings ht he hc hf with⟨hcs,hx⟩|⟨a,len',cap',ss,hcs,_,hl,hm,hz,hx,hcell,hsz⟩
 ·refine⟨[],by simp,by simp,?_⟩
  have:(Value.slice a0 len cap)=.slice none 0 0:=by simpa [Value.cells] using hcs
  rw[this];exact .lit0 _ _
 ·have hv:(Value.slice a0 len cap)=.slice (some a) len' cap':=by simpa [Value.cells] using hcs
  rw[hv];simp only[if_true]at hz;refine⟨(ss.take len').map (fun s=>s.data.toList),?_,?_,?_⟩
  ·intro s hs
   obtain⟨s',hs',rfl⟩:=List.mem_map.1 hs;rw[Array.length_toList];exact hsz s' (List.mem_of_mem_take hs')
  ·rw[List.length_map,List.length_take];omega
  ·cases len' with
   | zero=>exact .lit0 _ _
   | succ n =>
    obtain⟨b,off,spot⟩:=a;have hspot:spot=none:=by simpa [Addr.add] using World.cell?_spot (hcell 0 (by omega))
    subst hspot;refine WF (w:=1) _ (fun i=>.string (ss.getD i ByteArray.empty)) (by simp;omega) hl (fun i e he=>?_) (fun i hi=>⟨rfl,fun j v hv=>?_⟩)
    ·rw[jG,jG,List.getElem?_take]at he
     by_cases hi:i<n+1
     ·rw[if_pos hi]at he
      have hs:ss[i]?=some (ss.getD i ByteArray.empty):=by
       have:i<ss.length:=by omega
       simp[List.getD,this]
      rw[hs]at he;simp only[Option.map_some,oJ]at he;subst he;rw[str_eq (ss.getD i ByteArray.empty)];exact .str _
     ·rw[if_neg hi]at he;simp at he
    ·have hj : j = 0 := by
      have:j<(Value.string (ss.getD i ByteArray.empty)).cells.size:=(Array.getElem?_eq_some_iff.1 hv).1;simp[Value.cells]at this;omega
     subst hj;have hv':Value.string (ss.getD i ByteArray.empty)=v:=by simpa [Value.cells] using hv
     rw[<- hv'];have:=hcell i (by omega);simpa [Addr.add_lit] using this
theorem open_ops_arg{W:World}{base:Nat}{t e t0 t1 t2 t3 t4:TypeId}{f0 f1 f2 f3 f4:Field}{v:Value}{d:DataW H}{ps:List MemPlace}(ht:P.underlying t=some (.slice e))(he:P.underlying e=some (.struct #[f0,f1,f2,f3,f4]))(hc:P.cellsOf e=5)
 (hf0:f0.type=t0/\f0.offset=0/\P.underlying t0=some (.int .u8)/\P.cellsOf t0=1) (hf1:f1.type=t1/\f1.offset=1/\P.underlying t1=some (.int .i64)/\P.cellsOf t1=1) (hf2:f2.type=t2/\f2.offset=2/\P.underlying t2=some (.int .i64)/\P.cellsOf t2=1)
 (hf3:f3.type=t3/\f3.offset=3/\P.underlying t3=some (.int .i64)/\P.cellsOf t3=1) (hf4:f4.type=t4/\f4.offset=4/\P.underlying t4=some .string/\P.cellsOf t4=1) (hval:Value.okWide P W .any base t v) (h:DataW.Trod enc P W 0 (fun _=>true) true t v d ps) :
 ∃l:List (Nat × Int × Int × Int × B8),(∀s∈l,s.2.2.2.2.length<=maxLen)/\l.length<=maxLen/\QAbs.R (cx .empty rho0 W 0) (.lit (l.map fun q=>.agg [.int .u8 q.1,.int .i64 q.2.1,.int .i64 q.2.2.1,.int .i64 q.2.2.2.1,.str q.2.2.2.2])) v:=by
 obtain⟨a0,len,cap,rfl⟩:=okWide_slice ht hval;obtain⟨fuel,hf⟩:=h;rcases open_slice ht hf with⟨hcs,hx⟩|⟨a,len',cap',m,n,D,Pl,hcs,_,hl,hm,hmm,hx,hall⟩
 ·refine⟨[],by simp,by simp,?_⟩
  have:(Value.slice a0 len cap)=.slice none 0 0:=by simpa [Value.cells] using hcs
  rw[this];exact .lit0 _ _
 ·have hv:(Value.slice a0 len cap)=.slice (some a) len' cap':=by simpa [Value.cells] using hcs
  rw[hv];simp only[if_true]at hmm;subst hmm;rw[hc]at hall;have each:∀i,i<len'->∃q:Nat × Int × Int × Int × B8,q.2.2.2.2.length<=maxLen/\W.cell? (a.add (i*5))=some (.int .u8 q.1)/\W.cell? (a.add (i*5+1))=some (.int .i64 q.2.1)/\W.cell? (a.add (i*5+2))=some (.int .i64 q.2.2.1)/\W.cell? (a.add (i*5+3))=some (.int .i64 q.2.2.2.1)/\W.cell? (a.add (i*5+4))=some (.string ⟨q.2.2.2.2.toArray⟩):=by
   intro i hi;obtain⟨cs',h1,h2⟩:=hall i (by omega);obtain⟨_,hlen,hcell⟩:=World.cells?_some h1;obtain⟨xs,k,_,_,_,hxl,hfs⟩:=DataW.trod_struct he h2;have g0:=hfs 0 f0 rfl;have g1:=hfs 1 f1 rfl;have g2:=hfs 2 f2 rfl;have g3:=hfs 3 f3 rfl;have g4:=hfs 4 f4 rfl
   match cs',hlen,xs,hxl with
   | [c0,c1,c2,c3,c4],_,[y0,y1,y2,y3,y4],_ =>
    simp only[hf0.1,hf0.2.1,hf0.2.2.2,hf1.1,hf1.2.1,hf1.2.2.2,hf2.1,hf2.2.1,hf2.2.2.2,hf3.1,hf3.2.1,hf3.2.2.2,hf4.1,hf4.2.1,hf4.2.2.2,List.drop,List.take,List.getElem?_cons_zero,List.getElem?_cons_succ]at g0 g1 g2 g3 g4;obtain⟨n0,e0,_,w0⟩:=DataW.trod_int hf0.2.2.1 g0;obtain⟨n1,e1,_,_⟩:=DataW.trod_int hf1.2.2.1 g1;obtain⟨n2,e2,_,_⟩:=DataW.trod_int hf2.2.2.1 g2;obtain⟨n3,e3,_,_⟩:=DataW.trod_int hf3.2.2.1 g3;obtain⟨s,e4,_,hs⟩:=DataW.trod_string hf4.2.2.1 g4;simp only[List.cons.injEq,and_true]at e0 e1 e2 e3 e4;subst e0;subst e1;subst e2;subst e3;subst e4;have hn0:0<=n0:=by
     simp only[Lit.wf,Bool.and_eq_true,decide_eq_true_eq]at w0;exact w0.1
    refine⟨(n0.toNat,n1,n2,n3,s.data.toList),by simp only[Array.length_toList];exact hs,?_,?_,?_,?_,?_⟩
    ·have:=hcell 0 (by omega)
     simp only[add_add,Nat.add_zero,List.getElem?_cons_zero]at this;rw[this];simp only[Int.toNat_of_nonneg hn0]
    ·have:=hcell 1 (by omega)
     simpa only [add_add,List.getElem?_cons_succ,List.getElem?_cons_zero] using this
    ·have:=hcell 2 (by omega)
     simpa only [add_add,List.getElem?_cons_succ,List.getElem?_cons_zero] using this
    ·have:=hcell 3 (by omega)
     simpa only [add_add,List.getElem?_cons_succ,List.getElem?_cons_zero] using this
    ·have:=hcell 4 (by omega)
     simp only[add_add,List.getElem?_cons_succ,List.getElem?_cons_zero]at this;rw[this,str_eq s]
  obtain⟨q,hq⟩:=choose_lt each;refine⟨(List.range len').map q,?_,by simp;omega,?_⟩
  ·intro s hs
   obtain⟨i,hi,rfl⟩:=List.mem_map.1 hs;exact (hq i (List.mem_range.1 hi)).1
  ·cases len' with
   | zero=>exact .lit0 _ _
   | succ len' =>
    obtain⟨b,off,spot⟩:=a;have hspot:spot=none:=by simpa [Addr.add] using World.cell?_spot (hq 0 (by omega)).2.1
    subst hspot;refine WF (w:=5) _ (fun i=>.agg #[.int .u8 (q i).1,.int .i64 (q i).2.1,.int .i64 (q i).2.2.1,.int .i64 (q i).2.2.2.1,.string ⟨(q i).2.2.2.2.toArray⟩]) (by simp) hl (fun i e he=>?_) (fun i hi=>⟨by simp[Value.cells],fun j v hv=>?_⟩)
    ·rw[jG,jG]at he
     by_cases hi:i<len'+1
     ·rw[List.getElem?_range hi]at he
      simp only[Option.map_some,oJ]at he;subst he;have hr:=RL.cons (C:=(cx .empty rho0 W 0).pure) (.int .u8 ((q i).1:Int)) (.cons (.int .i64 (q i).2.1) (.cons (.int .i64 (q i).2.2.1) (.cons (.int .i64 (q i).2.2.2.1) (.cons (.str (q i).2.2.2.2) (.nil _)))));exact .agg (xs:=[_,_,_,_,_]) hr.1 hr.2
     ·have:(List.range (len'+1))[i]?=none:=by simp;omega
      rw[this]at he;simp at he
    ·obtain⟨_,k0,k1,k2,k3,k4⟩:=hq i hi
     have hj:j<5:=by
      have:=(Array.getElem?_eq_some_iff.1 hv).1;simpa [Value.cells] using this
     simp only[Addr.add_lit]at k0 k1 k2 k3 k4
     match j,hj with
     | 0,_ =>
      have:v=.int .u8 (q i).1:=by simpa [Value.cells] using hv.symm
      subst this;simpa using k0
     | 1,_ =>
      have:v=.int .i64 (q i).2.1:=by simpa [Value.cells] using hv.symm
      subst this;simpa [Nat.add_assoc] using k1
     | 2,_ =>
      have:v=.int .i64 (q i).2.2.1:=by simpa [Value.cells] using hv.symm
      subst this;simpa [Nat.add_assoc] using k2
     | 3,_ =>
      have:v=.int .i64 (q i).2.2.2.1:=by simpa [Value.cells] using hv.symm
      subst this;simpa [Nat.add_assoc] using k3
     | 4,_ =>
      have:v=.string ⟨(q i).2.2.2.2.toArray⟩:=by simpa [Value.cells] using hv.symm
      subst this;simpa [Nat.add_assoc] using k4
end
end Go.QAbs
namespace Go.QAbs
open Go.ChangeShapes Go.WideShapes Go.RowKit Go.Deep
variable {v:AV}{e:Env}{z:Int}{A:List (Bool × List Blk)}{ck dd l lm:List Nat}{s t:B8}{c i ix jx kx la n o ver w:Nat}{a:Opd}{st:St}
variable {P:Program}
end Go.QAbs
namespace Go.Q15
open Go Go.QAbs
variable {v:AV}{e:Env}{z:Int}{A:List (Bool × List Blk)}{ck dd l lm:List Nat}{s t:B8}{c i ix jx kx la n o ver w:Nat}{x:Nd}{a:Opd}{st:St}
open Go.Shelf in
def Zrg:Ren:=⟨fun|41=>109|n=>n,fun|22=>156|23=>166|n=>n,fun n=>n⟩
theorem WG:Go.Proofs.SlLaysE0.n41 Proofs.Tryz.prog Zrg:={
 mixed:=by kernel_rfl
 f41 := ⟨"slices.Clone[[]quarto/api.Kid,quarto/api.Kid]", by decide, Proofs.Tryz.func109.trans (congrArg some (by kernel_rfl))⟩
 t4:=Proofs.Tryz.underlying4
 a4:=Proofs.Tryz.isAgg4
 z4:=Proofs.Tryz.sizeOf4
 v4:=Proofs.Tryz.zeroValue4
 t22:=Proofs.Tryz.underlying156
 a22:=Proofs.Tryz.isAgg156
 z22:=Proofs.Tryz.sizeOf156
 v22:=Proofs.Tryz.zeroValue156 }
theorem Zri:∃i z,Proofs.Tryz.prog.info? 166=some i/\i.zero=some z/\i.size=4/\i.bytes=32/\z.cells.size=4:=⟨_,_,rfl,rfl,rfl,rfl,rfl⟩
theorem Zlh:Bf Proofs.Tryz.prog Zp (.base (DE 4)):=by
 obtain⟨i,z,h1,h2,h3,h4,h5⟩:=Zri;refine cE (T:=166) (fun n c W=>Go.Proofs.AnyE.slices_Clone_nil WG n c W) fun ad n c news W hl hn hc ho=>?_
 exact cC WG i z 4 32 h1 h2 h3 h4 h5 (by decide) Proofs.Tryz.sizeOf166 ad n c news W hl (by unfold maxLen;omega) (by omega) hc ho
theorem GN:Proofs.Tryz.prog.follows .mixedOrders=true:=by kernel_rfl
theorem WH:BR Proofs.Tryz.prog tl:=⟨⟨Proofs.Tryz.call109,Zlh⟩,Zsj⟩
theorem ZwB:TabOk Proofs.Tryz.prog Tb:=HG WH
theorem WI:BR Proofs.Tryz.prog t1:=⟨⟨Proofs.Tryz.call46,Kr GN ZwB Proofs.Tryz.func46 lT⟩,WH⟩
theorem WJ:TabOk Proofs.Tryz.prog T1:=HG WI
theorem WL:BR Proofs.Tryz.prog t3:=⟨⟨Proofs.Tryz.call58,Kr GN WJ Proofs.Tryz.func58 oF⟩,⟨Proofs.Tryz.call14,Kr GN WJ Proofs.Tryz.func14 ei⟩,WI⟩
theorem WM:TabOk Proofs.Tryz.prog T3:=HG WL
theorem ZvR:BR Proofs.Tryz.prog tv:=WL
theorem ZvS:BR Proofs.Tryz.prog tw:=ZvR
theorem ZvT:BR Proofs.Tryz.prog tx:=⟨⟨Proofs.Tryz.call50,Zu5 WM GN Proofs.Tryz.func50⟩,ZvS⟩
theorem ZvU:BR Proofs.Tryz.prog tz:=⟨⟨Proofs.Tryz.call52,ZvK WM GN Proofs.Tryz.func52⟩,ZvT⟩
theorem TZ_ok:TabOk Proofs.Tryz.prog TZ:=HG ZvU
def mkEd(q:Nat × Int × Int × Int × B8):Ed:=⟨q.1,q.2.1,q.2.2.1,q.2.2.2.1,q.2.2.2.2⟩
theorem reachEdits_run(ss:List B8)(l:List (Nat × Int × Int × Int × B8))(which a n:Int)(s:B8)(h1:∀s∈ss,s.length<=maxLen)(h2:ss.length<=maxLen)(h3:∀s∈l,s.2.2.2.2.length<=maxLen)(h4:l.length<=maxLen)
 (_h5:(Lit.int .i64 which).wf=true) (_h6:(Lit.int .i64 a).wf=true) (_h7:(Lit.int .i64 n).wf=true) (h8:s.length<=maxLen) :
 ∃st',S TZ Zw [.lit (ss.map .str),.lit (l.map fun q=>.agg [.int .u8 q.1,.int .i64 q.2.1,.int .i64 q.2.2.1,.int .i64 q.2.2.2.1,.str q.2.2.2.2]),.int .i64 which,.int .i64 a,.int .i64 n,.str s] .empty=some (.bool true,st'):=by
 have hm:maxLen<9223372036854775808:=by decide +kernel
 have:=ZiA ss (l.map mkEd) which a n s (by omega) (fun s hs=>by have:=h1 s hs;omega) (by rw[List.length_map];omega) (fun s hs=>by obtain⟨q,hq,rfl⟩:=List.mem_map.1 hs;have:=h3 q hq;simp only[mkEd];omega) (by omega) .empty;rw[List.map_map]at this;exact⟨_,this⟩
end Go.Q15
