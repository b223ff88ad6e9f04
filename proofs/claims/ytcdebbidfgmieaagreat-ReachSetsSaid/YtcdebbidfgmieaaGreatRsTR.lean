/- A part of the proof: CUb, CUi, CUj, PEb, PEc, PEd, PEe, PEf, PEg, PEh, PEi, PEj, SM, SRa, RSd, RSe, PSk, RSf, RSg, RSh, FY, TZt. No condition. -/
import Derived.SliceStrings
import Derived.Deep.Slices
import Derived.Carry
import Derived.Test.YtcdebbidfgmieaaGreatRsT9
set_option linter.unusedVariables false
set_option linter.unusedSimpArgs false
set_option maxHeartbeats 32000000
set_option maxRecDepth 100000
namespace Go.Q15
open Go Go.QAbs
variable {f:FuncId}{n:Int}{A:List (Bool × List Blk)}{args:LV}{l:List Nat}{i ix o w:Nat}{x:Ro}{st:St}
section
variable {O:Orc}{k:List Fr}{Q:YD}{e:Env}{A:List (Bool × List Blk)}{L L0 T T':List Blk}{keep:List Nat}{is:List QAbs.PI}{d:Nat}
theorem Zpo{z1 z2 z3 v1 v2 v3:AV}{x1 x2 x3:Opd}(h1:Zc e x1=some v1)(h2:Zc e x2=some v2)(h3:Zc e x3=some v3)(w1:v1.wide=some w)(w2:v2.wide=some w)(w3:v3.wide=some w)(i1:imm 6 v1=true)(i2:imm 6 v2=true)(i3:imm 6 v3=true)(h:Is O is keep k Q ((d,.lit [v1,v2,v3])::e) st):
 Is O (⟨some d,none,false,.w .imm (.bslice false w [z1,z2,z3] [(0,x1),(1,x2),(2,x3)])⟩::is) keep k Q e st:=by
 refine Z3 (od:=some d) (v:=.lit [v1,v2,v3]) (st':=st) ?_ h
 have hf:fillE w [z1,z2,z3] [(0,v1),(1,v2),(2,v3)]=some [v1,v2,v3]:=by simp[fillE,w1,w2,w3]
 simp only[Zg,QC,Zfn,JV,ZF h1,ZF h2,ZF h3,hf,oS,ZVz,List.all_cons,List.all_nil,i1,i2,i3,Bool.and_self,if_true,List.isEmpty_cons,jB,if_false]
end
theorem Has.frmL{L L':List Blk}{b:Nat}{r:AR}(h:Has ⟨A,false,L⟩ A.length b r)(hg:∀i,b<=i->i<=b+5->L'[i]?=L[i]?):Has ⟨A,false,L'⟩ A.length b r:=by
 have e:∀i,b<=i->i<=b+5->St.get ⟨A,false,L'⟩ A.length i=St.get ⟨A,false,L⟩ A.length i:=fun i h1 h2=>by rw[St.get_cur,St.get_cur,hg i h1 h2]
 exact⟨by simp[St.wr],(e _ (by omega) (by omega)).trans h.h0,(e _ (by omega) (by omega)).trans h.h1,(e _ (by omega) (by omega)).trans h.h2,(e _ (by omega) (by omega)).trans h.h3,(e _ (by omega) (by omega)).trans h.h4,(e _ (by omega) (by omega)).trans h.h5⟩
theorem ZaB{ro:Bool}{L:List Blk}{b:Blk}(h:St.get ⟨A,ro,L⟩ A.length i=some b):i<L.length:=by
 rw[St.get_cur]at h;exact (List.getElem?_eq_some_iff.1 (ZAW h).1).1
theorem Has.app{L:List Blk}{b:Nat}{r:AR}(h:Has ⟨A,false,L⟩ A.length b r)(T:List Blk):Has ⟨A,false,L++T⟩ A.length b r :=
 h.frmL fun i h1 h2=>by
  have:=ZaB h.h5
  rw[jL (by omega)]
section
variable {O:Orc}{k:List Fr}{Q:YD}{e:Env}{A:List (Bool × List Blk)}{L:List Blk}{keep:List Nat}{is:List QAbs.PI}{d:Nat}
theorem ZaC{a b c:Opd}{agg:Bool}{n ver jx vb ib ob kx vc ic oc:Nat}{es:LV}{x v:AV}(ha:Zc e a=some (.ptr A.length ix ver i o))(hb:Zc e b=some (.ptr A.length jx vb ib ob))(hc:Zc e c=some (.ptr A.length kx vc ic oc))(hne:Nat.beq ix jx=false)(hne2:Nat.beq ix kx=false)
 (hg:L[ix]?=some (Blk.arr w ver es)) (hx:es[i]?=some x) (hv:JU x agg o n=some v) (h:Is O is keep k Q ((d,v)::e) ⟨A,false,L⟩):Is O (⟨some d,none,false,.w (.hide [b,c]) (.ld agg n a)⟩::is) keep k Q e ⟨A,false,L⟩:=by
 refine Zif ?_ h
 have hp:Y2 (XH e [b,c]) A.length ix=false:=by
  have hxy:ix≠jx:=fun q=>by subst q;simp at hne
  have hxz:ix≠kx:=fun q=>by subst q;simp at hne2
  simp[Y2,XH,ZF hb,ZF hc,ZAe,hxy,hxz]
 have hgt:(St.hide (Y2 (XH e [b,c])) ⟨A,false,L⟩).get A.length ix=some (Blk.arr w ver es):=by
  rw[ZAJ,hp,St.get_cur,hg];rfl
 simp only[QC,PO.reads,if_true,evalPO,ZF ha,loadP,hgt,ZEM,hx,hv,oS,Qf,QV]
end
theorem Zrg:((wrV (edV exUR.nodes exURo 9 0 [120,121,122]) exUR).2.1.at_,(wrV (edV exUR.nodes exURo 9 0 [120,121,122]) exUR).2.1.h,(wrV (edV exUR.nodes exURo 9 0 [120,121,122]) exUR).2.1.m.b)=(65540,1,20):=by
 unfold exUR;rw[ZCB];rfl
theorem Zpp:ZJv (fun n=>decide (2<=n)) (X4 (wrV (edV exUR.nodes exURo 9 0 [120,121,122]) exUR).1.nodes [exURo,(wrV (edV exUR.nodes exURo 9 0 [120,121,122]) exUR).2.1])=[65537]:=by
 unfold exUR;rw[ZCB];rfl
theorem Znn(a:Nat)(h:a<18446744073709551616):ZhV [a]=[a]:=List.perm_singleton.1 (ZJN (by simpa using h))
theorem ZlN(A:List (Bool × List Blk)):∃(y:Ro) (B:Blk),y=(wrV (edV exUR.nodes exURo 9 0 [120,121,122]) exUR).2.1/\S Tb YL [] ⟨A,false,[]⟩=some (.tup [.ptr A.length 7 0 0 0,exURo.av,y.av,.bool true],
 ⟨A,false,[.arr 5 0 [exURo.av],.arr 5 0 [y.av]]++(arB A.length 2 (wrV (edV exUR.nodes exURo 9 0 [120,121,122]) exUR).1++[.arr 5 0 [exURo.av],B])⟩):=by
 have hN:=Zjs 8 4 (by omega) (by omega) A [.arr 5 0 [Ro.zero.av],.arr 5 0 [Ro.zero.av]]
 have h1:=Zj8 (ZBy A [.arr 5 0 [Ro.zero.av],.arr 5 0 [Ro.zero.av]] [] (JF 8 4)) (ZZ0 8 4 (by omega) (by omega)) ZOh exU (by decide) (by rw[Znd];decide)
 rw[ZOv,Znc]at h1;obtain⟨o1,o2,o3⟩:=exU_ok
 have hI:=fun T=>Zne (ZBy A [.arr 5 0 [Ro.zero.av],.arr 5 0 [Ro.zero.av]] T exUR) o1 o2 exU_edOk ZkC
 simp only[ZOv]at hI;have hy:=Zrg;simp only[jP]at hy;obtain⟨y1,y2,y3⟩:=hy
 generalize ZBN exUR.nodes [exURo] (edV exUR.nodes exURo 9 0 [120,121,122])=dd at *
 generalize edV exUR.nodes exURo 9 0 [120,121,122]=t at *
 generalize (wrV t exUR).2.2=fr at *
 generalize (wrV t exUR).2.1=r2 at *
 generalize (wrV t exUR).1=R2 at *
 refine⟨r2,.arr 7 0 [ZBz r2 fr (slH dd)],rfl,?_⟩
 change S Tb ZCP [.ptr A.length 7 0 0 0,.str exU] ⟨A,false,_⟩=some (_,⟨A,false,[.arr 5 0 [Ro.zero.av],.arr 5 0 [Ro.zero.av]]++(arB A.length 2 exUR++[])⟩) at h1
 change ∀T,S Tb Xf [.ptr A.length 7 0 0 0,exURo.av,.int .i64 9,.str [120,121,122]] ⟨A,false,[.arr 5 0 [Ro.zero.av],.arr 5 0 [Ro.zero.av]]++(arB A.length 2 exUR++T)⟩=some (_,⟨A,false,[.arr 5 0 [Ro.zero.av],.arr 5 0 [Ro.zero.av]]++(arB A.length 2 R2++T)⟩) at hI
 refine Xv Y ?_
 repeat'(first|refine ZE ?_|refine ZD ?_|refine ZG Y ?_|refine QK Y ?_|refine Zr Y Y Y Y ?_|refine Zw Y Y ?_|refine ZB Y ?_|refine ZC ?_|(refine cm0 Y Y Y ?_ ?_<;>intro _<;>try omega)|refine ZH Y ?_|refine JN Y Y Y Y ?_|refine Zi Y Y Y ?_|refine ZA Y Y Y (hN) ?_|refine ZI ?_)
 all_goals try first|contradiction|omega
 unfold exU at h1;refine ZA Y Y Y h1 ?_
 change Is _ _ _ _ _ _ ⟨A,false,[.arr 5 0 [Ro.zero.av],.arr 5 0 [Ro.zero.av],exUR.b0,exUR.b1,exUR.b2,exUR.b3 A.length 2,exUR.b4,exUR.b5 A.length 2]⟩
 change ∀T,S Tb Xf [.ptr A.length 7 0 0 0,exURo.av,.int .i64 9,.str [120,121,122]] ⟨A,false,.arr 5 0 [Ro.zero.av]::.arr 5 0 [Ro.zero.av]::exUR.b0::exUR.b1::exUR.b2::exUR.b3 A.length 2::exUR.b4::exUR.b5 A.length 2::T⟩=some (.tup [ZBz r2 fr (slH dd),_],⟨A,false,.arr 5 0 [Ro.zero.av]::.arr 5 0 [Ro.zero.av]::R2.b0::R2.b1::R2.b2::R2.b3 A.length 2::R2.b4::R2.b5 A.length 2::T⟩) at hI
 show Is _ _ _ _ (fun x e s=>JD _ _ (x,e,s)=some (_,⟨A,false,.arr 5 0 [exURo.av]::.arr 5 0 [r2.av]::R2.b0::R2.b1::R2.b2::R2.b3 A.length 2::R2.b4::R2.b5 A.length 2::[.arr 5 0 [exURo.av],.arr 7 0 [ZBz r2 fr (slH dd)]]⟩)) _ _
 generalize exUR.b0=b0 at *
 generalize exUR.b1=b1 at *
 generalize exUR.b2=b2 at *
 generalize exUR.b3 A.length 2=b3 at *
 generalize exUR.b4=b4 at *
 generalize exUR.b5 A.length 2=b5 at *
 generalize R2.b0=c0 at *
 generalize R2.b1=c1 at *
 generalize R2.b2=c2 at *
 generalize R2.b3 A.length 2=c3 at *
 generalize R2.b4=c4 at *
 generalize R2.b5 A.length 2=c5 at *
 obtain⟨x1,x2,x3⟩:=r2
 simp only at y1 y2 y3
 subst y1
 have hcs:slH dd=.nils\/slH dd=.lit (dd.map Zt):=by
  unfold slH
  split
  ·exact .inl Y
  ·exact .inr Y
 generalize slH dd=dv at *
 unfold ZBz Ro.av Ro.zero exURo at *
 rcases hcs with rfl|rfl
 ·repeat'(first|refine ZE0 Y Y Y Y Y Y ?_|refine ZaC Y Y Y Y Y Y Y Y ?_|refine ZDJ Y Y Y Y Y Y Y ?_|refine ZE ?_|refine ZD ?_|refine ZG Y ?_|refine ZV Y Y ?_|refine ZU Y Y Y Y ?_|refine QK Y ?_|refine JZ Y Y ?_|refine Zr Y Y Y Y ?_|refine Zw Y Y ?_|refine ZB Y ?_|refine ZC ?_|(refine cm0 Y Y Y ?_ ?_<;>intro _<;>try omega)|refine Zi Y Y Y ?_|refine Zv Y Y Y Y Y Y ?_|refine ZA Y Y Y (hI _) ?_|refine ZP ?_|refine ZO ?_)
  all_goals first|exact absurd Y ‹_›|exact (ZmT (.inr Y) Y Y Y Y Y).trans Y
 ·repeat'(first|refine ZE0 Y Y Y Y Y Y ?_|refine ZaC Y Y Y Y Y Y Y Y ?_|refine ZDJ Y Y Y Y Y Y Y ?_|refine ZE ?_|refine ZD ?_|refine ZG Y ?_|refine ZV Y Y ?_|refine ZU Y Y Y Y ?_|refine QK Y ?_|refine JZ Y Y ?_|refine Zr Y Y Y Y ?_|refine Zw Y Y ?_|refine ZB Y ?_|refine ZC ?_|(refine cm0 Y Y Y ?_ ?_<;>intro _<;>try omega)|refine Zi Y Y Y ?_|refine Zv Y Y Y Y Y Y ?_|refine ZA Y Y Y (hI _) ?_|refine ZP ?_|refine ZO ?_)
  all_goals first|exact absurd Y ‹_›|exact (ZmT (.inr Y) Y Y Y Y Y).trans Y
theorem ZlO(st:St):S TX QO [] st=some (.bool true,st):=by
 refine QN (leX QO (.pf JC) (leW QO (.pf JC) (leV QO (.pf JC) (le3 QO (.pf JC) Y)))) (fun A hA=>?_)
 obtain⟨y,B,hy,hS⟩:=ZlN A;have hS:=Zq3 hS;obtain⟨o1,o2,o3⟩:=exU_ok;obtain⟨v1,v2,v3⟩:=exU_edOk.ok o2
 obtain⟨w1,w2⟩:=ZhY (r:=exUR) (ZBy [] [] [] _) o1 o2 v1 (by rw[v2];decide) ZkC
 have hx:=o3.rt.ext w1.ext;have hsel:=Zpp;rw[<- hy]at hsel w2
 have hSh:=fun T=>ZdS w1.good w1.ok.h64 w1.ok.lv (ZBy A [.arr 5 0 [exURo.av],.arr 5 0 [y.av]] T (wrV (edV exUR.nodes exURo 9 0 [120,121,122]) exUR).1).r.rd (rs:=[exURo,y]) (by simp;exact⟨hx,w2.rt⟩) (by simp)
 have hat:atL (wrV (edV exUR.nodes exURo 9 0 [120,121,122]) exUR).1.nodes 2 [exURo,y]=[65537]:=by
  unfold atL
  rw[hsel,Znn _ (by decide)]
 rw[hat]at hSh;clear hy hsel v1 v2 v3 w1 w2 hx hat
 generalize (wrV (edV exUR.nodes exURo 9 0 [120,121,122]) exUR).1=R2 at *
 change ∀T,S TX JB [.ptr A.length 7 0 0 0,.lit [exURo.av,y.av]] ⟨A,false,.arr 5 0 [exURo.av]::.arr 5 0 [y.av]::R2.b0::R2.b1::R2.b2::R2.b3 A.length 2::R2.b4::R2.b5 A.length 2::T⟩=some (.tup [.lit [.int .u64 65537],.int .i64 0],⟨A,false,.arr 5 0 [exURo.av]::.arr 5 0 [y.av]::R2.b0::R2.b1::R2.b2::R2.b3 A.length 2::R2.b4::R2.b5 A.length 2::T⟩) at hSh
 change S TX YL [] ⟨A,false,[]⟩=some (_,⟨A,false,.arr 5 0 [exURo.av]::.arr 5 0 [y.av]::R2.b0::R2.b1::R2.b2::R2.b3 A.length 2::R2.b4::R2.b5 A.length 2::[.arr 5 0 [exURo.av],B]⟩) at hS
 have hEH:=fun st=>Zq3 (ZDM [65537] (by decide) st)
 change ∀st,S TX Qb [.lit [.int .u64 65537],.lit [.int .u64 65537]] st=_ at hEH
 generalize R2.b0=c0 at *
 generalize R2.b1=c1 at *
 generalize R2.b2=c2 at *
 generalize R2.b3 A.length 2=c3 at *
 generalize R2.b4=c4 at *
 generalize R2.b5 A.length 2=c5 at *
 unfold Ro.av exURo at *
 repeat'(first|refine ZE ?_|refine ZD ?_|refine ZG Y ?_|refine ZU Y Y Y Y ?_|refine QK Y ?_|refine Zr Y Y Y Y ?_|refine Zw Y Y ?_|refine ZB Y ?_|refine ZC ?_|(refine cm0 Y Y Y ?_ ?_<;>intro _<;>try omega)|refine ZH Y ?_|refine Jo Y Y ?_|refine Zi Y Y Y ?_|refine Zv Y Y Y Y Y Y ?_|refine QM Y Y Y Y ?_|refine ZA Y Y Y (hS) ?_|refine ZA Y Y Y (hSh _) ?_|refine ZA Y Y Y (hEH _) ?_|refine ZI ?_|refine ZP ?_|refine ZO ?_)
 all_goals try contradiction
 all_goals refine Zj hA (by simp) Y Y Y Y ?_
 all_goals rfl
noncomputable def ty0:List (FuncId × Ent):=(QJ,.pf XT)::tx
noncomputable def TY0:Tab:=Y7 ty0
noncomputable def setE:Ent:=.base (roO (S TY0 QJ))
noncomputable def ty:List (FuncId × Ent):=(QJ,setE)::tx
noncomputable def TY:Tab:=Y7 ty
theorem leY0:TLe TX TY0:=fun g y hg=>X3 (l:=tx) (by decide +kernel) g y hg
theorem leY:TLe TX TY:=fun g y hg=>X3 (l:=tx) (by decide +kernel) g y hg
theorem upY{r:AV × St}(h:S TX f args st=some r):S TY f args st=some r:=ZOq leY _ _ _ _ h
theorem upY0{r:AV × St}(h:S TX f args st=some r):S TY0 f args st=some r:=ZOq leY0 _ _ _ _ h
theorem ZSI{r:AV × St}(h:S Tb f args st=some r):S TY f args st=some r:=upY (Zq3 h)
theorem Zno{lv:Nat}{b:Blk}(h:st.get lv ix=some b):st.upd lv ix b=st:=by
 obtain⟨A,ro,L⟩:=st
 have hset:∀ {l:List Blk},vis l[ix]?=some b->l.set ix b=l:=fun {l} q=>by
  obtain⟨h1,h2⟩:=List.getElem?_eq_some_iff.1 (ZAW q).1;rw[<- h2];exact List.set_getElem_self h1
 unfold St.upd
 by_cases q:lv=A.length
 ·subst q
  simp only[St.get,if_true]at h ⊢;rw[hset h]
 ·rw[if_neg q]
  simp only[St.get,if_neg q]at h
  cases hA:A[lv]? with
  | none=>rw[hA]at h;simp at h
  | some r =>
   rw[hA,oS]at h;obtain⟨h1,h2⟩:=List.getElem?_eq_some_iff.1 hA
   have:A.set lv (ZWg ((some r).getD (false,[])) ix b)=A:=by
    skip
    show A.set lv (r.1,r.2.set ix b)=A
    rw[hset h]
    show A.set lv r=A
    rw[<- h2];exact List.set_getElem_self h1
   simp only[this]
theorem Zpq{lv ia io la b:Nat}{N:ZJ}(hw:st.wr lv)(ga:st.get lv ia=some (.arr 1 0 [.ptr la (b+5) 0 0 0]))(go:st.get lv io=some (.arr 1 0 [.bool true]))(hN:GoodN N)(h6:ZO0 N)(hK:∀l,Lv N l->l.length<=16384)(hR:Rd st la (b+5) N){rs:List Ro}(hrs:∀r∈rs,RtOk N r)(hl:rs.length<=100):
 S TY0 QJ [.lit (rs.map Ro.av),.ptr lv ia 0 0 0,.ptr lv io 0 0 0] st=some (.lit ((atL N 1 rs).map Zt),st):=by
 refine QN Y (fun A hA=>?_)
 have g1:=fun L=>ZS hA (ro:=false) (L:=L) ga
 have g2:=fun L=>ZS hA (ro:=false) (L:=L) go
 have hS:=fun L=>upY0 (Zrf hN h6 hK (hR.push hA (ro:=false) (L:=L)) hrs hl)
 have hupd:=Zno go
 repeat'(first|refine QB Y (g1 _) Y Y ?_|refine QB Y (g2 _) Y Y ?_|refine ZE ?_|refine ZD ?_|refine ZG Y ?_|refine QK Y ?_|refine Zr Y Y Y Y ?_|refine Zw Y Y ?_|refine ZB Y ?_|refine ZC ?_|(refine cm0 Y Y Y ?_ ?_<;>intro _<;>try omega)|refine ZA Y Y Y (hS _) ?_)
 all_goals try contradiction
 refine QAbs.is_stP hA Y Y hw go Y Y Y (fun A' hA'=>?_)
 change A'=(st.upd lv io (.arr 1 0 [.bool true])).A++[((st.upd lv io (.arr 1 0 [.bool true])).ro,(st.upd lv io (.arr 1 0 [.bool true])).L)]at hA'
 rw[hupd]at hA';rw[<- hA]at hA';subst hA'
 repeat'(first|refine ZE ?_|refine ZD ?_|refine ZG Y ?_|refine ZB Y ?_|refine ZC ?_|refine ZP ?_|refine ZO ?_)
 all_goals refine Zj hA (by simp) Y Y Y Y ?_
 all_goals rfl
theorem Zpr{lv:Nat}(h:lv<=st.A.length):(noRo st).wr lv:=by
 unfold St.wr;rw[ZBO]
 by_cases q:lv=st.A.length
 ·rw[if_pos q];rfl
 ·rw[if_neg q]
  have hl:lv<st.A.length:=by omega
  exact⟨(st.A[lv]).2,by simp[noRo,jE hl]⟩
theorem Rd.noRo{lv:Nat}{N:ZJ}(h:Rd st lv ix N):Rd (noRo st) lv ix N:=by
 obtain⟨a0,a1,im,a3,a4,a5,h1,h2⟩:=h;exact⟨a0,a1,im,a3,a4,a5,(ZE4 _ _ _).trans h1,(ZE4 _ _ _).trans h2⟩
theorem ZaD{lv ia io la b:Nat}{N:ZJ}(ga:st.get lv ia=some (.arr 1 0 [.ptr la (b+5) 0 0 0]))(go:st.get lv io=some (.arr 1 0 [.bool true]))(hN:GoodN N)(h6:ZO0 N)(hK:∀l,Lv N l->l.length<=16384)(hR:Rd st la (b+5) N){rs:List Ro}(hrs:∀r∈rs,RtOk N r)(hl:rs.length<=100):
 S TY QJ [.lit (rs.map Ro.av),.ptr lv ia 0 0 0,.ptr lv io 0 0 0] st=some (.lit ((atL N 1 rs).map Zt),st) :=
 ZV7 (o:=roO (S TY0 QJ)) rfl (Zq5 (Zpq (Zpr (St.get_le ga)) ((ZE4 _ _ _).trans ga) ((ZE4 _ _ _).trans go) hN h6 hK hR.noRo hrs hl))
theorem ZlP(l m:List Nat):l.length=(l.filter fun o=>decide (o∈m)).length+(l.filter fun o=>decide (o∉m)).length:=by
 induction l with
 | nil=>rfl
 | cons a l ih =>
  rw[List.filter_cons,List.filter_cons,List.length_cons]
  by_cases h:a∈m
  ·rw[if_pos (decide_eq_true h),if_neg (by simp[h]),List.length_cons];omega
  ·rw[if_neg (by simp[h]),if_pos (decide_eq_true h),List.length_cons];omega
theorem ZD6:∀ {l m:List Nat},l.Perm m->l.Pairwise (fun a b=>a % 65536<b % 65536)->m.Pairwise (fun a b=>a % 65536<b % 65536)->l=m
 | [],m,h,_,_=>h.nil_eq
 | a::l,[],h,_,_=>by have:=h.length_eq;simp at this
 | a::l,b::m,h,h1,h2=>by
  rw[List.pairwise_cons]at h1 h2
  have e:a=b:=by
   rcases List.mem_cons.1 (h.mem_iff.1 List.mem_cons_self) with e|ha
   ·exact e
   ·rcases List.mem_cons.1 (h.mem_iff.2 List.mem_cons_self) with e|hb
    ·exact e.symm
    ·have:=h1.1 b hb
     have:=h2.1 a ha
     omega
  subst e;rw[ZD6 (List.Perm.cons_inv h) h1.2 h2.2]
theorem ZKL{r:AR}(ho:AROk r){x:Nd}(hx:lk r.nodes o=some x):o∈Jy r:=by
 obtain⟨s,g,k1,k2,k3,k4⟩:=ho.key o x hx;unfold Jy;refine List.mem_map.2 ⟨s,?_,?_⟩
 ·unfold ZAb YP
  rw[List.mem_filter,List.mem_range]
  exact⟨k2,by simp[k3]⟩
 ·unfold hOf;rw[k4,k1];simp
theorem ZO4{r:AR}(ho:AROk r):(Jy r).Pairwise fun a b=>a % 65536<b % 65536:=by
 unfold Jy;rw[List.pairwise_map];have h16:=ho.n16
 have hp:(ZAb r.states 1).Pairwise fun a b=>a<b:=by
  unfold ZAb YP;exact (List.pairwise_lt_range).filter _
 refine hp.imp_of_mem fun {a b} ha hb h=>?_
 have h1:=(ZLi ha).1;have h2:=(ZLi hb).1;unfold hOf;omega
theorem Zps{r:AR}(ho:AROk r):(Jy r).Nodup:=(ZO4 ho).imp fun h e=>by subst e;omega
theorem ZVt{N:ZJ}(hN:GoodN N)(h6:ZO0 N){rs:List Ro}(hrs:∀r∈rs,RtOk N r):o∈atL N n rs↔o∈(X4 N rs).map Prod.fst/\n<=Q1 o (X4 N rs):=by
 unfold atL;rw[(ZJN (ZI2 (N:=N) (ZO3 hN h6 hrs))).mem_iff,ZhU (ZO2 N rs),decide_eq_true_eq]
theorem ZBY{N:ZJ}(hN:GoodN N)(h6:ZO0 N){rs:List Ro}(hrs:∀r∈rs,RtOk N r):(atL N n rs).Nodup :=
 (ZJN (ZI2 (N:=N) (ZO3 hN h6 hrs))).nodup_iff.2 (ZGF (ZO2 N rs))
theorem cntR_key{N:ZJ}{rs:List Ro}:o∈(X4 N rs).map Prod.fst↔∃r∈rs,o∈Z6 (Zm N r):=by
 unfold X4
 rw[ZO1 N o rs [] (by simp)];simp
theorem Zho{N:ZJ}{rs:List Ro}:Q1 o (X4 N rs)=((rs.filter fun r=>decide (o∈Z6 (Zm N r))).length:Int):=by
 unfold X4;rw[ZZ9];simp[Q1]
theorem ZO5{N:ZJ}(hN:GoodN N)(h6:ZO0 N){rs:List Ro}(hrs:∀r∈rs,RtOk N r):o∈atL N 1 rs↔∃r∈rs,o∈Z6 (Zm N r):=by
 rw[ZVt hN h6 hrs,cntR_key,Zho]
 constructor
 ·exact fun h=>h.1
 ·rintro⟨r,hr,h⟩
  refine⟨⟨r,hr,h⟩,?_⟩
  have:=List.length_pos_of_mem (show r∈rs.filter fun r=>decide (o∈Z6 (Zm N r)) from List.mem_filter.2 ⟨hr,decide_eq_true h⟩)
  omega
theorem ZaE{r:AR}(ho:AROk r)(hg:GoodN r.nodes){rs:List Ro}(hrs:∀x∈rs,RtOk r.nodes x)(h:o∈atL r.nodes n rs):∃y,lk r.nodes o=some y:=by
 obtain⟨x,hx,h2⟩:=cntR_key.1 ((ZVt hg ho.h64 hrs).1 h).1;exact ZCC hg (hrs x hx) o (onceV_mem.1 h2)
theorem ZaF{r:AR}(ho:AROk r)(hg:GoodN r.nodes){rs:List Ro}(hrs:∀x∈rs,RtOk r.nodes x)(h:o∈atL r.nodes n rs):o∈Jy r:=by
 obtain⟨x,hx,h2⟩:=cntR_key.1 ((ZVt hg ho.h64 hrs).1 h).1;obtain⟨y,hy⟩:=ZCC hg (hrs x hx) o (onceV_mem.1 h2);exact ZKL ho hy
theorem ZkE(h:l.Pairwise fun a b=>a % 65536<b % 65536){a b:Nat}(ha:a∈l)(hb:b∈l)(e:a % 65536=b % 65536):a=b:=by
 induction l with
 | nil=>simp at ha
 | cons c l ih =>
  rw[List.pairwise_cons]at h
  rcases List.mem_cons.1 ha with e1|ha'<;>rcases List.mem_cons.1 hb with e2|hb'
  ·rw[e1,e2]
  ·have:=h.1 _ hb';subst e1;omega
  ·have:=h.1 _ ha';subst e2;omega
  ·exact ih h.2 ha' hb'
theorem ZVu{r:AR}(ho:AROk r)(hg:GoodN r.nodes){rs:List Ro}(hrs:∀x∈rs,RtOk r.nodes x):(atL r.nodes n rs).Pairwise fun a b=>a % 65536<b % 65536:=by
 have h1:(atL r.nodes n rs).Pairwise fun a b=>a % 65536<=b % 65536:=ZSo _
 have h2:(atL r.nodes n rs).Pairwise fun a b=>a≠b:=ZBY hg ho.h64 hrs
 refine (h1.and h2).imp_of_mem fun {a b} ha hb h=>?_
 rcases Nat.lt_or_ge (a % 65536) (b % 65536) with q|q
 ·exact q
 ·exact absurd (ZkE (ZO4 ho) (ZaF ho hg hrs ha) (ZaF ho hg hrs hb) (by omega)) h.2
theorem ZlQ{r:AR}(ho:AROk r)(hg:GoodN r.nodes){rs:List Ro}(hrs:∀x∈rs,RtOk r.nodes x):atL r.nodes 1 rs=(Jy r).filter fun o=>decide (o∈atL r.nodes 1 rs):=by
 refine ZD6 (ZA2 (ZBY hg ho.h64 hrs) ((Zps ho).filter _) fun o=>?_) (ZVu ho hg hrs) ((ZO4 ho).filter _)
 rw[List.mem_filter,decide_eq_true_eq]
 exact⟨fun h=>⟨ZaF ho hg hrs h,h⟩,fun h=>h.2⟩
structure RsOk(one two three every both gone order live:List Nat):Prop where
 ev:every=live.filter fun o=>decide (o∈one\/o∈two\/o∈three)
 bo:∀o,o∈both↔o∈one/\o∈two
 go:∀o,o∈gone↔o∈one/\o∉two
 pre:∃p:Nat->Bool,gone=order.filter p
 len:one.length=both.length+gone.length
 ln:one.length<1000000000/\two.length<1000000000/\three.length<1000000000/\every.length<1000000000/\both.length<1000000000/\gone.length<1000000000/\order.length<1000000000/\live.length<1000000000
theorem ZkF{N:ZJ}{y:Ro}:Q1 o (X4 N [x,y])=(if o∈Z6 (Zm N x) then 1 else 0)+(if o∈Z6 (Zm N y) then 1 else 0):=by
 rw[Zho]
 by_cases h1:o∈Z6 (Zm N x)<;>by_cases h2:o∈Z6 (Zm N y)<;>simp[h1,h2]
theorem ZaG{N:ZJ}(hN:GoodN N)(h6:ZO0 N){y:Ro}(hx:RtOk N x)(hy:RtOk N y):o∈atL N 2 [x,y]↔o∈Z6 (Zm N x)/\o∈Z6 (Zm N y):=by
 rw[ZVt hN h6 (by simp;exact⟨hx,hy⟩),cntR_key,ZkF]
 by_cases h1:o∈Z6 (Zm N x)<;>by_cases h2:o∈Z6 (Zm N y)<;>simp[h1,h2]
theorem drp_mem{N:ZJ}{y:Ro}:o∈ZjC N x y↔o∈Z6 (Zm N x)/\o∉Z6 (Zm N y):=by
 unfold ZjC;rw[List.mem_filter,decide_eq_true_eq,ZkF]
 by_cases h1:o∈Z6 (Zm N x)<;>by_cases h2:o∈Z6 (Zm N y)<;>simp[h1,h2]
theorem Znp{r:AR}(ho:AROk r)(hg:GoodN r.nodes){y z:Ro}(hx:RtOk r.nodes x)(hy:RtOk r.nodes y)(hz:RtOk r.nodes z):
 RsOk (atL r.nodes 1 [x]) (atL r.nodes 1 [y]) (atL r.nodes 1 [z]) (atL r.nodes 1 [x,y,z]) (atL r.nodes 2 [x,y]) (ZjC r.nodes x y) (Z6 (Zm r.nodes x)) (Jy r)/\atL r.nodes 1 [z,x,y]=atL r.nodes 1 [x,y,z]/\ZGG r.nodes x y=atL r.nodes 2 [x,y]:=by
 have h6:=ho.h64
 have m1:∀w,RtOk r.nodes w->∀o,o∈atL r.nodes 1 [w]↔o∈Z6 (Zm r.nodes w):=fun w hw o=>by rw[ZO5 hg h6 (by simpa using hw)];simp
 have h3:∀w∈[x,y,z],RtOk r.nodes w:=by simp;exact⟨hx,hy,hz⟩
 have h3':∀w∈[z,x,y],RtOk r.nodes w:=by simp;exact⟨hz,hx,hy⟩
 have h2:∀w∈[x,y],RtOk r.nodes w:=by simp;exact⟨hx,hy⟩
 have hK:∀ {l:List Nat},l.Nodup->(∀o∈l,∃u,lk r.nodes o=some u)->l.length<=16384:=fun {l} hn hm=>ho.few hn hm
 have hlk:∀w,RtOk r.nodes w->∀o∈Z6 (Zm r.nodes w),∃u,lk r.nodes o=some u:=fun w hw o h=>ZCC hg hw o (onceV_mem.1 h)
 have hlive:∀w,RtOk r.nodes w->∀o∈Z6 (Zm r.nodes w),o∈Jy r:=fun w hw o h=>by
  obtain⟨u,hu⟩:=ZCC hg hw o (onceV_mem.1 h);exact ZKL ho hu
 have hdn:(ZjC r.nodes x y).Nodup:=(YF _).filter _
 refine⟨⟨?_,fun o=>?_,fun o=>?_,⟨_,rfl⟩,?_,?_⟩,?_,?_⟩
 ·rw[ZlQ ho hg h3]
  refine List.filter_congr fun o hm=>?_
  rw[decide_eq_decide,ZO5 hg h6 h3,m1 x hx,m1 y hy,m1 z hz];simp
 ·rw[ZaG hg h6 hx hy,m1 x hx,m1 y hy]
 ·rw[drp_mem,m1 x hx,m1 y hy]
 ·have p1:=(ZA2 (ZBY hg h6 (n:=1) (rs:=[x]) (by simpa using hx)) (YF (Zm r.nodes x)) (m1 x hx)).length_eq
  have p2:=(ZA2 (ZBY hg h6 (n:=2) h2) ((YF (Zm r.nodes x)).filter fun o=>decide (o∈Z6 (Zm r.nodes y))) fun o=>by rw[ZaG hg h6 hx hy,List.mem_filter,decide_eq_true_eq]).length_eq
  have p3:=(ZA2 hdn ((YF (Zm r.nodes x)).filter fun o=>decide (o∉Z6 (Zm r.nodes y))) fun o=>by rw[drp_mem,List.mem_filter,decide_eq_true_eq]).length_eq
  have p4:=ZlP (Z6 (Zm r.nodes x)) (Z6 (Zm r.nodes y));omega
 ·have q1:=hK (ZBY hg h6 (n:=1) (rs:=[x]) (by simpa using hx)) fun o h=>ZaE ho hg (by simpa using hx) h
  have q2:=hK (ZBY hg h6 (n:=1) (rs:=[y]) (by simpa using hy)) fun o h=>ZaE ho hg (by simpa using hy) h
  have q3:=hK (ZBY hg h6 (n:=1) (rs:=[z]) (by simpa using hz)) fun o h=>ZaE ho hg (by simpa using hz) h
  have q4:=hK (ZBY hg h6 (n:=1) h3) fun o h=>ZaE ho hg h3 h
  have q5:=hK (ZBY hg h6 (n:=2) h2) fun o h=>ZaE ho hg h2 h
  have q6:=hK hdn fun o h=>hlk x hx o (drp_mem.1 h).1
  have q7:=hK (YF (Zm r.nodes x)) (hlk x hx)
  have q8:(Jy r).length<=16384:=by
   have h4:=ZIw r.states 1 r.states.length;have h5:=ho.n16;unfold Jy ZAb;rw[List.length_map];omega
  omega
 ·refine ZD6 (ZA2 (ZBY hg h6 h3') (ZBY hg h6 h3) fun o=>?_) (ZVu ho hg h3') (ZVu ho hg h3)
  rw[ZO5 hg h6 h3',ZO5 hg h6 h3];simp only[List.mem_cons,List.not_mem_nil,or_false,exists_eq_or_imp,exists_eq_left]
  constructor
  ·rintro (a|a|a)<;>simp[a]
  ·rintro (a|a|a)<;>simp[a]
 ·have hsh:=Zhi hg h6 hx hy
  have hs1:(ZGG r.nodes x y).Pairwise fun a b=>a % 65536<=b % 65536:=ZSo _
  have hs2:(ZGG r.nodes x y).Pairwise fun a b=>a≠b:=hsh.nodup_iff.2 ((YF _).filter _)
  have hsm:∀o,o∈ZGG r.nodes x y↔o∈Z6 (Zm r.nodes x)/\o∈Z6 (Zm r.nodes y):=fun o=>by rw[hsh.mem_iff,List.mem_filter,decide_eq_true_eq]
  refine ZD6 (ZA2 hs2 (ZBY hg h6 h2) fun o=>by rw[hsm,ZaG hg h6 hx hy]) ?_ (ZVu ho hg h2)
  refine (hs1.and hs2).imp_of_mem fun {a b} ha hb h=>?_
  rcases Nat.lt_or_ge (a % 65536) (b % 65536) with q|q
  ·exact q
  ·exact absurd (ZkE (ZO4 ho) (hlive x hx a ((hsm a).1 ha).1) (hlive x hx b ((hsm b).1 hb).1) (by omega)) h.2
theorem Zhp{p:Nat->Bool}{h:Nat}(hi:l[i]?=some h)(hp:p h=true):(l.filter p)[((l.take i).filter p).length]?=some h:=by
 obtain⟨k,e⟩:=List.getElem?_eq_some_iff.1 hi
 have h1:l=l.take i++h::l.drop (i+1):=by
  conv=>lhs;rw[<- List.take_append_drop i l]
  rw[List.drop_eq_getElem_cons k,e]
 conv=>lhs;rw[h1]
 have h2:(l.take i++h::l.drop (i+1)).take i=l.take i:=by rw[<- h1]
 rw[List.filter_append,List.filter_cons,if_pos hp,List.getElem?_append_right (by rw[h2];exact Nat.le_refl _),h2,Nat.sub_self]
 rfl
theorem Zhq{p:Nat->Bool}{h:Nat}(hi:l[i]?=some h):((l.take (i+1)).filter p).length=((l.take i).filter p).length+if p h=true then 1 else 0:=by
 rw[ZZ hi,List.filter_append,lL]
 congr 1
 by_cases q:p h=true<;>simp[q]
theorem ZkG{p:Nat->Bool}:((l.take i).filter p).length<=(l.filter p).length:=by
 conv=>rhs;rw[<- List.take_append_drop i l]
 rw[List.filter_append,lL];omega
theorem Znq{p:Nat->Bool}{k b:Nat}(h:(l.filter p)[k]?=some b):p b=true:=(List.mem_filter.1 (jM h)).2
section
variable {one two three every both gone order live:List Nat}
theorem Znr{L:List Blk}(h:RsOk one two three every both gone order live){k:List Fr}{Q:YD}
 (hQ:Rk (S TY) k Q .norm [(19,.lit (one.map Zt)),(20,.lit (two.map Zt)),(21,.lit (three.map Zt)),(22,.lit (every.map Zt)),(24,.lit (both.map Zt)),(28,.lit (gone.map Zt)),(30,.lit (order.map Zt)),(32,.lit (live.map Zt)),(33,.int .i64 every.length),(34,.int .i64 live.length),(170,.bool false)] ⟨A,false,L⟩) :
 Ru (S TY) p_quartolaw22_ReachSets_32.loop (.blk 0::k) Q [(19,.lit (one.map Zt)),(20,.lit (two.map Zt)),(21,.lit (three.map Zt)),(22,.lit (every.map Zt)),(24,.lit (both.map Zt)),(28,.lit (gone.map Zt)),(30,.lit (order.map Zt)),(32,.lit (live.map Zt)),(33,.int .i64 0),(34,.int .i64 0)] ⟨A,false,L⟩:=by
 obtain⟨l1,l2,l3,l4,l5,l6,l7,l8⟩:=h.ln;have hev:=h.ev
 obtain⟨p,hp⟩:∃p:Nat->Bool,p=fun o=>decide (o∈one\/o∈two\/o∈three):=⟨_,rfl⟩
 rw[<- hp]at hev
 refine Zy (α:=Nat) (fun i=>[(19,.lit (one.map Zt)),(20,.lit (two.map Zt)),(21,.lit (three.map Zt)),(22,.lit (every.map Zt)),(24,.lit (both.map Zt)),(28,.lit (gone.map Zt)),(30,.lit (order.map Zt)),(32,.lit (live.map Zt)),(33,.int .i64 ((live.take i).filter p).length),(34,.int .i64 i)]) (fun i=>⟨A,false,L⟩) (fun i=>i<=live.length) (fun i=>live.length-i) 0 Y Y (Nat.zero_le _) ?_
 intro i hi
 rcases Nat.lt_or_ge i live.length with hlt|hge
 ·obtain⟨a,ha⟩:∃a,live[i]?=some a:=⟨live[i]'hlt,jE _⟩
  have q:0<=((i:Nat):Int)/\live[((i:Nat):Int).toNat]?=some a:=⟨by omega,by rw[show ((i:Nat):Int).toNat=i by omega];exact ha⟩
  have h1:=fun st=>ZSI (ZOy one (by omega) a st)
  have h2:=fun st=>ZSI (ZOy two (by omega) a st)
  have h3:=fun st=>ZSI (ZOy three (by omega) a st)
  have h4:=fun st=>ZSI (ZOy both (by omega) a st)
  have h5:=fun st=>ZSI (ZOy gone (by omega) a st)
  have e4:decide (a∈both)=(decide (a∈one) && decide (a∈two)):=by rw[<- Bool.decide_and,decide_eq_decide];exact h.bo a
  have e5:decide (a∈gone)=(decide (a∈one) && !decide (a∈two)):=by rw[<- decide_not,<- Bool.decide_and,decide_eq_decide];exact h.go a
  have epa:p a=(decide (a∈one) || decide (a∈two) || decide (a∈three)):=by rw[hp];simp[Bool.decide_or,Bool.or_assoc]
  rw[e4]at h4;rw[e5]at h5
  have hge2:=fun hq=>Zhp (p:=p) ha hq
  rw[<- hev]at hge2;have hs:=Zhq (p:=p) ha
  have hle:((live.take i).filter p).length<=every.length:=by rw[hev];exact ZkG
  clear hp hev h
  generalize ((live.take i).filter p).length=n at *
  generalize decide (a∈one)=c1 at *
  generalize decide (a∈two)=c2 at *
  generalize decide (a∈three)=c3 at *
  by_cases hpa:p a=true
  ·have hn:=hge2 hpa
   have hnl:=(List.getElem?_eq_some_iff.1 hn).1
   have qn:0<=((n:Nat):Int)/\every[((n:Nat):Int).toNat]?=some a:=⟨by omega,by rw[show ((n:Nat):Int).toNat=n by omega];exact hn⟩
   rw[if_pos hpa]at hs;rw[hpa]at epa;clear hge2
   cases c1<;>cases c2<;>cases c3
   all_goals repeat'(first|refine JX Y Y Y (h1 _) ?_|refine JX Y Y Y (h2 _) ?_|refine YH Y ?_|refine QX (f:=Zt) Y Y qn (fun _=>rfl) ?_|refine QX (f:=Zt) Y Y q (fun _=>rfl) ?_|refine ZE ?_|refine ZD ?_|refine ZG Y ?_|refine QK Y ?_|refine JZ Y Y ?_|refine Zr Y Y Y Y ?_|refine ZB Y ?_|refine ZC ?_|refine QA Y Y ?_|(refine cm0 Y Y Y ?_ ?_<;>intro _<;>try omega)|refine ZQ Y ?_|refine ZH Y ?_|refine Jo Y Y ?_|refine Zh Y Y (by omega) ?_|refine JN Y Y Y Y ?_|refine ZA Y Y Y (h3 _) ?_|refine ZA Y Y Y (h4 _) ?_|refine ZA Y Y Y (h5 _) ?_|refine ZI ?_|refine ZL ?_|refine Z0 ?_|refine Z8 ?_)
   all_goals try first|contradiction|omega
   all_goals exact⟨i+1,⟨by rw[hs];rfl,rfl⟩,by omega,by omega⟩
  ·rw[if_neg hpa]at hs
   have:p a=false:=by simpa using hpa
   rw[this]at epa;clear hge2
   cases c1<;>cases c2<;>cases c3
   all_goals try (exfalso;simp at epa;done)
   all_goals repeat'(first|refine JX Y Y Y (h1 _) ?_|refine JX Y Y Y (h2 _) ?_|refine YH Y ?_|refine QX (f:=Zt) Y Y q (fun _=>rfl) ?_|refine ZE ?_|refine ZD ?_|refine ZG Y ?_|refine QK Y ?_|refine JZ Y Y ?_|refine Zr Y Y Y Y ?_|refine ZB Y ?_|refine ZC ?_|refine QA Y Y ?_|(refine cm0 Y Y Y ?_ ?_<;>intro _<;>try omega)|refine ZQ Y ?_|refine ZH Y ?_|refine Zh Y Y (by omega) ?_|refine JN Y Y Y Y ?_|refine ZA Y Y Y (h3 _) ?_|refine ZA Y Y Y (h4 _) ?_|refine ZA Y Y Y (h5 _) ?_|refine ZI ?_|refine ZL ?_|refine Z0 ?_|refine Z8 ?_)
   all_goals try first|contradiction|omega
   all_goals exact⟨i+1,⟨by rw[hs];rfl,rfl⟩,by omega,by omega⟩
 ·obtain rfl:i=live.length:=by omega
  rw[List.take_length,<- hev]
  repeat'(first|refine YH Y ?_|refine ZE ?_|refine ZD ?_|refine ZG Y ?_|refine ZB Y ?_|refine ZC ?_|(refine cm0 Y Y Y ?_ ?_<;>intro _<;>try omega)|refine ZH Y ?_|refine Zq ?_|refine Zb ?_|refine Za Y ?_|refine Zn ?_)
  all_goals try omega
  all_goals exact hQ
theorem Zns{L:List Blk}(h:RsOk one two three every both gone order live){v33:AV}{k:List Fr}{Q:YD}
 (hQ:Rk (S TY) k Q .norm [(19,.lit (one.map Zt)),(22,.lit (every.map Zt)),(24,.lit (both.map Zt)),(28,.lit (gone.map Zt)),(30,.lit (order.map Zt)),(33,v33),(38,.int .i64 gone.length),(39,.int .i64 order.length),(243,.bool false)] ⟨A,false,L⟩) :
 Ru (S TY) p_quartolaw22_ReachSets_39.loop (.blk 2::k) Q [(19,.lit (one.map Zt)),(22,.lit (every.map Zt)),(24,.lit (both.map Zt)),(28,.lit (gone.map Zt)),(30,.lit (order.map Zt)),(33,v33),(38,.int .i64 0),(39,.int .i64 0)] ⟨A,false,L⟩:=by
 obtain⟨l1,l2,l3,l4,l5,l6,l7,l8⟩:=h.ln;obtain⟨p,hp⟩:=h.pre;clear h
 refine Zy (α:=Nat) (fun i=>[(19,.lit (one.map Zt)),(22,.lit (every.map Zt)),(24,.lit (both.map Zt)),(28,.lit (gone.map Zt)),(30,.lit (order.map Zt)),(33,v33),(38,.int .i64 ((order.take i).filter p).length),(39,.int .i64 i)]) (fun i=>⟨A,false,L⟩) (fun i=>i<=order.length) (fun i=>order.length-i) 0 Y Y (Nat.zero_le _) ?_
 intro i hi
 rcases Nat.lt_or_ge i order.length with hlt|hge
 ·obtain⟨a,ha⟩:∃a,order[i]?=some a:=⟨order[i]'hlt,jE _⟩
  have q:0<=((i:Nat):Int)/\order[((i:Nat):Int).toNat]?=some a:=⟨by omega,by rw[show ((i:Nat):Int).toNat=i by omega];exact ha⟩
  have hg2:=fun hq=>Zhp (p:=p) ha hq
  have hmem:=fun (k b:Nat) (hk:gone[k]?=some b)=>Znq (p:=p) (l:=order) (by rw[<- hp];exact hk)
  rw[<- hp]at hg2;have hs:=Zhq (p:=p) ha
  have hle:((order.take i).filter p).length<=gone.length:=by rw[hp];exact ZkG
  clear hp
  generalize ((order.take i).filter p).length=n at *
  by_cases hpa:p a=true
  ·have hn:=hg2 hpa
   have hnl:=(List.getElem?_eq_some_iff.1 hn).1
   have qn:0<=((n:Nat):Int)/\gone[((n:Nat):Int).toNat]?=some a:=⟨by omega,by rw[show ((n:Nat):Int).toNat=n by omega];exact hn⟩
   rw[if_pos hpa]at hs
   repeat'(first|refine YH Y ?_|refine QX (f:=Zt) Y Y qn (fun _=>rfl) ?_|refine QX (f:=Zt) Y Y q (fun _=>rfl) ?_|refine ZE ?_|refine ZD ?_|refine ZG Y ?_|refine QK Y ?_|refine Zr Y Y Y Y ?_|refine ZB Y ?_|refine ZC ?_|refine QA Y Y ?_|(refine cm0 Y Y Y ?_ ?_<;>intro _<;>try omega)|refine ZQ Y ?_|refine Zh Y Y (by omega) ?_|refine ZI ?_|refine ZL ?_|refine Z0 ?_|refine Z8 ?_)
   all_goals try first|contradiction|omega
   all_goals exact⟨i+1,⟨by rw[hs];rfl,rfl⟩,by omega,by omega⟩
  ·rw[if_neg hpa]at hs
   rcases Nat.lt_or_ge n gone.length with hnl|hnl
   ·obtain⟨b,hb⟩:∃b,gone[n]?=some b:=⟨gone[n]'hnl,jE _⟩
    have hpb:=hmem n b hb
    have hab:b≠a:=fun e=>by subst e;exact hpa hpb
    have qn:0<=((n:Nat):Int)/\gone[((n:Nat):Int).toNat]?=some b:=⟨by omega,by rw[show ((n:Nat):Int).toNat=n by omega];exact hb⟩
    repeat'(first|refine YH Y ?_|refine QX (f:=Zt) Y Y qn (fun _=>rfl) ?_|refine QX (f:=Zt) Y Y q (fun _=>rfl) ?_|refine ZE ?_|refine ZD ?_|refine ZG Y ?_|refine QK Y ?_|refine Zr Y Y Y Y ?_|refine ZB Y ?_|refine ZC ?_|refine QA Y Y ?_|(refine cm0 Y Y Y ?_ ?_<;>intro _<;>try omega)|refine ZQ Y ?_|refine ZH Y ?_|refine Zh Y Y (by omega) ?_|refine ZI ?_|refine ZL ?_|refine Z0 ?_|refine Z8 ?_)
    all_goals try first|contradiction|omega
    all_goals exact⟨i+1,⟨by rw[hs];rfl,rfl⟩,by omega,by omega⟩
   ·repeat'(first|refine YH Y ?_|refine ZE ?_|refine ZD ?_|refine ZG Y ?_|refine JZ Y Y ?_|refine Zr Y Y Y Y ?_|refine ZB Y ?_|refine ZC ?_|(refine cm0 Y Y Y ?_ ?_<;>intro _<;>try omega)|refine ZQ Y ?_|refine ZH Y ?_|refine Zh Y Y (by omega) ?_|refine ZI ?_|refine ZL ?_|refine Z0 ?_|refine Z8 ?_)
    all_goals try first|contradiction|omega
    all_goals exact⟨i+1,⟨by rw[hs];rfl,rfl⟩,by omega,by omega⟩
 ·obtain rfl:i=order.length:=by omega
  rw[List.take_length,<- hp]
  repeat'(first|refine YH Y ?_|refine ZE ?_|refine ZD ?_|refine ZG Y ?_|refine ZB Y ?_|refine ZC ?_|(refine cm0 Y Y Y ?_ ?_<;>intro _<;>try omega)|refine ZH Y ?_|refine Zq ?_|refine Zb ?_|refine Za Y ?_|refine Zn ?_)
  all_goals try omega
  all_goals exact hQ
end
theorem Zfg{lv:Nat}{N:ZJ}(h:Rd st lv ix N):Rd st.allRo lv ix N:=by
 obtain⟨a0,a1,im,a3,a4,a5,h1,h2⟩:=h;exact⟨a0,a1,im,a3,a4,a5,(Qa _ _ _).trans h1,(Qa _ _ _).trans h2⟩
theorem Zhr{texts:List B8}{ys:List Ed}(h:¬ ZD4 texts ys):(texts.flatten.length<=900/\texts.length<=4)/\ys.length<=12/\∀y∈ys,y.text.length<=200:=by
 have h1:¬ ZSn texts:=fun q=>h (.inl q)
 have h2:¬ ZZ3 ys:=fun q=>h (.inr (.inl q))
 have h3:¬ 12<ys.length:=fun q=>h (.inr (.inr q))
 obtain⟨a,b,c⟩:=Zqs h1 h2
 exact⟨a,by omega,c⟩
theorem Zhs(texts:List B8)(ys:List Ed)(r q p:Int)(hb:texts.length<9223372036854775808)(hbs:∀s∈texts,s.length<9223372036854775808)(hy:ys.length<9223372036854775808)(hys:∀y∈ys,y.text.length<9223372036854775808)(st:St):
 S TY QI [.lit (texts.map .str),.lit (ys.map Ed.av),.int .i64 r,.int .i64 q,.int .i64 p] st=some (.bool true,st):=by
 refine QN (leY QI (.pf QS) (leX QI (.pf QS) (leW QI (.pf QS) (leV QI (.pf QS) (le3 QI (.pf QS) Y))))) (fun A hA=>?_)
 have hBy:=fun st=>ZSI (Znf texts ys hb hbs hy hys st)
 have hWk:=fun st=>upY (ZlO st)
 by_cases hl:ZD4 texts ys
 ·simp only[decide_eq_true hl]at hBy
  repeat'(first|refine ZE ?_|refine ZD ?_|refine ZG Y ?_|refine ZB Y ?_|refine ZC ?_|refine ZQ Y ?_|refine ZA Y Y Y (hBy _) ?_|refine ZA Y Y Y (hWk _) ?_|refine ZP ?_|refine ZO ?_|refine Zd ?_)
  all_goals try first|contradiction|omega
  all_goals refine Zj hA (by simp) Y Y Y Y ?_
  all_goals rfl
 simp only[decide_eq_false hl]at hBy;obtain⟨h9,h12,hy2⟩:=Zhr hl;obtain⟨v,st',hMk,ar,c,ros,ss,G0,G1,n,rfl,rfl,hI⟩:=Zqt texts ys h9 h12 hy2 A;have hMk:=ZSI hMk;have hn20:=hI.n20;have hrs:=hI.len;have hsl:=hI.rts.1;have f6:(ltL A.length ar n ros G0 c ss G1)[6]?=_:=Zqr;have hHas:=ZZ4 (A:=A) (r:=ar) (v:=n) (ros:=ros) (G0:=G0) (w:=c) (ss:=ss) (G1:=G1);have hX6:6<(ltL A.length ar n ros G0 c ss G1).length:=(List.getElem?_eq_some_iff.1 f6).1;have o1:=hI.ok;have o2:=hI.good;rw[<- lN (ltL A.length ar n ros G0 c ss G1)]at hMk;obtain⟨X,hX⟩:∃X,X=ltL A.length ar n ros G0 c ss G1:=⟨_,rfl⟩;rw[<- hX]at hMk f6 hHas hX6;clear hX
 rcases Nat.eq_zero_or_pos n with hn0|hpos
 ·subst hn0
  repeat'(first|refine YO (L0:=X) Y Y Y Y Y ?_|refine ZDK (L0:=X) Y Y Y Y (Zcy _ (Nat.lt_succ_self _)) Y Y ?_|refine ZDK (L0:=X) Y Y Y Y Y Y Y ?_|refine Xb (L0:=X) Y Y Y Y ?_|refine ZE ?_|refine ZD ?_|refine ZG Y ?_|refine Zw Y Y ?_|refine ZB Y ?_|refine ZC ?_|refine Jp Y ?_|(refine cm0 Y Y Y ?_ ?_<;>intro _<;>try omega)|refine ZQ Y ?_|refine ZH Y ?_|refine Jo Y Y ?_|refine ZA Y Y Y (hBy _) ?_|refine ZA Y Y Y (hWk _) ?_|refine ZA Y Y Y (hMk) ?_|refine ZI ?_|refine ZP ?_|refine ZO ?_|refine Zd ?_)
  all_goals try first|contradiction|omega
  all_goals refine Zj hA (by simp) Y Y Y Y ?_
  all_goals rfl
 have hp1:=Qr (x:=r) (n:=(n:Int)-1) (by omega)
 have hPk1:=fun st=>ZSI (Zi8 r ((n:Int)-1) (by omega) (by omega) st)
 have hp2:=Qr (x:=q) (n:=(n:Int)-1) (by omega)
 have hPk2:=fun st=>ZSI (Zi8 q ((n:Int)-1) (by omega) (by omega) st)
 have hp3:=Qr (x:=p) (n:=(n:Int)-1) (by omega)
 have hPk3:=fun st=>ZSI (Zi8 p ((n:Int)-1) (by omega) (by omega) st)
 generalize JJ r ((n:Int)-1)=z1 at *
 generalize JJ q ((n:Int)-1)=z2 at *
 generalize JJ p ((n:Int)-1)=z3 at *
 obtain⟨x,hx⟩:∃x,ros[z1.toNat]?=some x:=⟨_,jE (by omega)⟩
 obtain⟨y,hy'⟩:∃x,ros[z2.toNat]?=some x:=⟨_,jE (by omega)⟩
 obtain⟨z,hz⟩:∃x,ros[z3.toNat]?=some x:=⟨_,jE (by omega)⟩
 obtain⟨t1,ht1⟩:∃x,ss[z1.toNat]?=some x:=⟨_,jE (by omega)⟩
 obtain⟨t2,ht2⟩:∃x,ss[z2.toNat]?=some x:=⟨_,jE (by omega)⟩
 obtain⟨t3,ht3⟩:∃x,ss[z3.toNat]?=some x:=⟨_,jE (by omega)⟩
 have rx:=(hI.rts.2 z1.toNat x t1 hx ht1).rt;have ry:=(hI.rts.2 z2.toNat y t2 hy' ht2).rt;have rz:=(hI.rts.2 z3.toNat z t3 hz ht3).rt
 have g1:(ros.map Ro.av)[0+z1.toNat]?=some x.av:=by rw[Nat.zero_add,jG,hx];rfl
 have g2:(ros.map Ro.av)[0+z2.toNat]?=some y.av:=by rw[Nat.zero_add,jG,hy'];rfl
 have g3:(ros.map Ro.av)[0+z3.toNat]?=some z.av:=by rw[Nat.zero_add,jG,hz];rfl
 have z6:∀T,(X++T)[6]?=some (.arr 5 n (ros.map Ro.av)):=fun T=>by rw[jL hX6];exact f6
 have hHZ:=hHas.app [.arr 1 0 [.ptr A.length 5 0 0 0],.arr 1 0 [.bool true],.arr 5 0 [x.av],.arr 5 0 [y.av],.arr 5 0 [z.av]];have hR:=hHZ.r.rd;have h6:=o1.h64;have hK:=o1.lv;obtain⟨hOk,ec,es⟩:=Znp o1 o2 rx ry rz
 have ga:St.get ⟨A,false,X++[.arr 1 0 [.ptr A.length 5 0 0 0],.arr 1 0 [.bool true],.arr 5 0 [x.av],.arr 5 0 [y.av],.arr 5 0 [z.av]]⟩ A.length (X.length+0)=some (.arr 1 0 [.ptr A.length 5 0 0 0]):=by rw[St.get_cur,Qj];rfl
 have go:St.get ⟨A,false,X++[.arr 1 0 [.ptr A.length 5 0 0 0],.arr 1 0 [.bool true],.arr 5 0 [x.av],.arr 5 0 [y.av],.arr 5 0 [z.av]]⟩ A.length (X.length+1)=some (.arr 1 0 [.bool true]):=by rw[St.get_cur,Qj];rfl
 have hS1:=ZaD (b:=0) ((Qa _ _ _).trans ga) ((Qa _ _ _).trans go) o2 h6 hK (Zfg hR) (rs:=[x]) (by simpa using rx) (by simp)
 have hS2:=ZaD (b:=0) ((Qa _ _ _).trans ga) ((Qa _ _ _).trans go) o2 h6 hK (Zfg hR) (rs:=[y]) (by simpa using ry) (by simp)
 have hS3:=ZaD (b:=0) ga go o2 h6 hK hR (rs:=[z]) (by simpa using rz) (by simp)
 have hS4:=ZaD (b:=0) ((Qa _ _ _).trans ga) ((Qa _ _ _).trans go) o2 h6 hK (Zfg hR) (rs:=[x,y,z]) (by simp;exact⟨rx,ry,rz⟩) (by simp)
 have hS5:=ZaD (b:=0) ga go o2 h6 hK hR (rs:=[z,x,y]) (by simp;exact⟨rz,rx,ry⟩) (by simp)
 have hS6:=upY (ZdS o2 h6 hK hR (rs:=[x,y]) (by simp;exact⟨rx,ry⟩) (by simp))
 have hS7:=upY (upX (Zni o2 h6 hR rx ry));have hS8:=upY (Zhm o2 hR rx ry);have hS9:=upY (Znj (ZOr o2 hR rx));have hS0:=ZSI (ZjA hHZ.r o1);rw[ec]at hS5;rw[es]at hS7;obtain⟨l1,l2,l3,l4,l5,l6,l7,l8⟩:=hOk.ln
 have hE1:=fun st=>ZSI (ZDM (atL ar.nodes 1 [x,y,z]) (by omega) st)
 have hE2:=fun st=>ZSI (ZDM (atL ar.nodes 2 [x,y]) (by omega) st)
 have hlen:=hOk.len
 have hlp1:=fun k Q hQ=>Znr (A:=A) (L:=X++[.arr 1 0 [.ptr A.length 5 0 0 0],.arr 1 0 [.bool true],.arr 5 0 [x.av],.arr 5 0 [y.av],.arr 5 0 [z.av]]) hOk (k:=k) (Q:=Q) hQ
 have hlp2:=fun v33 k Q hQ=>Zns (A:=A) (L:=X++[.arr 1 0 [.ptr A.length 5 0 0 0],.arr 1 0 [.bool true],.arr 5 0 [x.av],.arr 5 0 [y.av],.arr 5 0 [z.av]]) hOk (v33:=v33) (k:=k) (Q:=Q) hQ
 clear ec es hOk hI
 generalize atL ar.nodes 1 [x,y,z]=every at *
 generalize atL ar.nodes 2 [x,y]=both at *
 generalize atL ar.nodes 1 [x]=one at *
 generalize atL ar.nodes 1 [y]=two at *
 generalize atL ar.nodes 1 [z]=three at *
 generalize ZjC ar.nodes x y=gone at *
 generalize Z6 (Zm ar.nodes x)=order at *
 generalize Jy ar=live at *
 have iR:∀r:Ro,imm 6 r.av=true:=fun r=>by cases r;rfl
 have wR:∀r:Ro,r.av.wide=some 5:=fun r=>by cases r;rfl
 have fR:∀r:Ro,Yd r.av=some r.av:=fun r=>by cases r;rfl
 repeat'(first|refine hlp1 _ _ ?_|refine hlp2 _ _ _ ?_|refine YO (L0:=X) Y Y Y Y Y ?_|refine ZDK (L0:=X) Y Y Y Y (Zcy _ (Nat.lt_succ_self _)) Y Y ?_|refine ZDK (L0:=X) Y Y Y Y Y Y Y ?_|refine Xb (L0:=X) Y Y Y Y ?_|refine ZL9 Y Y (by omega) (z6 _) ?_|refine ZU Y (z6 _) g1 (ZOw _) ?_|refine ZU Y (z6 _) g2 (ZOw _) ?_|refine ZU Y (z6 _) g3 (ZOw _) ?_|refine JX Y Y Y hS1 ?_|refine JX Y Y Y hS2 ?_|refine JX Y Y Y hS4 ?_|refine ZA Y Y Y hS3 ?_|refine ZA Y Y Y hS5 ?_|refine ZfU Y (wR _) (iR _) ?_|refine Zpo Y Y Y (wR _) (wR _) (wR _) (iR _) (iR _) (iR _) ?_|refine YH Y ?_|refine ZE ?_|refine ZD ?_|refine ZG Y ?_|refine QK Y ?_|refine Zr Y Y Y Y ?_|refine Zw Y Y ?_|refine ZB Y ?_|refine ZC ?_|refine Jp Y ?_|(refine cm0 Y Y Y ?_ ?_<;>intro _<;>try omega)|refine ZH Y ?_|refine Jo Y Y ?_|refine Zh Y Y (by omega) ?_|refine Yc Y Y (by omega) ?_|refine XY Y Y ?_|refine QM Y Y Y Y ?_|refine ZA Y Y Y (hBy _) ?_|refine ZA Y Y Y (hWk _) ?_|refine ZA Y Y Y (hMk) ?_|refine ZA Y Y Y (hPk1 _) ?_|refine ZA Y Y Y (hPk2 _) ?_|refine ZA Y Y Y (hPk3 _) ?_|refine ZA Y Y Y (hS6) ?_|refine ZA Y Y Y (hS7) ?_|refine ZA Y Y Y (hS8) ?_|refine ZA Y Y Y (hS9) ?_|refine ZA Y Y Y (hS0) ?_|refine ZA Y Y Y (hE1 _) ?_|refine ZA Y Y Y (hE2 _) ?_|refine ZI ?_|refine ZP ?_|refine ZL ?_|refine ZO ?_)
 all_goals try first|contradiction|omega
 all_goals first|contradiction|omega|(refine Zj hA (by simp) Y Y Y Y ?_;rfl)
end Go.Q15
namespace Go.QAbs
open Go.ChangeShapes Go.WideShapes Go.RowKit Go.Deep
variable {f:FuncId}{n:Int}{A:List (Bool × List Blk)}{args:LV}{l:List Nat}{i ix o w:Nat}{st:St}
variable {P:Program}
def rho0:Rho:=⟨fun _ _=>⟨0,0,0⟩,fun _=>(0,[])⟩
theorem ZlR(lv ix:Nat):St.empty.get lv ix=none:=by
 unfold St.empty St.get
 split<;>simp[vis]
theorem Znt{W:World}{b:Nat}{v:Value}(h:W.cell? ⟨b,o,none⟩=some v):(cx .empty rho0 W 0).im b o v :=
 ⟨h,fun ⟨lv,ix,w,ver,es,hg,_⟩=>by rw[ZlR]at hg;simp at hg⟩
theorem walk_in(hm:P.follows .mixedOrders=true){T:Tab}(hT:TabOk P T)(h:∃st',S T f args .empty=some (.bool true,st')){W:World}{xs:List Value}(hg:KG P W (.of W))(hx:RL (cx .empty rho0 W 0) args xs):
 Calls P f xs.toArray W fun e W'=>e=.returned (.bool true)/\Below W.heap.size W W':=by
 obtain⟨st',h⟩:=h
 refine (ZjZ hm hT h hg (Zkg W) hx).mono fun e' W' ⟨x,_,he,g,hv⟩=>?_
 subst he
 exact⟨by rw[YJ hv],g.rel.below.b⟩
theorem ZkH{W:World}{b off len cap:Nat}(es:LV)(g:Nat->Value)(hlen:es.length=len)(hc:len<=cap)(he:∀(i:Nat) (e:AV),es[i]?=some e->R (cx .empty rho0 W 0).pure e (g i))
 (hg:∀i,i<len->(g i).cells.size=w/\∀(j:Nat) (v:Value),(g i).cells[j]?=some v->W.cell? ⟨b,off+i*w+j,none⟩=some v):R (cx .empty rho0 W 0) (.lit es) (.slice (some ⟨b,off,none⟩) len cap):=by
 subst hlen
 exact .lit (w:=w) g he (fun i hi=>⟨(hg i hi).1,fun j v hv=>Znt ((hg i hi).2 j v hv)⟩) hc
section
variable {H:Type}{enc:TypeId × Value->H}
theorem open_strs_arg{W:World}{base:Nat}{t e:TypeId}{v:Value}{d:DataW H}{ps:List MemPlace}(ht:P.underlying t=some (.slice e))(he:P.underlying e=some .string)(hc:P.cellsOf e=1)
 (hval:Value.okWide P W .any base t v) (h:DataW.Trod enc P W 0 (fun _=>true) true t v d ps) :
 ∃ss:List B8,(∀s∈ss,s.length<=maxLen)/\ss.length<=maxLen/\R (cx .empty rho0 W 0) (.lit (ss.map .str)) v:=by
 obtain⟨a0,len,cap,rfl⟩:=okWide_slice ht hval;obtain⟨fuel,hf⟩:=h
 rcases open_strings ht he hc hf with⟨hcs,hx⟩|⟨a,len',cap',ss,hcs,_,hl,hm,hz,hx,hcell,hsz⟩
 ·refine⟨[],by simp,by simp,?_⟩
  have:(Value.slice a0 len cap)=.slice none 0 0:=by simpa [Value.cells] using hcs
  rw[this];exact .lit0 _ _
 ·have hv:(Value.slice a0 len cap)=.slice (some a) len' cap':=by simpa [Value.cells] using hcs
  rw[hv];simp only[if_true]at hz
  refine⟨(ss.take len').map (fun s=>s.data.toList),?_,?_,?_⟩
  ·intro s hs
   obtain⟨s',hs',rfl⟩:=List.mem_map.1 hs;rw[Array.length_toList];exact hsz s' (List.mem_of_mem_take hs')
  ·rw[List.length_map,List.length_take];omega
  ·cases len' with
   | zero=>exact .lit0 _ _
   | succ n =>
    obtain⟨b,off,spot⟩:=a
    have hspot:spot=none:=by simpa [Addr.add] using World.cell?_spot (hcell 0 (by omega))
    subst hspot
    refine ZkH (w:=1) _ (fun i=>.string (ss.getD i ByteArray.empty)) (by simp;omega) hl (fun i e he=>?_) (fun i hi=>⟨rfl,fun j v hv=>?_⟩)
    ·rw[jG,jG,List.getElem?_take]at he
     by_cases hi:i<n+1
     ·rw[if_pos hi]at he
      have hs:ss[i]?=some (ss.getD i ByteArray.empty):=by
       have:i<ss.length:=by omega
       simp[List.getD,this]
      rw[hs]at he;simp only[Option.map_some,oJ]at he;subst he;rw[ZmK (ss.getD i ByteArray.empty)];exact .str _
     ·rw[if_neg hi]at he;simp at he
    ·have hj : j = 0 := by
      have:j<(Value.string (ss.getD i ByteArray.empty)).cells.size:=(Array.getElem?_eq_some_iff.1 hv).1
      simp[Value.cells]at this;omega
     subst hj
     have hv':Value.string (ss.getD i ByteArray.empty)=v:=by simpa [Value.cells] using hv
     rw[<- hv']
     have:=hcell i (by omega)
     simpa [Addr.add_lit] using this
theorem open_ops_arg{W:World}{base:Nat}{t e t0 t1 t2 t3 t4:TypeId}{f0 f1 f2 f3 f4:Field}{v:Value}{d:DataW H}{ps:List MemPlace}(ht:P.underlying t=some (.slice e))(he:P.underlying e=some (.struct #[f0,f1,f2,f3,f4]))(hc:P.cellsOf e=5)
 (hf0:f0.type=t0/\f0.offset=0/\P.underlying t0=some (.int .u8)/\P.cellsOf t0=1) (hf1:f1.type=t1/\f1.offset=1/\P.underlying t1=some (.int .i64)/\P.cellsOf t1=1) (hf2:f2.type=t2/\f2.offset=2/\P.underlying t2=some (.int .i64)/\P.cellsOf t2=1)
 (hf3:f3.type=t3/\f3.offset=3/\P.underlying t3=some (.int .i64)/\P.cellsOf t3=1) (hf4:f4.type=t4/\f4.offset=4/\P.underlying t4=some .string/\P.cellsOf t4=1) (hval:Value.okWide P W .any base t v) (h:DataW.Trod enc P W 0 (fun _=>true) true t v d ps) :
 ∃l:List (Nat × Int × Int × Int × B8),(∀s∈l,s.2.2.2.2.length<=maxLen)/\l.length<=maxLen/\R (cx .empty rho0 W 0) (.lit (l.map fun q=>.agg [.int .u8 q.1,.int .i64 q.2.1,.int .i64 q.2.2.1,.int .i64 q.2.2.2.1,.str q.2.2.2.2])) v:=by
 obtain⟨a0,len,cap,rfl⟩:=okWide_slice ht hval;obtain⟨fuel,hf⟩:=h
 rcases open_slice ht hf with⟨hcs,hx⟩|⟨a,len',cap',m,n,D,Pl,hcs,_,hl,hm,hmm,hx,hall⟩
 ·refine⟨[],by simp,by simp,?_⟩
  have:(Value.slice a0 len cap)=.slice none 0 0:=by simpa [Value.cells] using hcs
  rw[this];exact .lit0 _ _
 ·have hv:(Value.slice a0 len cap)=.slice (some a) len' cap':=by simpa [Value.cells] using hcs
  rw[hv];simp only[if_true]at hmm;subst hmm;rw[hc]at hall
  have each:∀i,i<len'->∃q:Nat × Int × Int × Int × B8,q.2.2.2.2.length<=maxLen/\W.cell? (a.add (i*5))=some (.int .u8 q.1)/\W.cell? (a.add (i*5+1))=some (.int .i64 q.2.1)/\W.cell? (a.add (i*5+2))=some (.int .i64 q.2.2.1)/\W.cell? (a.add (i*5+3))=some (.int .i64 q.2.2.2.1)/\W.cell? (a.add (i*5+4))=some (.string ⟨q.2.2.2.2.toArray⟩):=by
   intro i hi
   obtain⟨cs',h1,h2⟩:=hall i (by omega)
   obtain⟨_,hlen,hcell⟩:=World.cells?_some h1;obtain⟨xs,k,_,_,_,hxl,hfs⟩:=DataW.trod_struct he h2;have g0:=hfs 0 f0 rfl;have g1:=hfs 1 f1 rfl;have g2:=hfs 2 f2 rfl;have g3:=hfs 3 f3 rfl;have g4:=hfs 4 f4 rfl
   match cs',hlen,xs,hxl with
   | [c0,c1,c2,c3,c4],_,[y0,y1,y2,y3,y4],_ =>
    simp only[hf0.1,hf0.2.1,hf0.2.2.2,hf1.1,hf1.2.1,hf1.2.2.2,hf2.1,hf2.2.1,hf2.2.2.2,hf3.1,hf3.2.1,hf3.2.2.2,hf4.1,hf4.2.1,hf4.2.2.2,List.drop,List.take,List.getElem?_cons_zero,List.getElem?_cons_succ]at g0 g1 g2 g3 g4;obtain⟨n0,e0,_,w0⟩:=DataW.trod_int hf0.2.2.1 g0;obtain⟨n1,e1,_,_⟩:=DataW.trod_int hf1.2.2.1 g1;obtain⟨n2,e2,_,_⟩:=DataW.trod_int hf2.2.2.1 g2;obtain⟨n3,e3,_,_⟩:=DataW.trod_int hf3.2.2.1 g3;obtain⟨s,e4,_,hs⟩:=DataW.trod_string hf4.2.2.1 g4;simp only[List.cons.injEq,and_true]at e0 e1 e2 e3 e4;subst e0;subst e1;subst e2;subst e3;subst e4
    have hn0:0<=n0:=by
     simp only[Lit.wf,Bool.and_eq_true,decide_eq_true_eq]at w0;exact w0.1
    refine⟨(n0.toNat,n1,n2,n3,s.data.toList),by simp only[Array.length_toList];exact hs,?_,?_,?_,?_,?_⟩
    ·have:=hcell 0 (by omega)
     simp only[add_add,Nat.add_zero,List.getElem?_cons_zero]at this;rw[this];simp only[Int.toNat_of_nonneg hn0]
    ·have:=hcell 1 (by omega)
     simpa only [add_add,List.getElem?_cons_succ,List.getElem?_cons_zero] using this
    ·have:=hcell 2 (by omega)
     simpa only [add_add,List.getElem?_cons_succ,List.getElem?_cons_zero] using this
    ·have:=hcell 3 (by omega)
     simpa only [add_add,List.getElem?_cons_succ,List.getElem?_cons_zero] using this
    ·have:=hcell 4 (by omega)
     simp only[add_add,List.getElem?_cons_succ,List.getElem?_cons_zero]at this;rw[this,ZmK s]
  obtain⟨q,hq⟩:=choose_lt each
  refine⟨(List.range len').map q,?_,by simp;omega,?_⟩
  ·intro s hs
   obtain⟨i,hi,rfl⟩:=List.mem_map.1 hs;exact (hq i (List.mem_range.1 hi)).1
  ·cases len' with
   | zero=>exact .lit0 _ _
   | succ len' =>
    obtain⟨b,off,spot⟩:=a
    have hspot:spot=none:=by simpa [Addr.add] using World.cell?_spot (hq 0 (by omega)).2.1
    subst hspot
    refine ZkH (w:=5) _ (fun i=>.agg #[.int .u8 (q i).1,.int .i64 (q i).2.1,.int .i64 (q i).2.2.1,.int .i64 (q i).2.2.2.1,.string ⟨(q i).2.2.2.2.toArray⟩]) (by simp) hl (fun i e he=>?_) (fun i hi=>⟨by simp[Value.cells],fun j v hv=>?_⟩)
    ·rw[jG,jG]at he
     by_cases hi:i<len'+1
     ·rw[List.getElem?_range hi]at he
      simp only[Option.map_some,oJ]at he;subst he;have hr:=RL.cons (C:=(cx .empty rho0 W 0).pure) (.int .u8 ((q i).1:Int)) (.cons (.int .i64 (q i).2.1) (.cons (.int .i64 (q i).2.2.1) (.cons (.int .i64 (q i).2.2.2.1) (.cons (.str (q i).2.2.2.2) (.nil _)))));exact .agg (xs:=[_,_,_,_,_]) hr.1 hr.2
     ·have:(List.range (len'+1))[i]?=none:=by simp;omega
      rw[this]at he;simp at he
    ·obtain⟨_,k0,k1,k2,k3,k4⟩:=hq i hi
     have hj:j<5:=by
      have:=(Array.getElem?_eq_some_iff.1 hv).1
      simpa [Value.cells] using this
     simp only[Addr.add_lit]at k0 k1 k2 k3 k4
     match j,hj with
     | 0,_ =>
      have:v=.int .u8 (q i).1:=by simpa [Value.cells] using hv.symm
      subst this;simpa using k0
     | 1,_ =>
      have:v=.int .i64 (q i).2.1:=by simpa [Value.cells] using hv.symm
      subst this;simpa [Nat.add_assoc] using k1
     | 2,_ =>
      have:v=.int .i64 (q i).2.2.1:=by simpa [Value.cells] using hv.symm
      subst this;simpa [Nat.add_assoc] using k2
     | 3,_ =>
      have:v=.int .i64 (q i).2.2.2.1:=by simpa [Value.cells] using hv.symm
      subst this;simpa [Nat.add_assoc] using k3
     | 4,_ =>
      have:v=.string ⟨(q i).2.2.2.2.toArray⟩:=by simpa [Value.cells] using hv.symm
      subst this;simpa [Nat.add_assoc] using k4
end
end Go.QAbs
namespace Go.Q15
open Go Go.QAbs
variable {f:FuncId}{n:Int}{A:List (Bool × List Blk)}{args:LV}{l:List Nat}{i ix o w:Nat}{x:Ro}{st:St}
open Go.Shelf in
def Znu:Ren:=⟨fun|41=>109|n=>n,fun|22=>156|23=>166|n=>n,fun n=>n⟩
theorem Znv:Go.Proofs.SlLaysE0.n41 Proofs.Tryz.prog Znu:={
 mixed:=by kernel_rfl
 f41 := ⟨"slices.Clone[[]quarto/api.Kid,quarto/api.Kid]", by decide, Proofs.Tryz.func109.trans (congrArg some (by kernel_rfl))⟩
 t4:=Proofs.Tryz.underlying4
 a4:=Proofs.Tryz.isAgg4
 z4:=Proofs.Tryz.sizeOf4
 v4:=Proofs.Tryz.zeroValue4
 t22:=Proofs.Tryz.underlying156
 a22:=Proofs.Tryz.isAgg156
 z22:=Proofs.Tryz.sizeOf156
 v22:=Proofs.Tryz.zeroValue156 }
theorem Znw:∃i z,Proofs.Tryz.prog.info? 166=some i/\i.zero=some z/\i.size=4/\i.bytes=32/\z.cells.size=4:=⟨_,_,rfl,rfl,rfl,rfl,rfl⟩
theorem ZjF:ZHf Proofs.Tryz.prog Z9 (.base (ZKT 4)):=by
 obtain⟨i,z,h1,h2,h3,h4,h5⟩:=Znw
 refine ZmO (T:=166) (fun n c W=>Go.Proofs.AnyE.slices_Clone_nil Znv n c W) fun ad n c news W hl hn hc ho=>?_
 exact Zkj Znv i z 4 32 h1 h2 h3 h4 h5 (by decide) Proofs.Tryz.sizeOf166 ad n c news W hl (by unfold maxLen;omega) (by omega) hc ho
theorem ZLl:Proofs.Tryz.prog.follows .mixedOrders=true:=by kernel_rfl
theorem Znx:ZGK Proofs.Tryz.prog tl:=⟨⟨Proofs.Tryz.call109,ZjF⟩,Zoz⟩
theorem Zrh:TabOk Proofs.Tryz.prog Tb:=ZHg Znx
theorem Zny:ZGK Proofs.Tryz.prog t1:=⟨⟨Proofs.Tryz.call46,ZmN ZLl Zrh Proofs.Tryz.func46 Zd7⟩,Znx⟩
theorem Zp8:TabOk Proofs.Tryz.prog T1:=ZHg Zny
theorem Znz:ZGK Proofs.Tryz.prog t3:=⟨⟨Proofs.Tryz.call58,ZmN ZLl Zp8 Proofs.Tryz.func58 Zam⟩,⟨Proofs.Tryz.call14,ZmN ZLl Zp8 Proofs.Tryz.func14 Zd3⟩,Zny⟩
theorem Zn0:TabOk Proofs.Tryz.prog T3:=ZHg Znz
theorem Zq7:ZGK Proofs.Tryz.prog tv:=⟨⟨Proofs.Tryz.call13,Zpa Zn0 ZLl Proofs.Tryz.func13⟩,Znz⟩
theorem Zq8:ZGK Proofs.Tryz.prog tw:=⟨⟨Proofs.Tryz.call12,Zqm Zn0 ZLl Proofs.Tryz.func12⟩,Zq7⟩
theorem Zn1:ZGK Proofs.Tryz.prog tx:=⟨⟨Proofs.Tryz.call50,Zq2 Zn0 ZLl Proofs.Tryz.func50⟩,Zq8⟩
theorem Zpt:ZGK Proofs.Tryz.prog ty0:=⟨⟨Proofs.Tryz.call18,_,_,_,Proofs.Tryz.func18,ZDb⟩,Zn1⟩
theorem Zq9:TabOk Proofs.Tryz.prog TY0:=ZHg Zpt
theorem ZrA:ZGK Proofs.Tryz.prog ty:=⟨⟨Proofs.Tryz.call18,Zq4 ZLl Zq9⟩,Zn1⟩
theorem TY_ok:TabOk Proofs.Tryz.prog TY:=ZHg ZrA
def mkEd(q:Nat × Int × Int × Int × B8):Ed:=⟨q.1,q.2.1,q.2.2.1,q.2.2.2.1,q.2.2.2.2⟩
theorem reachSets_run(ss:List B8)(l:List (Nat × Int × Int × Int × B8))(r q p:Int)(h1:∀s∈ss,s.length<=maxLen)(h2:ss.length<=maxLen)(h3:∀s∈l,s.2.2.2.2.length<=maxLen)(h4:l.length<=maxLen)
 (_h5:(Lit.int .i64 r).wf=true) (_h6:(Lit.int .i64 q).wf=true) (_h7:(Lit.int .i64 p).wf=true) :
 ∃st',S TY QI [.lit (ss.map .str),.lit (l.map fun q=>.agg [.int .u8 q.1,.int .i64 q.2.1,.int .i64 q.2.2.1,.int .i64 q.2.2.2.1,.str q.2.2.2.2]),.int .i64 r,.int .i64 q,.int .i64 p] .empty=some (.bool true,st'):=by
 have hm:maxLen<9223372036854775808:=by decide +kernel
 have:=Zhs ss (l.map mkEd) r q p (by omega) (fun s hs=>by have:=h1 s hs;omega) (by rw[List.length_map];omega) (fun s hs=>by obtain⟨q,hq,rfl⟩:=List.mem_map.1 hs;have:=h3 q hq;simp only[mkEd];omega) .empty
 rw[List.map_map]at this;exact⟨_,this⟩
end Go.Q15
