/- A part of the proof. No condition. -/
import Derived.Test.YtcdebbidfgmieaaGreatReT6
set_option linter.unusedVariables false
set_option linter.unusedSimpArgs false
set_option maxHeartbeats 8000000
set_option maxRecDepth 100000
namespace Go.Q15
open Go Go.QAbs
variable {td v v' vx z:AV}{agg ro:Bool}{e:Env}{f:FuncId}{Q:JD}{A:List (Bool × List Blk)}{cls es ys:LV}{L':List Blk}{d g ib ip ix jb jx n ob pl px vb ver w:Nat}{a x:Opd}{O:Orc}{st:St}{t:Tr}
section
variable {O:Orc}{k:List Fr}{Q:JD}{e:Env}{A:List (Bool × List Blk)}{L:List Blk}{keep:List Nat}{is:List PI}{d:Nat}
theorem Fz{b:Opd}{i o:Nat}{x:AV}(ha:ZL e a=some (.ptr A.length ix ver i o))(hb:ZL e b=some (.ptr A.length jx vb ib ob))(hne:Nat.beq ix jx=false)
 (hg:L[ix]?=some (Blk.arr w ver es)) (hx:es[i]?=some x) (hv:Qs x agg o n=some v) (h:Is O is keep k Q ((d,v)::e) ⟨A,false,L⟩):Is O (⟨some d,none,false,.w (.hide [b]) (.ld agg n a)⟩::is) keep k Q e ⟨A,false,L⟩:=by
 refine DO ?_ h;have hp:XO (Xh e [b]) A.length ix=false:=by
  have hxy:ix≠jx:=fun q=>by subst q;simp at hne
  simp[XO,Xh,ZB hb,AU,hxy]
 have hgt:(St.hide (XO (Xh e [b])) ⟨A,false,L⟩).get A.length ix=some (Blk.arr w ver es):=by
  rw[Bx,hp,St.get_cur,hg];rfl
 simp only[Zt,PO.reads,if_true,evalPO,ZB ha,loadP,hgt,Ax,hx,hv,oS,QL,QF]
theorem F0{i o:Nat}{y:AV}(hg:L[ix]?=some (Blk.arr w ver es))(ha:ZL e a=some (.ptr A.length ix ver i o))(hx:ZL e x=some v)(hy:es[i]?=some y)(him:imm 6 v=true)
 (hs:ZI Zs (A.length+1) ⟨A,false,L⟩ v=some (v,⟨A,false,L⟩)) (hv:(Q7 w y o n v).bind Yi=some v') (h:Is O is keep k Q e ⟨A,false,L.set ix (Blk.arr w ver (es.set i v'))⟩):Is O (⟨none,none,false,.w (.plain a) (.st n a x)⟩::is) keep k Q e ⟨A,false,L⟩:=by
 have hlt:ix<L.length:=by
  rw[List.getElem?_eq_some_iff]at hg;exact hg.1
 have hv':Q7 w y o n v=some v':=by
  simp only[oB]at hv;obtain⟨u,h1,h2⟩:=hv;rw[h1,EO h2]
 refine Zm (od:=none) (v:=.undef) (st':=⟨A,false,L.set ix (Blk.arr w ver (es.set i v'))⟩) ?_ h;have hsb:E8 (.ptr A.length ix ver i o) (.ptr A.length ix ver i o)=true:=by simp[E8]
 simp only[ZW,Zt,Dp,ZB ha,ZB hx,hsb,him,and_self,if_true];simp only[evalPO,ZB ha,ZB hx,A_,hs,oS,Bv,St.get_cur,hg,vis,Am,if_true,hy,hv',St.put,if_false,jB,if_pos hlt,AF]
end
theorem DS{L:List Blk}{x:Ex}{b b2 c ix2 ver2 w2:Nat}{t2:Tr}{k:IntKind}{n:Int}{u:AV}(hA:A=st.A++[(st.ro,st.L)])(hx:x=.norm\/x=.ret)(ht:JZ e b=some (.ptr A.length ix ver 0 0))(hg:L[ix]?=some (.arr w ver [t.av]))
 (ht2:JZ e b2=some (.ptr A.length ix2 ver2 0 0)) (hg2:L[ix2]?=some (.arr w2 ver2 [t2.av])) (hc:JZ e c=some (.int k n)) (hu:.tup [t.av,t2.av,.int k n]=u):QT false [.c b true 7,.c b2 true 7,.s c] (x,e,⟨A,false,L⟩)=some (u,st):=by
 subst hu;refine Bi (v:=.tup [t.av,t2.av,.int k n]) (ro:=false) (L':=L) hA hx ?_ ?_ Y
 ·simp only[QE,AM,H2 ht hg,H2 ht2 hg2,oS]
  simp only[AH,Z0 hc,oS,Option.map_some,BE]
 ·show (mapSt (ZI 5 A.length) _ _).bind Br=_
  rw[mapSt,H1 3,oS,mapSt,H1 3];rfl
theorem Tq{N:ZC}(hN:GoodN N):∀(n:Nat) {st:St} {lv ix:Nat} (hr:Rd st lv ix N) {t:Tr} (ht:VE N t) (hn:t.h=n) (a:Int) (h0:0<=a) (h1:a<=t.bytes) (hb:t.bytes<=65536),
 S Tb EU [.ptr lv ix 0 0 0,t.av,.int .i64 a] st=some (.tup [(cutF N n t a).1.av,(cutF N n t a).2.av,.int .i64 0],st):=by
 intro n;induction n with
 | zero =>
  intro st lv ix hr t ht hn a h0 h1 hb;refine Zv Y (fun A hA=>?_);have hrp:=fun L=>hr.push hA (ro:=false) (L:=L)
  have hB:=fun st=>B7 t ht.pos.1 (by omega) st
  rw[cutF];by_cases ha:a=0
  ·rw[if_pos ha]
   repeat'(first|refine ruS Y ?_|refine isS Y ?_|refine rkS Y ?_|refine cm0 Y Y Y ?_ ?_|(intro _;try omega)|refine Zf Y Y Y ?_|refine ZX Y Y Y ?_|refine Zg Y Y Y (Z9 _ _ _) (Qg _ _) Y ?_|refine Zi Y (Zn _) (Z1 _) ?_|refine Fz Y Y Y Y Y (Zb _) ?_|refine F0 Y Y Y Y Y Y Y ?_)
   all_goals try omega
   exact DS (t:=.zero) hA (.inr Y) Y Y Y Y Y Y
  ·rw[if_neg ha]
   by_cases ha2:a=t.bytes
   ·rw[if_pos ha2]
    repeat'(first|refine ruS Y ?_|refine isS Y ?_|refine rkS Y ?_|refine cm0 Y Y Y ?_ ?_|(intro _;try omega)|refine Zf Y Y Y ?_|refine ZX Y Y Y ?_|refine Zg Y Y Y Y Y Y ?_|refine ZE Y Y Y (Zb _) ?_|refine Zg Y Y Y (Z9 _ _ _) (Qg _ _) Y ?_|refine Zi Y (Zn _) (Z1 _) ?_|refine zA0 Y Y (hB _) ?_)
    all_goals try omega
    exact DS (t2:=.zero) hA (.inr Y) Y Y Y Y Y Y
   ·rw[if_neg ha2]
    have hv:=ht.val (by omega);have hl:=hv.line hn;have hL:=fun L=>H5 (hrp L) hv
    have hC:=fun st=>Zvj (QN N t) a st
    rw[<- Tg hl.2 (by omega)]at hC;generalize QN N t=s at *;repeat'(first|refine ruS Y ?_|refine isS Y ?_|refine rkS Y ?_|refine cm0 Y Y Y ?_ ?_|(intro _;try omega)|refine Zf Y Y Y ?_|refine ZX Y Y Y ?_|refine Zg Y Y Y Y Y Y ?_|refine ZE Y Y Y (Zb _) ?_|refine Zi Y (Zn _) (Z1 _) ?_|refine ZE Y Y Y (Xe _) ?_|refine zA0 Y Y (hB _) ?_|refine zA0 Y Y (hL _) ?_|refine zA0 Y Y (hC _) ?_)
    all_goals try omega
    exact DS (t:=Jj (s.take a.toNat)) (t2:=Jj (s.drop a.toNat)) hA (.inr Y) Y Y Y Y Y Y
 | succ n ih =>
  intro st lv ix hr t ht hn a h0 h1 hb;refine Zv Y (fun A hA=>?_);have hrp:=fun L=>hr.push hA (ro:=false) (L:=L)
  have hB:=fun st=>B7 t ht.pos.1 (by omega) st
  rw[cutF];by_cases ha:a=0
  ·rw[if_pos ha]
   repeat'(first|refine ruS Y ?_|refine isS Y ?_|refine rkS Y ?_|refine cm0 Y Y Y ?_ ?_|(intro _;try omega)|refine Zf Y Y Y ?_|refine ZX Y Y Y ?_|refine Zg Y Y Y (Z9 _ _ _) (Qg _ _) Y ?_|refine Zi Y (Zn _) (Z1 _) ?_|refine Fz Y Y Y Y Y (Zb _) ?_|refine F0 Y Y Y Y Y Y Y ?_)
   all_goals try omega
   exact DS (t:=.zero) hA (.inr Y) Y Y Y Y Y Y
  ·rw[if_neg ha]
   by_cases ha2:a=t.bytes
   ·rw[if_pos ha2]
    repeat'(first|refine ruS Y ?_|refine isS Y ?_|refine rkS Y ?_|refine cm0 Y Y Y ?_ ?_|(intro _;try omega)|refine Zf Y Y Y ?_|refine ZX Y Y Y ?_|refine Zg Y Y Y Y Y Y ?_|refine ZE Y Y Y (Zb _) ?_|refine Zg Y Y Y (Z9 _ _ _) (Qg _ _) Y ?_|refine Zi Y (Zn _) (Z1 _) ?_|refine zA0 Y Y (hB _) ?_)
    all_goals try omega
    exact DS (t2:=.zero) hA (.inr Y) Y Y Y Y Y Y
   ·rw[if_neg ha2]
    have vt:=ht.val (by omega);have h16:=vt.h16;obtain⟨c1,c2,c3,c4⟩:=Q4 hN vt (by omega);have hC:=fun L=>Ec (hrp L) vt (by omega)
    generalize childs N t=l at *;have hl:∀u∈l,Val N u/\u.h=n/\Big u:=fun u hu=>⟨(c1 u hu).1,by have:=(c1 u hu).2.1;omega,(c1 u hu).2.2⟩
    have hpos:∀u∈l,0<=u.bytes:=fun u hu=>by have:=(hl u hu).1.pos.2;omega
    obtain⟨s1,s2,s3,s4⟩:=H9 l a (by omega) hpos h0 (by omega)
    have key:∀k Q p6 p7 L,
     (Rk (S Tb) k Q (.ex 0) [(0,.ptr lv ix 0 0 0),(2,.int .i64 (Qh l a).2),(6,.ptr A.length p6 0 0 0),(7,.ptr A.length p7 0 0 0),(13,.lit (l.map Tr.av)),(14,.int .i64 (Qh l a).1),(77,.bool false)] ⟨A,false,L⟩) ->
     Ru (S Tb) (.loop Sr) k Q [(0,.ptr lv ix 0 0 0),(2,.int .i64 a),(6,.ptr A.length p6 0 0 0),(7,.ptr A.length p7 0 0 0),(13,.lit (l.map Tr.av)),(14,.int .i64 0)] ⟨A,false,L⟩:=by
     intro k Q p6 p7 L hex
     refine Ze (α:=Nat × Int) (fun p=>[(0,.ptr lv ix 0 0 0),(2,.int .i64 p.2),(6,.ptr A.length p6 0 0 0),(7,.ptr A.length p7 0 0 0),(13,.lit (l.map Tr.av)),(14,.int .i64 p.1)]) (fun p=>⟨A,false,L⟩)
      (fun p=>p.1<l.length/\0<=p.2/\p.2<=a/\(Qh l a).1=p.1+(Qh (l.drop p.1) p.2).1/\(Qh l a).2=(Qh (l.drop p.1) p.2).2) (fun p=>l.length-p.1) (0,a) rfl rfl ⟨by simp only;omega,h0,Int.le_refl _,by simp,by simp⟩ ?_
     rintro⟨i,b⟩ ⟨i1,i2,i3,i4,i5⟩;simp only at i1 i2 i3 i4 i5 ⊢;have hu:l[i]?=some l[i]:=by simp[i1]
     generalize l[i]=u at hu;have hum:=jM hu;have hub:=hpos u hum;have hu16:u.bytes<=65536:=by
      have e:=hu;have e2:Tr.bytesL l=Tr.bytesL (l.take i)+(u.bytes+Tr.bytesL (l.drop (i+1))):=by
       conv=>lhs;rw[<- List.take_append_drop (i+1) l,ZF hu,Tr.bytesL_append,Tr.bytesL_append]
       simp[Tr.bytesL];omega
      have:=Tr.bytesL_nonneg (l:=l.take i) (fun w hw=>hpos w (List.mem_of_mem_take hw));have:=Tr.bytesL_nonneg (l:=l.drop (i+1)) (fun w hw=>hpos w (List.mem_of_mem_drop hw));omega
     have hBu:∀w,l[((i:Nat):Int).toNat]?=some w->∀st,S Tb Qj [w.av] st=some (.int .i64 u.bytes,st):=by
      intro w hw st;have hw2:l[i]?=some w:=hw;rw[hu]at hw2;have:=Option.some.inj hw2;subst this;exact B7 u (hl u hum).1.pos.1 (by omega) st
     have hd:l.drop i=u::l.drop (i+1):=by
      rw[List.drop_eq_getElem_cons i1]
      congr 1
      rw[jE i1]at hu;exact Option.some.inj hu
     repeat'(first|refine ruS Y ?_|refine isS Y ?_|refine rkS Y ?_|refine Z5 Y ?_|refine cm0 Y Y Y ?_ ?_|(intro _;try omega)|refine ZV Y Y (by omega) ?_|refine YH Y Y (by omega) ?_|refine Jy Y Y (by omega) Zn (fun _ _=>?_)|refine Zx Y (Zb _) ?_|refine zA0 Y Y (hBu _ (by assumption) _) ?_)
     all_goals try omega
     ·rename_i g1 g2 g3 g4 g5 g6
      have hne:l.drop (i+1)≠[]:=by
       intro q;have:=congrArg List.length q;rw[List.length_drop]at this;simp at this;omega
      have hsk:Qh (l.drop i) b=((Qh (l.drop (i+1)) (b-u.bytes)).1+1,(Qh (l.drop (i+1)) (b-u.bytes)).2):=by
       rw[hd];cases hq:l.drop (i+1) with
       | nil=>exact absurd hq hne
       | cons v r=>rw[Qh,if_pos (by omega)]
      refine⟨(i+1,b-u.bytes),⟨rfl,rfl⟩,⟨by simp only;omega,by simp only;omega,by simp only;omega,?_,?_⟩,by simp only;omega⟩
      ·simp only[i4,hsk];omega
      ·simp only[i5,hsk]
     ·have hsk : Qh (l.drop i) b = (0, b) := by
       rw[hd];cases hq:l.drop (i+1) with
       | nil=>rfl
       | cons v r=>rw[Qh,if_neg (by omega)]
      rw[i4,i5,hsk]at hex;exact hex
     ·have hq:l.drop (i+1)=[]:=List.drop_of_length_le (by omega)
      have hsk:Qh (l.drop i) b=(0,b):=by rw[hd,hq];rfl
      rw[i4,i5,hsk]at hex;exact hex
    repeat'(first|refine ruS Y ?_|refine isS Y ?_|refine ZO ?_|refine cm0 Y Y Y ?_ ?_|(intro _;try omega)|refine ZX Y Y Y ?_|refine ZE Y Y Y (Zb _) ?_|refine Zi Y (Zn _) (Z1 _) ?_|refine ZE Y Y Y (Xe _) ?_|refine zA0 Y Y (hB _) ?_|refine zA0 Y Y (hC _) ?_)
    all_goals try omega
    refine key _ _ _ _ _ ?_;generalize hk:(Qh l a).1=k at *;generalize hb2:(Qh l a).2=b at *;have hlm:(l.map Tr.av).length=l.length:=by simp
    have hh1:∀u∈l.take k,u.h<=65536:=fun u hu=>by have:=(hl u (List.mem_of_mem_take hu)).2.1;omega
    have hh2:∀u∈l.drop k,u.h<=65536:=fun u hu=>by have:=(hl u (List.mem_of_mem_drop hu)).2.1;omega
    have hh3:∀u∈l.drop (k+1),u.h<=65536:=fun u hu=>by have:=(hl u (List.mem_of_mem_drop hu)).2.1;omega
    have hG1:∀st,S Tb QC [.lit ((l.map Tr.av).take ((k:Nat):Int).toNat)] st=some ((grp (l.take k)).av,st):=fun st=>BK (by rw[List.length_take];omega) hh1 (by rw[Int.toNat_natCast,<- List.map_take];exact .lit _)
    have hG2:∀st,S Tb QC [.lit ((l.map Tr.av).drop ((k:Nat):Int).toNat)] st=some ((grp (l.drop k)).av,st):=fun st=>BK (by rw[List.length_drop];omega) hh2 (by rw[Int.toNat_natCast,<- List.map_drop];exact .lit _)
    have hG3:∀st,S Tb QC [.lit ((l.map Tr.av).drop (((k:Nat):Int)+1).toNat)] st=some ((grp (l.drop (k+1))).av,st):=fun st=>BK (by rw[List.length_drop];omega) hh3 (by rw[show (((k:Nat):Int)+1).toNat=k+1 by omega,<- List.map_drop];exact .lit _)
    by_cases hz:b=0
    ·rw[if_pos hz]
     generalize grp (l.take k)=g1 at *;generalize grp (l.drop k)=g2 at *;repeat'(first|refine ruS Y ?_|refine isS Y ?_|refine rkS Y ?_|refine cm0 Y Y Y ?_ ?_|(intro _;try omega)|refine Zg Y Y Y (Z9 _ _ _) (Qg _ _) Y ?_|refine HN Y Y (by omega) (Yu _) ?_|refine Kz Y Y (by omega) (Yu _) ?_|refine XV Y Y Y (hG1 _) ?_|refine zA0 Y Y (hG2 _) ?_)
     all_goals try omega
     exact DS hA (.inr Y) Y Y Y Y Y Y
    ·rw[if_neg hz]
     obtain⟨u,hu⟩:∃u,l[k]?=some u:=⟨l[k],by simp[s1]⟩
     rw[hu];simp only[Option.getD_some];obtain⟨u1,u2,u3⟩:=hl u (jM hu);have hub:=s4 u hu;have hsum:Tr.bytesL l=Tr.bytesL (l.take k)+(u.bytes+Tr.bytesL (l.drop (k+1))):=by
      conv=>lhs;rw[<- List.take_append_drop (k+1) l,ZF hu,Tr.bytesL_append,Tr.bytesL_append]
      simp[Tr.bytesL];omega
     have p1:=Tr.bytesL_nonneg (l:=l.take k) (fun w hw=>hpos w (List.mem_of_mem_take hw));have p2:=Tr.bytesL_nonneg (l:=l.drop (k+1)) (fun w hw=>hpos w (List.mem_of_mem_drop hw));have hc:=Ci hN n u b (.inr u1) u2 s2 (by omega) (by omega);have hcut:∀w,l[((k:Nat):Int).toNat]?=some w->∀L,S Tb EU [.ptr lv ix 0 0 0,w.av,.int .i64 b] ⟨A,false,L⟩=some (.tup [(cutF N n u b).1.av,(cutF N n u b).2.av,.int .i64 0],⟨A,false,L⟩):=by
      intro w hw L;have hw2:l[k]?=some w:=hw;rw[hu]at hw2;have:=Option.some.inj hw2;subst this;exact ih (hrp L) (.inr u1) u2 b s2 (by omega) (by omega)
     have a1:=(B_ (N:=N) (l:=l.take k) (by rw[List.length_take];omega) (show n+1<=16 by omega) (fun u hu=>hl u (List.mem_of_mem_take hu))).1;have d1:=(B_ (N:=N) (l:=l.drop (k+1)) (by rw[List.length_drop];omega) (show n+1<=16 by omega) (fun u hu=>hl u (List.mem_of_mem_drop hu))).1;have hcl:=hc.l;have hcr:=hc.r;have hK1:=fun L=>H_ hN (hrp L) a1 hcl
     have hK2:=fun L=>H_ hN (hrp L) hcr d1
     generalize cutF N n u b=r at *;obtain⟨r1,r2⟩:=r;simp only at *;generalize grp (l.take k)=g1 at *;generalize grp (l.drop (k+1))=g3 at *;generalize concM N g1 r1=z1 at *;generalize concM N r2 g3=z2 at *;repeat'(first|refine ruS Y ?_|refine isS Y ?_|refine rkS Y ?_|refine cm0 Y Y Y ?_ ?_|(intro _;try omega)|refine ZV Y Y (by omega) ?_|refine ZX Y Y Y ?_|refine Jy Y Y (by omega) Zn (fun _ _=>?_)|refine Zx Y (Zb _) ?_|refine ZE Y Y Y (Zb _) ?_|refine Zg Y Y Y (Z9 _ _ _) (Qg _ _) Y ?_|refine HN Y Y (by omega) (Yu _) ?_|refine Kz Y Y (by omega) (Yu _) ?_|refine XV Y Y Y (hG1 _) ?_|refine XV Y Y Y (hG3 _) ?_|refine zA0 Y Y (hcut _ (by assumption) _) ?_|refine zA0 Y Y (hK1 _) ?_|refine zA0 Y Y (hK2 _) ?_|refine Fz Y Y Y Y Y (Zb _) ?_|refine F0 Y Y Y Y (Nn 4 _) (Z9 _ _ _) (Qg _ _) ?_)
     all_goals try omega
     exact DS hA (.inr Y) Y Y Y Y Y Y
theorem Ns{lv:Nat}{N:ZC}(hr:Rd st lv ix N)(ht:VE N t)(hb:t.bytes<=65536):S Tb J6 [.ptr lv ix 0 0 0,t.av] st=some (.int .i64 0,st):=by
 rcases ht with h|h
 ·exact TT h
 ·exact Nj hr h hb
structure Out(st:St)(lv jb jx:Nat)(ver:Nat)(s:B8):Prop where
 wr:st.wr lv
 box:st.get lv jb=some (.arr 1 0 [.ref lv jx ver 0 s.length])
 blk:st.get lv jx=some (.arr 1 ver (Z4 s))
 ne:jx≠jb
def Qw(st:St)(lv jb jx ver:Nat)(s:B8):St:=(st.upd lv jx (.arr 1 ver (Z4 s))).upd lv jb (.arr 1 0 [.ref lv jx ver 0 s.length])
theorem Ts(s:B8):Qy 1 (Z4 s)=true:=by
 induction s with
 | nil=>rfl
 | cons b s ih=>rw[Z4,jC,Qy,List.all_cons];exact Bool.and_eq_true_iff.2 ⟨rfl,ih⟩
theorem Tt(b:Nat)(st:St)(s:B8):mapSt (ZI Zs b) st (Z4 s)=some (Z4 s,st):=by
 induction s with
 | nil=>rfl
 | cons x s ih =>
  show mapSt (ZI Zs b) st (AV.int .u8 x.toNat::Z4 s)=_
  rw[mapSt];show ((some (AV.int .u8 x.toNat,st)).bind fun r=>(mapSt (ZI Zs b) r.2 (Z4 s)).bind (Y3 r.1))=_
  rw[oS,ih];rfl
theorem Tu(s t:B8):Z4 (s++t)=Z4 s++Z4 t:=by simp[Z4]
theorem Ye(s:B8):(Z4 s).length=s.length:=by simp[Z4]
theorem Ei{v:Nat}:vis (some (Blk.arr w v es))=some (Blk.arr w v es):=rfl
theorem Out.put{lv:Nat}{s:B8}(h:Out st lv jb jx ver s)(ver':Nat)(t:B8):Out (Qw st lv jb jx ver' t) lv jb jx ver' t:=by
 have g1:∀l' i',(st.upd lv jx (.arr 1 ver' (Z4 t))).get l' i'=if l'=lv/\i'=jx then some (.arr 1 ver' (Z4 t)) else st.get l' i':=fun l' i'=>St.get_upd h.blk Ei
 have b1:(st.upd lv jx (.arr 1 ver' (Z4 t))).get lv jb=some (.arr 1 0 [.ref lv jx ver 0 s.length]):=by rw[g1,if_neg (fun q=>h.ne q.2.symm)];exact h.box
 have g2:∀l' i',(Qw st lv jb jx ver' t).get l' i'=if l'=lv/\i'=jb then some (.arr 1 0 [.ref lv jx ver' 0 t.length]) else (st.upd lv jx (.arr 1 ver' (Z4 t))).get l' i':=fun l' i'=>St.get_upd b1 Ei
 refine⟨St.wr_upd (St.wr_upd h.wr h.wr) (St.wr_upd h.wr h.wr),by rw[g2,if_pos ⟨rfl,rfl⟩],?_,h.ne⟩;rw[g2,if_neg (fun q=>h.ne q.2),g1,if_pos ⟨rfl,rfl⟩]
theorem IA{lv:Nat}{s:B8}(h:Out st lv jb jx ver s)(ver':Nat)(t:B8){l' i':Nat}(hn:¬ (l'=lv/\(i'=jx\/i'=jb))):(Qw st lv jb jx ver' t).get l' i'=st.get l' i':=by
 have b1:(st.upd lv jx (.arr 1 ver' (Z4 t))).get lv jb=some (.arr 1 0 [.ref lv jx ver 0 s.length]):=by
  rw[St.get_upd h.blk Ei,if_neg (fun q=>h.ne q.2.symm)];exact h.box
 rw[Qw,St.get_upd b1 Ei,if_neg (fun q=>hn ⟨q.1,.inr q.2⟩),St.get_upd h.blk Ei,if_neg (fun q=>hn ⟨q.1,.inl q.2⟩)]
theorem Cj{lv:Nat}{b c:Blk}:(st.upd lv ix b).upd lv ix c=st.upd lv ix c:=by
 unfold St.upd;by_cases h:lv=st.A.length
 ·simp only[if_pos h,List.set_set]
 ·simp only[if_neg h,List.length_set]
  rcases Nat.lt_or_ge lv st.A.length with q|q
  ·simp only[List.set_set,List.getElem?_set,if_true,if_pos q,Option.getD_some,Bk]
  ·simp only[List.set_eq_of_length_le q]
theorem F1{lv:Nat}{b c:Blk}(h:ix≠jx):(st.upd lv ix b).upd lv jx c=(st.upd lv jx c).upd lv ix b:=by
 unfold St.upd;by_cases hl:lv=st.A.length
 ·simp only[if_pos hl]
  rw[List.set_comm _ _ h]
 ·simp only[if_neg hl,List.length_set]
  rcases Nat.lt_or_ge lv st.A.length with q|q
  ·simp only[List.set_set,List.getElem?_set,if_true,if_pos q,Option.getD_some,Bk]
   rw[List.set_comm _ _ h]
  ·simp only[List.set_eq_of_length_le q]
theorem ZlG{lv v1 v2:Nat}{s t:B8}(h:jx≠jb):Qw (Qw st lv jb jx v1 s) lv jb jx v2 t=Qw st lv jb jx v2 t:=by
 unfold Qw;rw[F1 (st:=st.upd lv jx _) (fun q=>h q.symm),Cj,Cj]
theorem ZjV{L:List Blk}(hA:A=st.A++[(st.ro,st.L)]){lv:Nat}{s:B8}(hl:lv<=st.A.length):
 Qw ⟨A,ro,L⟩ lv jb jx ver s=⟨(Qw st lv jb jx ver s).A++[((Qw st lv jb jx ver s).ro,(Qw st lv jb jx ver s).L)],ro,L⟩:=by
 unfold Qw;rw[JE hA hl];exact JE Y (by rw[St.upd_A];exact hl)
section
variable {O:Orc}{k:List Fr}{Q:JD}{e:Env}{A:List (Bool × List Blk)}{L:List Blk}{keep:List Nat}{is:List PI}{d:Nat}
theorem Zne{s:Opd}{lv:Nat}{t u:B8}(hA:A=st.A++[(st.ro,st.L)])(ho:Out st lv jb jx ver t)(hs:ZL e s=some (.ref lv jx ver 0 t.length))(hx:ZL e x=some (.str u))(hl:t.length+u.length<4294967296)
 (h:∀A',A'=(st.upd lv jx (.arr 1 (ver+1) (Z4 (t++u)))).A++[((st.upd lv jx (.arr 1 (ver+1) (Z4 (t++u)))).ro,(st.upd lv jx (.arr 1 (ver+1) (Z4 (t++u)))).L)]->Is O is keep k Q ((d,.ref lv jx (ver+1) 0 (t.length+u.length))::e) ⟨A',false,L⟩) :
 Is O (⟨some d,none,false,.app 1 1 s x⟩::is) keep k Q e ⟨A,false,L⟩:=by
 have hlv:=St.get_le ho.blk;refine Zm (v:=.ref lv jx (ver+1) 0 (t.length+u.length)) (st':=St.upd ⟨A,false,L⟩ lv jx (.arr 1 (ver+1) (Z4 (t++u)))) ?_ ?_
 ·have hg:=ZD hA (ro:=false) (L:=L) ho.blk
  have hw:=Yj hA hlv ho.wr (ro:=false) (L:=L);simp only[ZW,evalPO,ZB hs,ZB hx,elems,oS,Q8,Ye,Ts,if_true,Tt,BX,hg,Ag,true_and,if_pos (show 0+t.length<=t.length/\t.length+u.length<4294967296/\1<=4096 by omega),List.drop_zero];rw[List.take_of_length_le (by rw[Ye];omega),<- Tu,St.put_upd hw hg];rfl
 ·rw[JE hA hlv]
  exact h _ Y
end
theorem Rd.out{lv:Nat}{s:B8}{N:ZC}(hr:Rd st pl px N)(ho:Out st lv jb jx ver s)(hne:pl≠lv)(v:Nat)(t:B8):Rd (Qw st lv jb jx v t) pl px N:=by
 obtain⟨a0,a1,im,a3,a4,a5,h1,h2⟩:=hr;exact⟨a0,a1,im,a3,a4,a5,by rw[IA ho _ _ (fun q=>hne q.1)];exact h1,by rw[IA ho _ _ (fun q=>hne q.1)];exact h2⟩
structure WalkAt(st:St)(lv ab ob xb wb pl px:Nat)(N:ZC):Prop where
 rd:Rd st pl px N
 lt:pl≠lv
 a:st.get lv ab=some (.arr 1 0 [.ptr pl px 0 0 0])
 w:st.get lv wb=some (.arr 1 0 [.func (.func Yw) [] [.ptr lv ab 0 0 0,.ptr lv ob 0 0 0,.ptr lv wb 0 0 0]])
 na:ab≠xb/\ab≠ob
 nw:wb≠xb/\wb≠ob
theorem WalkAt.put{lv ab xb wb:Nat}{N:ZC}{s:B8}(h:WalkAt st lv ab ob xb wb pl px N)(ho:Out st lv ob xb ver s)(v:Nat)(t:B8):WalkAt (Qw st lv ob xb v t) lv ab ob xb wb pl px N :=
 ⟨h.rd.out ho h.lt v t,h.lt,by rw[IA ho _ _ (fun q=>by rcases q.2 with w|w;exact h.na.1 w;exact h.na.2 w)];exact h.a,by rw[IA ho _ _ (fun q=>by rcases q.2 with w|w;exact h.nw.1 w;exact h.nw.2 w)];exact h.w,h.na,h.nw⟩
theorem Tv{o:Option Blk}{b:Blk}(h:vis o=some b):o=some b:=by
 cases o with
 | none=>simp[vis]at h
 | some c=>cases c<;>simp[vis]at h<;>exact congrArg some h
theorem Nt{α:Type}{l:List α}{i:Nat}{b:α}(h:l[i]?=some b):l.set i b=l:=by
 obtain⟨h1,h2⟩:=List.getElem?_eq_some_iff.1 h;subst h2;exact List.set_getElem_self h1
theorem upd_same{lv:Nat}{b:Blk}(h:st.get lv ix=some b):st.upd lv ix b=st:=by
 unfold St.upd;by_cases q:lv=st.A.length
 ·rw[if_pos q]
  rw[St.get,if_pos q]at h;have h2:=Tv h;rw[Nt h2]
 ·rw[if_neg q]
  rw[St.get,if_neg q]at h;cases hr:st.A[lv]? with
  | none=>rw[hr]at h;simp at h
  | some r =>
   rw[hr]at h;have h2:=Tv h;have e1:r.2.set ix b=r.2:=Nt h2;simp only[Option.getD_some,Bk,e1];rw[show (r.1,r.2)=r from rfl];rw[Nt hr]
theorem Out.same{lv:Nat}{s:B8}(h:Out st lv jb jx ver s):Qw st lv jb jx ver s=st:=by
 rw[Qw,upd_same h.blk,upd_same h.box]
theorem Out.push{L:List Blk}(hA:A=st.A++[(st.ro,st.L)]){lv:Nat}{s:B8}(h:Out st lv jb jx ver s):Out ⟨A,ro,L⟩ lv jb jx ver s :=
 ⟨Yj hA (St.get_le h.blk) h.wr,ZD hA h.box,ZD hA h.blk,h.ne⟩
theorem WalkAt.push{L:List Blk}(hA:A=st.A++[(st.ro,st.L)]){lv ab xb wb:Nat}{N:ZC}(h:WalkAt st lv ab ob xb wb pl px N):WalkAt ⟨A,ro,L⟩ lv ab ob xb wb pl px N :=
 ⟨h.rd.push hA,h.lt,ZD hA h.a,ZD hA h.w,h.na,h.nw⟩
theorem wk4(t:Tr)(a b c:AV)(ha:weak a=a)(hb:weak b=b)(hc:weak c=c):ZG (ZS ([]++[t.av]++[a,b,c]))=some [t.av,a,b,c]:=by
 simp only[lE,lC,ZS,ZH,ha,hb,hc,ZG]
theorem ZuT{N:ZC}(hN:GoodN N):∀(n:Nat) (t:Tr),Val N t->t.h=n->t.bytes<=65536->∀ {st:St} {lv ab ob xb wb pl px ver:Nat} {s:B8},WalkAt st lv ab ob xb wb pl px N->Out st lv ob xb ver s->s.length+t.bytes<4294967296 ->
 Sp Tb Yw [t.av,.ptr lv ab 0 0 0,.ptr lv ob 0 0 0,.ptr lv wb 0 0 0] st fun v st'=>v=.int .i64 0/\∃ver',st'=Qw st lv ob xb ver' (s++t.txt N):=by
 intro n;induction n with
 | zero =>
  intro t hv hh hb st lv ab ob xb wb pl px ver s hw ho hl;refine K5 Y ?_;obtain⟨A,hA⟩:∃A,A=st.A++[(st.ro,st.L)]:=⟨_,rfl⟩;rw[<- hA];have hL:=fun L=>H5 (hw.rd.push hA (ro:=false) (L:=L)) hv
  have hln:=hv.line hh;have htx:=Fy hv hh;rw[htx];have hg1:=fun L=>ZD hA (ro:=false) (L:=L) hw.a
  have hg2:=fun L=>ZD hA (ro:=false) (L:=L) ho.box
  generalize QN N t=u at *;repeat'(first|refine ruS Y ?_|refine isS Y ?_|refine ZO ?_|refine cm0 Y Y Y ?_ ?_|(intro _;try omega)|refine QU Y Y (Zb _) ?_|refine Zi Y (Zn _) (Z1 _) ?_|refine ZE Y Y Y (Xe _) ?_|refine Zk Y (hg1 _) Y Y ?_|refine zA0 Y Y (hL _) ?_|refine Zk Y (hg2 _) Y Y ?_)
  all_goals try omega
  refine Zne hA ho Y Y (by omega) (fun A' hA'=>?_);have hgo:(st.upd lv xb (.arr 1 (ver+1) (Z4 (s++u)))).get lv ob=some (.arr 1 0 [.ref lv xb ver 0 s.length]):=by
   rw[St.get_upd ho.blk Ei,if_neg (fun q=>ho.ne q.2.symm)];exact ho.box
  refine Cb hA' Y Y (St.wr_upd ho.wr ho.wr) hgo Y (Q2 _ (Nat.lt_succ_self _)) Y (fun A2 hA2=>?_);repeat'(first|refine ruS Y ?_|refine isS Y ?_|refine rkS Y ?_)
  refine⟨_,_,ZQ hA2 (.inr Y) Y Y Y Y Y,rfl,ver+1,?_⟩;unfold Qw;rw[lL];rfl
 | succ n ih =>
  intro t hv hh hb st lv ab ob xb wb pl px ver s hw ho hl;refine K5 Y ?_;obtain⟨A,hA⟩:∃A,A=st.A++[(st.ro,st.L)]:=⟨_,rfl⟩;rw[<- hA];obtain⟨c1,c2,c3,c4⟩:=Q4 hN hv (by omega);have hC:=fun L=>Ec (hw.rd.push hA (ro:=false) (L:=L)) hv (by omega)
  have htx:=Ef hN hv (by omega);have hg1:=fun L=>ZD hA (ro:=false) (L:=L) hw.a
  rw[htx];rw[<- c4]at hl hb;generalize childs N t=l at *;have hpos:∀u∈l,1<=u.bytes:=fun u hu=>(c1 u hu).1.pos.2
  repeat'(first|refine ruS Y ?_|refine isS Y ?_|refine ZO ?_|refine Z5 Y ?_|refine cm0 Y Y Y ?_ ?_|(intro _;try omega)|refine QU Y Y (Zb _) ?_|refine Zi Y (Zn _) (Z1 _) ?_|refine ZE Y Y Y (Xe _) ?_|refine Zk Y (hg1 _) Y Y ?_|refine zA0 Y Y (hC _) ?_)
  all_goals try omega
  have hst:st=Qw st lv ob xb ver s:=ho.same.symm
  refine Ze (α:=Nat × List Blk × Nat) (fun p=>[(3,.ptr lv wb 0 0 0),(35,.lit (l.map Tr.av)),(36,.int .i64 l.length),(37,.int .i64 p.1)])
   (fun p=>⟨(Qw st lv ob xb p.2.2 (s++Tr.txtL N (l.take p.1))).A++[((Qw st lv ob xb p.2.2 (s++Tr.txtL N (l.take p.1))).ro,(Qw st lv ob xb p.2.2 (s++Tr.txtL N (l.take p.1))).L)],false,p.2.1⟩)
   (fun p=>p.1<=l.length) (fun p=>l.length-p.1) (0,[Blk.arr 7 0 [t.av]],ver) rfl ?_ (by simp) ?_
  ·simp only[List.take_zero,Tr.txtL,lN,<- hst,<- hA]
   rfl
  rintro⟨i,G,ver⟩ hi;simp only at hi ⊢;have hw2:=hw.put ho ver (s++Tr.txtL N (l.take i));have ho2:=ho.put ver (s++Tr.txtL N (l.take i));have hpp:∀v2 t2,Qw (Qw st lv ob xb ver (s++Tr.txtL N (l.take i))) lv ob xb v2 t2=Qw st lv ob xb v2 t2:=fun v2 t2=>ZlG ho.ne
  generalize hs1:Qw st lv ob xb ver (s++Tr.txtL N (l.take i))=st1 at *;obtain⟨A1,hA1⟩:∃A1,A1=st1.A++[(st1.ro,st1.L)]:=⟨_,rfl⟩;rw[<- hA1];have hgw:=fun L=>ZD hA1 (ro:=false) (L:=L) hw2.w
  repeat'(first|refine ruS Y ?_|refine isS Y ?_|refine rkS Y ?_|refine cm0 Y Y Y ?_ ?_|(intro _;try omega)|refine Zi Y Y Y ?_|refine Jy Y Y (by omega) Zn (fun _ _=>?_)|refine Zx Y (Zb _) ?_|refine Jr Y Y Y (Z9 _ _ _) (Qg _ _) Y ?_)
  ·rename_i u hu
   have hu2:l[i]?=some u:=hu;have hum:=jM hu2;have hsum:Tr.bytesL l=Tr.bytesL (l.take i)+(u.bytes+Tr.bytesL (l.drop (i+1))):=by
    conv=>lhs;rw[<- List.take_append_drop (i+1) l,ZF hu2,Tr.bytesL_append,Tr.bytesL_append]
    simp[Tr.bytesL];omega
   have p1:=Nr hN (l:=l.take i) (fun w hw=>(c1 w (List.mem_of_mem_take hw)).1);have p2:=Tr.bytesL_nonneg (l:=l.drop (i+1)) (fun w hw=>by have:=hpos w (List.mem_of_mem_drop hw);omega);have p3:=Tr.bytesL_nonneg (l:=l.take i) (fun w hw=>by have:=hpos w (List.mem_of_mem_take hw);omega);have hle:lv<=st1.A.length:=St.get_le ho2.blk;have htx2:s++Tr.txtL N (l.take (i+1))=s++Tr.txtL N (l.take i)++u.txt N:=by
    rw[ZF hu2,Tr.txtL_append,List.append_assoc];simp[Tr.txtL]
   have ihu:=fun L=>ih u (c1 u hum).1 (by have:=(c1 u hum).2.1;omega) (by omega) (hw2.push hA1 (ro:=false) (L:=L)) (ho2.push hA1 (ro:=false) (L:=L)) (by rw[lL];omega)
   refine Zk Y (hgw _) Y Y ?_;repeat'(refine QU Y Y (Zb _) ?_)
   refine HP Y Y (wk4 _ _ _ _ Y Y Y) (ihu _) ?_;rintro v st' ⟨rfl,v2,rfl⟩;rw[ZjV hA1 hle,hpp,<- htx2];repeat'(first|refine ruS Y ?_|refine isS Y ?_|refine rkS Y ?_|refine cm0 Y Y Y ?_ ?_|(intro _;try omega)|refine ZV Y Y (by omega) ?_)
   exact⟨(i+1,_,v2),⟨rfl,rfl⟩,by simp only;omega,by simp only;omega⟩
  ·have hi':i=l.length:=by omega
   subst hi';rw[List.take_length]at *;refine⟨_,_,ZQ hA1 (.inr Y) Y Y Y Y Y,rfl,ver,?_⟩;exact hs1.symm
structure AR where
 blk:List Int
 n:Nat
 ver:Nat
 states:List Int
 gens:List Int
 most:Int
 nodes:ZC
 slots:Int
 allocs:Int
 frees:Int
 stale:Int
namespace AR
def b0(r:AR):Blk:=.arr 1 0 (r.states.map (.int .u8))
def b1(r:AR):Blk:=.arr 1 r.ver (r.blk.map (.int .i64))
def b2(r:AR):Blk:=.arr 1 0 (r.gens.map (.int .u64))
def b3(r:AR)(lv b:Nat):Blk:=.arr 4 0 [.agg [.ref lv (b+1) r.ver 0 r.n,.ref lv b 0 0 r.states.length,.ref lv (b+2) 0 0 r.gens.length,.int .u64 r.most]]
def b4(r:AR):Blk:=.map (r.nodes.map nodeAV)
def b5(r:AR)(lv b:Nat):Blk:=.arr 6 0 [.agg [.int .i64 r.slots,.ptr lv (b+3) 0 0 0,.map lv (b+4),.int .i64 r.allocs,.int .i64 r.frees,.int .i64 r.stale]]
end AR
structure Has(st:St)(lv b:Nat)(r:AR):Prop where
 wr:st.wr lv
 h0:st.get lv b=some r.b0
 h1:st.get lv (b+1)=some r.b1
 h2:st.get lv (b+2)=some r.b2
 h3:st.get lv (b+3)=some (r.b3 lv b)
 h4:st.get lv (b+4)=some r.b4
 h5:st.get lv (b+5)=some (r.b5 lv b)
theorem AS{T:Tab}{body:PC}{res:List RV}{args:LV}{st2:St}(hT:T f=some (.pf ⟨false,body,res⟩))
 (h:∀A,A=st.A++[(st.ro,st.L)]->Ru (S T) body [] (fun x e st'=>QT false res (x,e,st')=some (v,st2)) (QB 0 args) ⟨A,false,[]⟩):S T f args st=some (v,st2):=by
 obtain⟨⟨x,e',st',h1,h2⟩⟩:=h _ rfl;refine FF hT ?_;simp only[Jp,jB,if_false,St.push,h1,oS];exact h2
def AR.take(r:AR)(s:Nat):AR:={ r with n:=r.n-1,states:=r.states.set s 1 }
def Qi(st:St)(lv b:Nat)(r:AR)(s:Nat):St:=(st.upd lv (b+3) ((r.take s).b3 lv b)).upd lv b (r.take s).b0
theorem Ej{lv b:Nat}{r:AR}(h:Has st lv b r)(s:Nat)(l' i':Nat):(Qi st lv b r s).get l' i'=if l'=lv/\i'=b then some (r.take s).b0 else if l'=lv/\i'=b+3 then some ((r.take s).b3 lv b) else st.get l' i':=by
 have g1:∀l' i',(st.upd lv (b+3) ((r.take s).b3 lv b)).get l' i'=if l'=lv/\i'=b+3 then some ((r.take s).b3 lv b) else st.get l' i':=fun l' i'=>St.get_upd h.h3 rfl
 have b1:(st.upd lv (b+3) ((r.take s).b3 lv b)).get lv b=some r.b0:=by rw[g1,if_neg (by omega)];exact h.h0
 rw[Qi,St.get_upd b1 rfl,g1]
theorem Has.take{lv b:Nat}{r:AR}(h:Has st lv b r)(s:Nat):Has (Qi st lv b r s) lv b (r.take s):=by
 refine⟨St.wr_upd (St.wr_upd h.wr h.wr) (St.wr_upd h.wr h.wr),?_,?_,?_,?_,?_,?_⟩
 ·rw[Ej h,if_pos ⟨rfl,rfl⟩]
 ·rw[Ej h,if_neg (by omega),if_neg (by omega)];exact h.h1
 ·rw[Ej h,if_neg (by omega),if_neg (by omega)];exact h.h2
 ·rw[Ej h,if_neg (by omega),if_pos ⟨rfl,rfl⟩]
 ·rw[Ej h,if_neg (by omega),if_neg (by omega)];exact h.h4
 ·rw[Ej h,if_neg (by omega),if_neg (by omega)];exact h.h5
theorem Tw{lv b:Nat}{r:AR}(h:Has st lv b r){k s:Nat}(hn:r.n=k+1)(hk:r.blk[k]?=some (s:Int))(hs:s<r.states.length)(hs2:s<16384)(hg:r.gens[s]?=some (g:Int))(hg1:1<=g/\g<=4294967295)(hbig:r.n<65536):
 S Tb Xd [.ptr lv (b+3) 0 0 0] st=some (.tup [.int .u64 ((g*65536+s:Nat):Int),.int .i64 0],Qi st lv b r s):=by
 refine AS Y (fun A hA=>?_);have g1:=fun L=>ZD hA (ro:=false) (L:=L) h.h1
 have g3:=fun L=>ZD hA (ro:=false) (L:=L) h.h3
 unfold AR.b1 at g1;unfold AR.b3 at g3;rw[hn]at g3;have hM:=fun st=>TK s g hs2 hg1 st
 repeat'(first|refine ruS Y ?_|refine isS Y ?_|refine ZO ?_|refine Z6 Y ?_|refine cm0 Y Y Y ?_ ?_|(intro _;try omega)|refine YH Y Y (by omega) ?_|refine Qc Y Y Y Y ?_|refine Zk Y (g3 _) Y Y ?_)
 all_goals try omega
 have hw1:∀L,wIs 1 r.ver (St.get ⟨A,false,L⟩ lv (b+1))=true:=fun L=>by rw[g1];simp[wIs]
 refine JH Y Y (by omega) (hw1 _) ?_;refine Zk (x:=.int .i64 s) Y (g1 _) (by rw[show 0+(((k+1:Nat):Int)-1).toNat=k by omega,jG,hk];rfl) rfl ?_;repeat'(first|refine ruS Y ?_|refine isS Y ?_|refine ZO ?_|refine Z6 Y ?_|refine YH Y Y (by omega) ?_|refine Zk Y (g3 _) Y Y ?_)
 refine K0 Y Y (by omega) (hw1 _) ?_;repeat'(refine isS Y ?_)
 have hle:=St.get_le h.h3;have h3':=h.h3;unfold AR.b3 at h3';rw[hn]at h3';refine Cb hA Y Y h.wr h3' Y (Q2 _ (Nat.lt_succ_self _)) Y (fun A1 hA1=>?_);have e1:(((k+1:Nat):Int)-1).toNat=k:=by omega
 have eB:Blk.arr 4 0 ([AV.agg [.ref lv (b+1) r.ver 0 (k+1),.ref lv b 0 0 r.states.length,.ref lv (b+2) 0 0 r.gens.length,.int .u64 r.most]].set 0 (.agg [.ref lv (b+1) r.ver 0 (((k+1:Nat):Int)-1).toNat,.ref lv b 0 0 r.states.length,.ref lv (b+2) 0 0 r.gens.length,.int .u64 r.most]))=(r.take s).b3 lv b:=by
  simp[AR.b3,AR.take,hn]
 rw[eB]at hA1;have q1:∀l' i',(st.upd lv (b+3) ((r.take s).b3 lv b)).get l' i'=if l'=lv/\i'=b+3 then some ((r.take s).b3 lv b) else st.get l' i':=fun l' i'=>St.get_upd h.h3 rfl
 have hw:=St.wr_upd (b:=(r.take s).b3 lv b) (ix:=b+3) h.wr h.wr;have k0:(st.upd lv (b+3) ((r.take s).b3 lv b)).get lv b=some r.b0:=by rw[q1,if_neg (by omega)];exact h.h0
 have k2:(st.upd lv (b+3) ((r.take s).b3 lv b)).get lv (b+2)=some r.b2:=by rw[q1,if_neg (by omega)];exact h.h2
 have k3:(st.upd lv (b+3) ((r.take s).b3 lv b)).get lv (b+3)=some ((r.take s).b3 lv b):=by rw[q1,if_pos ⟨rfl,rfl⟩]
 have et:Qi st lv b r s=(st.upd lv (b+3) ((r.take s).b3 lv b)).upd lv b (r.take s).b0:=rfl;rw[et];generalize st.upd lv (b+3) ((r.take s).b3 lv b)=st1 at *;unfold AR.b0 at k0;unfold AR.b3 AR.take at k3;simp only[List.length_set]at k3;have m0:=fun L=>ZD hA1 (ro:=false) (L:=L) k0
 have m3:=fun L=>ZD hA1 (ro:=false) (L:=L) k3
 have hw0:∀L,wIs 1 0 (St.get ⟨A1,false,L⟩ lv b)=true:=fun L=>by rw[m0];simp[wIs]
 repeat'(first|refine ruS Y ?_|refine isS Y ?_|refine ZO ?_|refine Zk Y (m3 _) Y Y ?_|refine JH Y Y (by omega) (hw0 _) ?_)
 refine Cb hA1 (y:=.int .u8 (r.states[s]'hs)) Y Y hw k0 ?_ Y Y (fun A2 hA2=>?_)
 ·rw[show 0+((s:Nat):Int).toNat=s by omega,jG,jE hs];rfl
 have eS:Blk.arr 1 0 ((r.states.map (AV.int .u8)).set (0+((s:Nat):Int).toNat) (.int .u8 1))=(r.take s).b0:=by
  rw[show 0+((s:Nat):Int).toNat=s by omega];unfold AR.b0 AR.take;simp only[List.map_set]
 rw[eS]at hA2;have q2:∀l' i',(st1.upd lv b (r.take s).b0).get l' i'=if l'=lv/\i'=b then some (r.take s).b0 else st1.get l' i':=fun l' i'=>St.get_upd k0 rfl
 have n2:(st1.upd lv b (r.take s).b0).get lv (b+2)=some r.b2:=by rw[q2,if_neg (by omega)];exact k2
 have n3:(st1.upd lv b (r.take s).b0).get lv (b+3)=some (.arr 4 0 [.agg [.ref lv (b+1) r.ver 0 (r.n-1),.ref lv b 0 0 r.states.length,.ref lv (b+2) 0 0 r.gens.length,.int .u64 r.most]]):=by rw[q2,if_neg (by omega)];exact k3
 generalize st1.upd lv b (r.take s).b0=st2 at *;unfold AR.b2 at n2;have o2:=fun L=>ZD hA2 (ro:=false) (L:=L) n2
 have o3:=fun L=>ZD hA2 (ro:=false) (L:=L) n3
 have hw2:∀L,wIs 1 0 (St.get ⟨A2,false,L⟩ lv (b+2))=true:=fun L=>by rw[o2];simp[wIs]
 have hsg:s<r.gens.length:=(List.getElem?_eq_some_iff.1 hg).1;repeat'(first|refine ruS Y ?_|refine isS Y ?_|refine ZO ?_|refine Zk Y (o3 _) Y Y ?_|refine JH Y Y (by omega) (hw2 _) ?_)
 refine Zk (x:=.int .u64 g) Y (o2 _) (by rw[show 0+((s:Nat):Int).toNat=s by omega,jG,hg];rfl) rfl ?_;repeat'(first|refine isS Y ?_|refine rkS Y ?_|refine ZA Y Y Y (hM _) ?_|refine Xz ?_)
 refine ZQ hA2 (.inr Y) Y Y Y Y ?_;rfl
def Aj{α:Type}(l:List α)(g:Int)(i:Nat):List α:=(l.drop (AL l.length g i).toNat).take (XK l.length g i).toNat
def Ab(row:List Tr):List Tr:=(List.range (ZZ row.length 4).toNat).map fun i=>grp (Aj row (ZZ row.length 4) i)
def Xg:Nat->List Tr->List Tr
 | 0,row=>row
 | n+1,row=>if row.length<=1 then row else Xg n (Ab row)
noncomputable def QR(s:B8):Tr:=grp (Xg s.length ((Yo s).map Jj))
theorem ZjX(s:B8)(g:Int)(i:Nat):Eb s g i=Aj s g i:=rfl
theorem Tx{α:Type}(l:List α){g:Int}(hg:1<=g):∀k:Nat,k<=g.toNat->((List.range k).map (Aj l g)).flatten=l.take (AL l.length g k).toNat
 | 0,_=>by rw[H4 l.length g (by omega)];simp
 | k+1,h=>by
  rw[List.range_succ,List.map_append,List.flatten_append,Tx l hg k (by omega),Fu];have h1:=Fw (n:=l.length) (g:=g) (by omega) (by omega) (i:=k) (by omega);have h2:=Fv (n:=l.length) (g:=g) (by omega) (by omega) k;simp only[jC,List.map_nil,List.flatten_cons,List.flatten_nil,lN,Aj];rw[Int.toNat_add h1.1 h2,List.take_add]
theorem Ty{α:Type}(l:List α){g:Int}(hg:1<=g):((List.range g.toNat).map (Aj l g)).flatten=l:=by
 rw[Tx l hg g.toNat (Nat.le_refl _),Th l.length g (by omega)];simp
theorem Nu{α:Type}(l:List α){g:Int}(hg:1<=g){i:Nat}(hi:i<g.toNat):((Aj l g i).length:Int)=XK l.length g i:=by
 have h1:=Fw (n:=l.length) (g:=g) (by omega) (by omega) (i:=i+1) (by omega);have h0:=Fw (n:=l.length) (g:=g) (by omega) (by omega) (i:=i) (by omega);have h2:=Fv (n:=l.length) (g:=g) (by omega) (by omega) i;rw[Fu]at h1;rw[Aj,List.length_take,List.length_drop];omega
theorem Tz{n m:Int}(hm:1<=m)(hn:1<=n){i:Nat}:XK n (ZZ n m) i<=m/\n / ZZ n m<=XK n (ZZ n m) i:=by
 have hg:=Xf hn hm;have e1:ZZ n m*(n / ZZ n m)+n % ZZ n m=n:=Int.mul_ediv_add_emod n (ZZ n m);have e2:=Int.emod_nonneg n (show ZZ n m≠0 by omega);have e3:n<=m*ZZ n m:=by
  have a1:m*((n-1) / m)+(n-1) % m=n-1:=Int.mul_ediv_add_emod (n-1) m;have a2:=Int.emod_lt_of_pos (n-1) (show 0<m by omega);unfold ZZ;rw[Int.mul_add];omega
 refine⟨?_,by unfold XK;split<;>omega⟩;have e4:n / ZZ n m<=m:=by
  apply Int.ediv_le_of_le_mul (by omega);exact e3
 unfold XK;split
 ·rename_i h
  rcases Int.lt_or_le (n / ZZ n m) m with q|q
  ·omega
  ·have:n / ZZ n m=m:=by omega
   rw[this]at e1;have:ZZ n m*m=m*ZZ n m:=Int.mul_comm _ _;omega
 ·omega
structure Row(N:ZC)(row:List Tr)(h:Nat)(s:B8):Prop where
 val:∀t∈row,Val N t/\t.h=h
 big:2<=row.length->∀t∈row,Big t
 txt:Tr.txtL N row=s
theorem Znf(N:ZC)(ls:List (List Tr))(h:∀l∈ls,2<=l.length):Tr.txtL N (ls.map grp)=Tr.txtL N ls.flatten:=by
 induction ls with
 | nil=>rfl
 | cons a r ih =>
  rw[jC,Tr.txtL,List.flatten_cons,Tr.txtL_append,DQ N (h a (by simp)),ih (fun l hl=>h l (by simp[hl]))]
theorem T2{N:ZC}{row:List Tr}{h:Nat}{s:B8}(hr:Row N row h s)(h2:2<=row.length)(hh:h+1<=16):Row N (Ab row) (h+1) s/\(Ab row).length<row.length/\1<=(Ab row).length:=by
 have hg:=Xf (n:=row.length) (most:=4) (by omega) (by omega);have hg4:ZZ row.length 4=((row.length:Int)-1) / 4+1:=rfl;have hlen:(Ab row).length=(ZZ row.length 4).toNat:=by unfold Ab;simp
 have hsz:∀i,i<(ZZ row.length 4).toNat->2<=(Aj row (ZZ row.length 4) i).length/\(Aj row (ZZ row.length 4) i).length<=4:=by
  intro i hi;have h1:=Nu row hg.1 hi;have h3:=Tz (n:=row.length) (m:=4) (by omega) (by omega) (i:=i);have h4:2<=(row.length:Int) / ZZ row.length 4:=by
   apply (Int.le_ediv_iff_mul_le (by omega)).2;omega
  omega
 refine⟨⟨?_,?_,?_⟩,by omega,by omega⟩
 ·intro t ht
  unfold Ab at ht;obtain⟨i,hi,rfl⟩:=List.mem_map.1 ht;rw[List.mem_range]at hi;obtain⟨a,b⟩:=hsz i hi;obtain⟨g1,g2,g3⟩:=B9 (N:=N) (h:=h) a b hh (fun u hu=>by
   have hm:u∈row:=List.mem_of_mem_drop (List.mem_of_mem_take hu);exact⟨(hr.val u hm).1,(hr.val u hm).2,hr.big h2 u hm⟩)
  exact⟨g1,g2⟩
 ·intro _ t ht
  unfold Ab at ht;obtain⟨i,hi,rfl⟩:=List.mem_map.1 ht;rw[List.mem_range]at hi;obtain⟨a,b⟩:=hsz i hi;rw[Ea a];intro q;simp[Tr.h]at q
 ·have e:Ab row=((List.range (ZZ row.length 4).toNat).map (Aj row (ZZ row.length 4))).map grp:=by unfold Ab;rw[List.map_map];rfl
  rw[e,Znf N _ (fun l hl=>by
   obtain⟨i,hi,rfl⟩:=List.mem_map.1 hl;rw[List.mem_range]at hi;exact (hsz i hi).1),Ty row hg.1,hr.txt]
theorem Nv{N:ZC}(hN:GoodN N):∀(n:Nat) (row:List Tr) (h:Nat) (s:B8),Row N row h s->row.length<=n+1->s.length<=65536->∃h',Row N (Xg n row) h' s/\(Xg n row).length<=1/\(1<=row.length->1<=(Xg n row).length)
 | 0,row,h,s,hr,hl,hs=>⟨h,hr,by rw[Xg];omega,fun q=>q⟩
 | n+1,row,h,s,hr,hl,hs=>by
  rw[Xg];split
  ·exact⟨h,hr,by assumption,fun q=>q⟩
  ·rename_i h2
   have hh:h+1<=16:=by
    match row,h2,hr with
    | t::r,h2,hr =>
     have h1:=(hr.val t (by simp))
     have h3:=Eg hN h1.1;have h4:(t.txt N).length<=s.length:=by rw[<- hr.txt,Tr.txtL,lL];omega
     have:=h1.1.height hN (by omega);omega
    | [],h2,_=>simp at h2
   obtain⟨a,b,c⟩:=T2 hr (by omega) hh;obtain⟨h',d,e,f⟩:=Nv hN n (Ab row) (h+1) s a (by omega) hs;exact⟨h',d,e,fun _=>f c⟩
theorem Nw{N:ZC}(s:B8):Row N ((Yo s).map Jj) 0 s/\((Yo s).map Jj).length<=s.length/\(s≠[]->1<=((Yo s).map Jj).length):=by
 unfold Yo;split
 ·rename_i h
  have:s=[]:=List.length_eq_zero_iff.1 h;subst this;exact⟨⟨fun t ht=>by simp at ht,fun h=>by simp at h,rfl⟩,by simp,fun q=>absurd rfl q⟩
 ·rename_i h
  have hg:=Xf (n:=s.length) (most:=16) (by omega) (by omega);have hsz:∀i,i<(ZZ s.length 16).toNat->1<=(Aj s (ZZ s.length 16) i).length/\(Aj s (ZZ s.length 16) i).length<=16/\(2<=ZZ s.length 16->8<=(Aj s (ZZ s.length 16) i).length):=by
   intro i hi;have h1:=Nu s hg.1 hi;have h3:=Tz (n:=s.length) (m:=16) (by omega) (by omega) (i:=i);have h4:1<=(s.length:Int) / ZZ s.length 16:=by
    apply (Int.le_ediv_iff_mul_le (by omega)).2;omega
   refine⟨by omega,by omega,fun h2=>?_⟩;have hg4:ZZ s.length 16=((s.length:Int)-1) / 16+1:=rfl;have h5:8<=(s.length:Int) / ZZ s.length 16:=by
    apply (Int.le_ediv_iff_mul_le (by omega)).2;omega
   omega
  have hlen:(((List.range (ZZ s.length 16).toNat).map (Eb s (ZZ s.length 16))).map Jj).length=(ZZ s.length 16).toNat:=by simp
  refine⟨⟨?_,?_,?_⟩,by omega,fun _=>by omega⟩
  ·intro t ht
   obtain⟨c,hc,rfl⟩:=List.mem_map.1 ht;obtain⟨i,hi,rfl⟩:=List.mem_map.1 hc;rw[List.mem_range]at hi;have:=hsz i hi;exact⟨H7 ⟨this.1,this.2.1⟩,rfl⟩
  ·intro h2 t ht
   obtain⟨c,hc,rfl⟩:=List.mem_map.1 ht;obtain⟨i,hi,rfl⟩:=List.mem_map.1 hc;rw[List.mem_range]at hi;have:=(hsz i hi).2.2 (by omega);intro _;rw[Eh,ZjX];omega
  ·have hf : ∀l : List B8, Tr.txtL N (l.map Jj) = l.flatten := by
    intro l;induction l with
    | nil=>rfl
    | cons a l ih=>rw[jC,Tr.txtL,ih,H8,List.flatten_cons]
   rw[hf];exact Ty s hg.1
theorem YY{N:ZC}(hN:GoodN N){s:B8}(hs:s.length<=65536):VE N (QR s)/\(QR s).txt N=s/\(QR s).bytes=s.length:=by
 obtain⟨a,b,c⟩:=Nw (N:=N) s;obtain⟨h',d,e,f⟩:=Nv hN s.length _ 0 s a (by omega) hs;unfold QR;generalize Xg s.length ((Yo s).map Jj)=row at *
 match row,e,d with
 | [],_,d =>
  have:s=[]:=d.txt.symm;subst this;exact⟨.inl zero_empty,rfl,rfl⟩
 | [t],_,d =>
  have h1:=(d.val t (by simp)).1;have h2:=d.txt;simp only[Tr.txtL,lN]at h2;refine⟨.inr h1,h2,?_⟩;have:=Eg hN h1;rw[h2]at this;exact this.symm
theorem Ek{α:Type}(G:List α)(a:α)(r:List α):(G++a::r)[G.length]?=some a:=by
 rw[List.getElem?_append_right (Nat.le_refl _)];simp
theorem Zsz{α:Type}(G:List α)(a b:α)(r:List α):(G++a::b::r)[G.length+1]?=some b:=by
 rw[List.getElem?_append_right (by omega)];simp
theorem Zs0{α:Type}(G:List α)(a b c:α)(r:List α):(G++a::b::r).set (G.length+1) c=G++a::c::r:=by
 rw[List.set_append_right _ _ (by omega)];simp
theorem Zpf{k:List Fr}{L:List Blk}{keep:List Nat}{is:List PI}{s:Opd}{l:List Tr}(hs:ZL e s=some (.ref A.length ix ver 0 n))(hx:ZL e x=some (.lit ([t].map Tr.av)))(hg:L[ix]?=some (Blk.arr 7 ver (l.map Tr.av)))(hb:n=l.length)
 (hl:l.length+1<4294967296) (h:Is O is keep k Q ((d,.ref A.length ix (ver+1) 0 (n+1))::e) ⟨A,false,L.set ix (Blk.arr 7 (ver+1) ((l++[t]).map Tr.av))⟩):Is O (⟨some d,none,false,.app 7 80 s x⟩::is) keep k Q e ⟨A,false,L⟩:=by
 subst hb;refine H3 hs hg Y hx (.lit _) (by simp;omega) ?_;simpa using h
theorem Nx{k:List Fr}{L:List Blk}{keep:List Nat}{is:List PI}(h:Is O is keep k Q ((d,.ref A.length L.length 0 0 0)::e) ⟨A,false,L++[Blk.arr w 0 []]⟩):Is O (⟨some d,none,false,.onil w⟩::is) keep k Q e ⟨A,false,L⟩ :=
 Zm (v:=.ref A.length L.length 0 0 0) (st':=⟨A,false,L++[Blk.arr w 0 []]⟩) (by simp only[ZW,evalPO,oS,St.new_cur,Jd]) h
theorem Zng{N:ZC}(hN:GoodN N){k:List Fr}{s:B8}(hs:s.length<=65536)(B:Blk)(row:List Tr)(n:Nat)(r:List Tr)(hrow:Row N row 0 s)(hn:row.length<=n+1)(h64:row.length<=65536)(hr:Xg n row=r)
 (hex:∀(G:List Blk) (ver:Nat),Rk (S Tb) k Q (.ex 2) [(2,.ptr A.length 0 0 0 0),(4,.ref A.length (B::G).length ver 0 r.length),(31,.bool false)] ⟨A,false,B::G++[.arr 7 ver (r.map Tr.av)]⟩) (ver:Nat) (ex:Env) :
 Ru (S Tb) (.loop Sn) k Q ((2,.ptr A.length 0 0 0 0)::(4,.ref A.length 1 ver 0 row.length)::ex) ⟨A,false,[B,.arr 7 ver (row.map Tr.av)]⟩:=by
 refine Ze (α:=List Tr × List Blk × Nat × Env) (fun p=>(2,.ptr A.length 0 0 0 0)::(4,.ref A.length (B::p.2.1).length p.2.2.1 0 p.1.length)::p.2.2.2) (fun p=>⟨A,false,B::p.2.1++[.arr 7 p.2.2.1 (p.1.map Tr.av)]⟩)
  (fun p=>p.1.length<=65536/\∃k h,p.1.length<=k+1/\Row N p.1 h s/\Xg k p.1=r) (fun p=>p.1.length) (row,[],ver,ex) rfl rfl ⟨h64,n,0,hn,hrow,hr⟩ ?_
 rintro⟨row,G,ver,ex⟩ ⟨h64,kk,h,hk,hR,hb⟩;simp only at h64 hk hR hb ⊢;repeat'(first|refine ruS Y ?_|refine isS Y ?_|refine rkS Y ?_|refine Z6 Y ?_|refine cm0 Y Y Y ?_ ?_|(intro _;try omega))
 ·rename_i hgt
  have hgt2:2<=row.length:=by omega
  obtain⟨kk,rfl⟩:∃j,kk=j+1:=⟨kk-1,by omega⟩
  rw[Xg,if_neg (by omega)]at hb;have hh:h+1<=16:=by
   match row,hgt2,hR with
   | t::r,_,hR =>
    have h1:=(hR.val t (by simp))
    have h3:=Eg hN h1.1;have h4:(t.txt N).length<=s.length:=by rw[<- hR.txt,Tr.txtL,lL];omega
    have:=h1.1.height hN (by omega);omega
  obtain⟨u1,u2,u3⟩:=T2 hR hgt2 hh;refine ZA Y Y Y (Zsv row.length 4 _ (by omega)) ?_;have hg:=Xf (n:=row.length) (most:=4) (by omega) (by omega);have hget:=fun i hi=>Tj (n:=row.length) (m:=4) (by omega) (i:=i) hi
  have hlen:=Tk (n:=row.length) (m:=4) (by omega);have hpb:=fun (i:Nat) hi=>Fw (n:=row.length) (g:=ZZ row.length 4) (by omega) (by omega) (i:=i) hi
  have hps:=Fu row.length (ZZ row.length 4);have hp0:=H4 row.length (ZZ row.length 4) (by omega);have hsn:=Fv (n:=row.length) (g:=ZZ row.length 4) (by omega) (by omega);have hrl:(Ab row).length=(ZZ row.length 4).toNat:=by unfold Ab;simp
  have hrg:∀i,i<(ZZ row.length 4).toNat->(Ab row)[i]?=some (grp (Aj row (ZZ row.length 4) i)):=by
   intro i hi;unfold Ab;rw[jG,List.getElem?_range hi];rfl
  have hpl:=fun i hi=>Nu row (g:=ZZ row.length 4) hg.1 (i:=i) hi
  have hpe:∀i,Aj row (ZZ row.length 4) i=(row.drop (AL row.length (ZZ row.length 4) i).toNat).take (XK row.length (ZZ row.length 4) i).toNat:=fun _=>rfl
  generalize A7 (row.length:Int) 4=z at *;generalize ZZ (row.length:Int) 4=g at *;generalize Ab row=up at *;have hh2:∀u∈row,u.h<=65536:=fun u hu=>by have:=(hR.val u hu).1.h16;omega
  repeat'(first|refine ruS Y ?_|refine isS Y ?_|refine ZO ?_|refine Z5 Y ?_|refine cm0 Y Y Y ?_ ?_|(intro _;try omega)|refine Nx ?_)
  all_goals try omega
  refine Ze (α:=Nat) (fun i=>[(2,.ptr A.length 0 0 0 0),(4,.ref A.length (B::G).length ver (AL row.length g i).toNat (row.length-(AL row.length g i).toNat)),(9,.ref A.length ((B::G).length+1) i 0 i),(42,Cg z),(43,.int .i64 z.length),(44,.int .i64 i)])
   (fun i=>⟨A,false,B::G++[.arr 7 ver (row.map Tr.av),.arr 7 i ((up.take i).map Tr.av)]⟩) (fun i=>i<=z.length) (fun i=>z.length-i) 0 ?_ ?_ (Nat.zero_le _) ?_
  ·simp[hp0]
  ·simp
  intro i hi;repeat'(first|refine ruS Y ?_|refine isS Y ?_|refine rkS Y ?_|refine Zx Y Y ?_|refine Jy Y Y (by omega) (fun _=>rfl) (fun _ _=>?_)|refine cm0 Y Y Y ?_ ?_|(intro _;try omega))
  ·rename_i hlt x hx
   have hi2:i<g.toNat:=by omega
   have hx2:z[i]?=some x:=hx;rw[hget i hi2]at hx2;have hx3:=Option.some.inj hx2;subst hx3;have hb0:=hpb i (by omega);have hb1:=hpb (i+1) (by omega);rw[hps i]at hb1;have hs0:=hsn i;have hpl2:=hpl i hi2;have hrg2:=hrg i hi2;have hpe2:=hpe i;have hps2:=hps i;generalize AL (row.length:Int) g i=p at *;generalize XK (row.length:Int) g i=q at *;generalize Aj row g i=part at *;have hgetL:∀b:Blk,(B::G++[.arr 7 ver (row.map Tr.av),b])[(B::G).length]?=some (.arr 7 ver (row.map Tr.av)):=fun b=>Ek _ _ _
   have hwi:wIs 7 ver (St.get ⟨A,false,B::G++[.arr 7 ver (row.map Tr.av),.arr 7 i ((up.take i).map Tr.av)]⟩ A.length (B::G).length)=true:=by
    rw[St.get_cur,hgetL];simp[vis,wIs]
   refine K0 Y Y (by omega) hwi ?_;have hSl:Sl ⟨A,false,B::G++[.arr 7 ver (row.map Tr.av),.arr 7 i ((up.take i).map Tr.av)]⟩ (.ref A.length (B::G).length ver p.toNat q.toNat) part:=by
    refine .ref (es:=row.map Tr.av) (by rw[St.get_cur,hgetL];rfl) (by omega) (by rw[List.length_map];omega) ?_;rw[hpe2,<- List.map_drop,<- List.map_take]
   refine ZA Y Y Y (BK (by omega) (fun u hu=>hh2 u (by rw[hpe2]at hu;exact List.mem_of_mem_drop (List.mem_of_mem_take hu))) hSl) ?_;have hti:(up.take i).length=i:=by rw[List.length_take];omega
   refine Ee Y ?_;refine Zpf Y Y (Zsz _ _ _ _) hti.symm (by omega) ?_;rw[Zs0];have htk:=ZF hrg2;rw[<- htk];repeat'(first|refine Qv ?_|refine isS Y ?_|refine ZO ?_)
   have hwi2:wIs 7 ver (St.get ⟨A,false,B::G++[.arr 7 ver (row.map Tr.av),.arr 7 (i+1) ((up.take (i+1)).map Tr.av)]⟩ A.length (B::G).length)=true:=by
    rw[St.get_cur,hgetL];simp[vis,wIs]
   refine K1 Y Y (by omega) hwi2 ?_;repeat'(first|refine Qv ?_|refine isS Y ?_|refine rkS Y ?_|refine ZV Y Y (by omega) ?_)
   refine⟨i+1,⟨?_,rfl⟩,by omega,by omega⟩;rw[show p.toNat+q.toNat=(p+q).toNat by omega,show row.length-p.toNat-q.toNat=row.length-(p+q).toNat by omega];simp only[hps2];rfl
  ·have hi2:i=up.length:=by omega
   subst hi2;rw[List.take_length];refine⟨(up,G++[.arr 7 ver (row.map Tr.av)],up.length,[]),⟨?_,?_⟩,⟨by simp only;omega,kk,h+1,by simp only;omega,u1,hb⟩,by simp only;omega⟩
   ·simp
   ·simp
 ·have hrr : Xg kk row = row := by
   cases kk with
   | zero=>rfl
   | succ j=>rw[Xg,if_pos (by omega)]
  rw[hrr]at hb;subst hb;exact hex G ver
theorem ZjZ(s:B8):(Yo s).length<=s.length:=by
 have:=(Nw (N:=[]) s).2.1;simpa using this
theorem Ny{N:ZC}(hN:GoodN N)(s:B8)(hs:s.length<=65536)(st:St):S Tb Ff [.str s] st=some (.tup [(QR s).av,.int .i64 0],st):=by
 refine Zv Y (fun A hA=>?_);have hcl:=ZjZ s;have hch:=fun st=>ZpZ s st (by omega)
 obtain⟨ra,rb,rc⟩:=Nw (N:=N) s;obtain⟨h',rd,re,rf⟩:=Nv hN s.length _ 0 s ra (by omega) hs;unfold QR;generalize hres:Xg s.length ((Yo s).map Jj)=r at *;have hG:=fun {v:AV} {st:St} (hv:Sl st v r)=>BK (by omega) (fun u hu=>by have:=(rd.val u hu).1.h16;omega) hv
 have hlen:((Yo s).map Jj).length=(Yo s).length:=by simp
 generalize hc:Yo s=c at *;unfold Ft at hch;repeat'(first|refine ruS Y ?_|refine isS Y ?_|refine ZO ?_|refine JQ Y ?_|refine Z5 Y ?_|refine cm0 Y Y Y ?_ ?_|(intro _;try omega)|refine ZX Y Y Y ?_|refine Xk Y ?_|refine zA0 Y Y (hch _) ?_)
 all_goals try omega
 refine Ze (α:=Nat) (fun i=>[(2,.ptr A.length 0 0 0 0),(4,.ref A.length 1 i 0 i),(17,.lit (c.map .str)),(18,.int .i64 c.length),(19,.int .i64 i)])
  (fun i=>⟨A,false,[.arr 7 0 [trZ],.arr 7 i ((c.take i).map fun s=>(Jj s).av)]⟩) (fun i=>i<=c.length) (fun i=>c.length-i) 0 rfl rfl (by simp) ?_
 rintro i hi;repeat'(first|refine ruS Y ?_|refine isS Y ?_|refine rkS Y ?_|refine Zx Y Y ?_|refine Jy Y Y (by omega) (fun _=>rfl) (fun _ _=>?_)|refine cm0 Y Y Y ?_ ?_|(intro _;try omega)|refine ZV Y Y (by omega) ?_|refine Zf Y Y Y ?_|refine Z7 Y Y Y Y ?_|refine K4 Y Y Y (by first|rfl|(simp;done)|(simp;omega)) (by first|omega|(simp<;>omega)) (by decide) rfl rfl rfl ?_)
 ·rename_i x hx
  have hx2:c[i]?=some x:=hx;refine⟨i+1,⟨rfl,?_⟩,by omega,by omega⟩;simp only[ZF hx2,List.map_append,jC,List.map_nil];rfl
 ·have hi':i=c.length:=by omega
  subst hi';rw[List.take_length];have:=Zng hN hs (A:=A) (.arr 7 0 [trZ]) (c.map Jj) s.length r ra (by omega) (by omega) hres (k:=[.blk 2,.seq (.seq So .ret)]) (Q:=fun x e st'=>QT false [.c 2 true 7,.s 3] (x,e,st')=some (.tup [(grp r).av,.int .i64 0],st)) (fun G ver=>?_) c.length [(17,.lit (c.map .str)),(18,.int .i64 c.length),(19,.int .i64 c.length),(20,.bool false)]
  ·rw[List.map_map,List.length_map]at this
   exact this
  ·repeat'(first|refine ruS Y ?_|refine isS Y ?_|refine rkS Y ?_|refine Qn Y Y Y Y (Z9 _ _ _) (Qg _ _) ?_|refine zA0 Y Y (hG (Sl.cur (Ek _ _ _) rfl)) ?_)
   exact Cf hA (.inr Y) Y Y Y Y
theorem T4:∀ {N:ZC} {h:Nat} {x:Nd},lk N h=none->AE (.int .u64 h) x.av (N.map nodeAV)=some ((N++[(h,x)]).map nodeAV)
 | [],h,x,_=>rfl
 | p::N,h,x,hn=>by
  rw[lk]at hn;by_cases q:p.1=h
  ·rw[if_pos q]at hn;simp at hn
  ·rw[if_neg q]at hn
   rw[jC,AE];show (Option.bind (if IntKind.u64=IntKind.u64 then some ((h:Int) == (p.1:Int)) else none) fun b=>if b=true then some ((AV.int .u64 h,x.av)::N.map nodeAV) else (AE (.int .u64 h) x.av (N.map nodeAV)).map (nodeAV p::·))=_
   rw[if_pos rfl,oS,if_neg (by simp;omega),T4 hn];rfl
section
variable {O:Orc}{k:List Fr}{Q:JD}{e:Env}{A:List (Bool × List Blk)}{L:List Blk}{keep:List Nat}{is:List PI}{d:Nat}
theorem T5{i v:Opd}{lv h:Nat}{w:AV}{es es':List (AV × AV)}(hA:A=st.A++[(st.ro,st.L)])(hx:ZL e x=some (.map lv ix))(hi:ZL e i=some (.int .u64 h))(hv:ZL e v=some w)(hw:st.wr lv)(hg:st.get lv ix=some (.map es))
 (hs:ZI Zs (lv+1) ⟨A,false,L⟩ w=some (w,⟨A,false,L⟩)) (hp:AE (.int .u64 h) w es=some es')
 (hh:∀A',A'=(st.upd lv ix (.map es')).A++[((st.upd lv ix (.map es')).ro,(st.upd lv ix (.map es')).L)]->Is O is keep k Q e ⟨A',false,L⟩):Is O (⟨none,none,false,.mupd 0 x i v⟩::is) keep k Q e ⟨A,false,L⟩:=by
 have hl:=St.get_le hg;refine Zm (od:=none) (v:=.undef) (st':=St.upd ⟨A,false,L⟩ lv ix (.map es')) ?_ ?_
 ·simp only[ZW,evalPO,ZB hx,ZB hi,ZB hv,BN,Jh,if_true,hs,oS,BY,ZD hA hg,AA,hp,St.put_upd (Yj hA hl hw) (ZD hA hg),AF]
 ·rw[JE hA hl]
  exact hh _ Y
end
def AR.alloc(r:AR)(s g:Nat)(x:Nd):AR:={ r.take s with nodes:=r.nodes++[(g*65536+s,x.copy)],allocs:=r.allocs+1 }
def Ck(st:St)(lv b:Nat)(r:AR)(s g:Nat)(x:Nd):St:=((Qi st lv b r s).upd lv (b+4) (r.alloc s g x).b4).upd lv (b+5) ((r.alloc s g x).b5 lv b)
theorem T6{L:List Blk}(hA:A=st.A++[(st.ro,st.L)]){lv b s:Nat}{r:AR}(hl:lv<=st.A.length):
 Qi ⟨A,ro,L⟩ lv b r s=⟨(Qi st lv b r s).A++[((Qi st lv b r s).ro,(Qi st lv b r s).L)],ro,L⟩:=by
 unfold Qi;rw[JE hA hl];exact JE Y (by rw[St.upd_A];exact hl)
theorem T7(st:St)(lv b s:Nat)(r:AR):(Qi st lv b r s).A.length=st.A.length:=by
 unfold Qi;rw[St.upd_A,St.upd_A]
structure CanTake(r:AR)(k s g:Nat):Prop where
 n:r.n=k+1
 blk:r.blk[k]?=some (s:Int)
 st:s<r.states.length
 s16:s<16384
 gen:r.gens[s]?=some (g:Int)
 g1:1<=g
 g2:g<=4294967295
 big:r.n<65536
 new:lk r.nodes (g*65536+s)=none
 al:0<=r.allocs/\r.allocs<1000000
theorem T8{lv b:Nat}{r:AR}(h:Has st lv b r){k s:Nat}(hc:CanTake r k s g)(x:Nd)(v:AV)(hone:v.one=true)
 (A:List (Bool × List Blk)) (G:List Blk) (hA:A=(Qi st lv b r s).A++[((Qi st lv b r s).ro,(Qi st lv b r s).L)]) (hC:∀L,S Tb Zp [weak v] ⟨A,false,L⟩=some (.lit (x.ks.map Kid.av),⟨A,false,L⟩)) :
 Ru (S Tb) (.seq S0 (.seq S3 (.seq S7 (.seq S8 .ret)))) [] (fun x' e st' =>
  QT false [RV.s 4,RV.s 5] (x',e,st')=some (.tup [.int .u64 ((g*65536+s:Nat):Int),.int .i64 0],Ck st lv b r s g x))
  [(0,.ptr lv (b+5) 0 0 0),(3,.ptr A.length 0 0 0 0),(13,.int .u64 ((g*65536+s:Nat):Int)),(14,.int .i64 0),(72,.bool false)] ⟨A,false,.arr 3 0 [.agg [.int .i64 x.h,.str x.text,v]]::G⟩:=by
 have ht:=h.take s;have g5:=fun L=>ZD hA (ro:=false) (L:=L) ht.h5
 unfold AR.b5 at g5;have hal:=hc.al;have hpv:Qs (.agg [.int .i64 x.h,.str x.text,v]) false 2 1=some v:=rfl;repeat'(first|refine ruS Y ?_|refine Sc Y Y ?_|refine ZE Y Y Y Y ?_)
 refine ZA Y Y Y (hC _) ?_;have hstv:(Q7 3 (.agg [.int .i64 x.h,.str x.text,v]) 2 1 (.lit (x.ks.map Kid.av))).bind Yi=some x.copy.av:=rfl;repeat'(first|refine ruS Y ?_|refine isS Y ?_|refine ZE Y Y Y Y ?_|refine ZO ?_|refine Qn Y Y Y Y Y Y ?_|refine Zk Y (g5 _) Y Y ?_)
 have hp:=T4 (N:=r.nodes) (x:=x.copy) hc.new;refine T5 (w:=x.copy.av) hA Y Y Y ht.wr ht.h4 Y hp (fun A1 hA1=>?_);have eM:Blk.map ((r.nodes++[(g*65536+s,x.copy)]).map nodeAV)=(r.alloc s g x).b4:=rfl;rw[eM]at hA1;have q1:∀l' i',((Qi st lv b r s).upd lv (b+4) (r.alloc s g x).b4).get l' i'=if l'=lv/\i'=b+4 then some (r.alloc s g x).b4 else (Qi st lv b r s).get l' i':=fun l' i'=>St.get_upd ht.h4 rfl
 have k5:((Qi st lv b r s).upd lv (b+4) (r.alloc s g x).b4).get lv (b+5)=some ((r.take s).b5 lv b):=by rw[q1,if_neg (by omega)];exact ht.h5
 have hw1:=St.wr_upd (b:=(r.alloc s g x).b4) (ix:=b+4) ht.wr ht.wr;have eA:Ck st lv b r s g x=((Qi st lv b r s).upd lv (b+4) (r.alloc s g x).b4).upd lv (b+5) ((r.alloc s g x).b5 lv b):=rfl;rw[eA];generalize (Qi st lv b r s).upd lv (b+4) (r.alloc s g x).b4=st1 at *;unfold AR.b5 at k5;have m5:=fun L=>ZD hA1 (ro:=false) (L:=L) k5
 have hat:(r.take s).allocs=r.allocs:=rfl;rw[hat]at k5 m5;repeat'(first|refine ruS Y ?_|refine isS Y ?_|refine ZO ?_|refine ZV Y Y (by omega) ?_|refine Zk Y (m5 _) Y Y ?_)
 refine Cb hA1 Y Y hw1 k5 Y Y Y (fun A2 hA2=>?_);have eB:Blk.arr 6 0 ([AV.agg [.int .i64 (r.take s).slots,.ptr lv (b+3) 0 0 0,.map lv (b+4),.int .i64 r.allocs,.int .i64 (r.take s).frees,.int .i64 (r.take s).stale]].set 0 (.agg [.int .i64 (r.take s).slots,.ptr lv (b+3) 0 0 0,.map lv (b+4),.int .i64 (r.allocs+1),.int .i64 (r.take s).frees,.int .i64 (r.take s).stale]))=(r.alloc s g x).b5 lv b:=rfl;rw[eB]at hA2;repeat'(first|refine ruS Y ?_|refine isS Y ?_|refine rkS Y ?_)
 refine ZQ hA2 (.inr Y) Y Y Y Y ?_;rfl
theorem ZlH{lv b:Nat}{r:AR}(h:Has st lv b r){k s:Nat}(hc:CanTake r k s g)(text:B8)(ht:Ai text):
 S Tb Ja [.ptr lv (b+5) 0 0 0,.agg [.int .i64 (0:Nat),.str text,.nils]] st=some (.tup [.int .u64 ((g*65536+s:Nat):Int),.int .i64 0],Ck st lv b r s g ⟨0,text,none⟩):=by
 refine AS Y (fun A hA=>?_);have hN:=fun st=>Nf ⟨0,text,none⟩ (.inl ⟨rfl,ht.1,ht.2,rfl⟩) st
 simp only[Nd.av,slV]at hN;have g5:=fun L=>ZD hA (ro:=false) (L:=L) h.h5
 unfold AR.b5 at g5;repeat'(first|refine ruS Y ?_|refine isS Y ?_|refine ZE Y Y Y Y ?_|refine rkS Y ?_|refine J2 Y ?_|refine cm0 Y Y Y ?_ ?_|(intro _;try omega)|refine Qc Y Y Y Y ?_|refine ZX Y Y Y ?_|refine ZA Y Y Y (hN _) ?_|refine YL ?_|refine Zk Y (g5 _) Y Y ?_)
 all_goals try omega
 have hle:=St.get_le h.h3;have hTk:=fun L=>Tw (st:=⟨A,false,L⟩) ⟨Yj hA hle h.wr,ZD hA h.h0,ZD hA h.h1,ZD hA h.h2,ZD hA h.h3,ZD hA h.h4,ZD hA h.h5⟩ hc.n hc.blk hc.st hc.s16 hc.gen ⟨hc.g1,hc.g2⟩ hc.big
 refine ZA Y Y Y (hTk _) ?_;rw[T6 hA hle];obtain⟨A1,hA1⟩:∃A1,A1=(Qi st lv b r s).A++[((Qi st lv b r s).ro,(Qi st lv b r s).L)]:=⟨_,rfl⟩;rw[<- hA1];have hlen:A.length=A1.length:=by rw[hA,hA1,lL,lL,T7];rfl
 rw[hlen];refine A6 Y ?_;refine Fb Y Y ?_;refine Fb Y Y ?_;refine A6 Y ?_;refine A6 Y ?_;refine Jg Y ?_;refine ZO ?_;refine FX ?_;refine FX ?_;refine Qv ?_;refine A6 Y ?_;refine ZU Y Y (fun q=>absurd Y q) (fun _=>?_);refine Jg Y ?_;refine ZO ?_;refine Ku Y ?_;refine HI ?_;refine ZO ?_;have:=T8 h hc ⟨0,text,none⟩ .nils rfl A1 [] hA1 (fun L=>Zsr _);exact this
section
variable {O:Orc}{k:List Fr}{Q:JD}{e:Env}{A:List (Bool × List Blk)}{L:List Blk}{keep:List Nat}{is:List PI}{d:Nat}
theorem ZuU{i o:Nat}{x:AV}{c:Blk}(ha:ZL e a=some (.ptr A.length L.length ver i o))(hx:es[i]?=some x)(hv:Qs x agg o n=some v)
 (h:Is O is keep k Q ((d,v)::e) ⟨A,false,L++[Blk.arr w ver es]++[c]⟩):Is O (⟨some d,none,false,.ld agg n a⟩::is) keep k Q e ⟨A,false,L++[Blk.arr w ver es]++[c]⟩ :=
 ZE (w:=w) ha (by rw[List.append_assoc];exact Ek L _ _) hx hv h
theorem ZuV{i o:Nat}{x:AV}{c c2:Blk}(ha:ZL e a=some (.ptr A.length L.length ver i o))(hx:es[i]?=some x)(hv:Qs x agg o n=some v)
 (h:Is O is keep k Q ((d,v)::e) ⟨A,false,L++[Blk.arr w ver es]++[c]++[c2]⟩):Is O (⟨some d,none,false,.ld agg n a⟩::is) keep k Q e ⟨A,false,L++[Blk.arr w ver es]++[c]++[c2]⟩ :=
 ZE (w:=w) ha (by rw[List.append_assoc,List.append_assoc];exact Ek L _ _) hx hv h
end
def Zph(N:ZC)(n:Nat)(ks:List Kid):Prop:=∀k∈ks,∃y,lk N k.at_=some y/\NdOk y/\y.h=n/\y.mea=k.m
theorem T9{j i:Nat}:∀ {L0 T:List Blk},findH j T=some i->findH j (L0++T)=some (L0.length+i)
 | [],T,h=>by simpa using h
 | b::L0,T,h=>by
  have:=T9 (L0:=L0) h;unfold findH;rw[lC];simp only[this,List.length_cons]
  congr 1;omega
theorem DT:∀ {L0 T:List Blk} {i:Nat} {b:Blk},(L0++T).set (L0.length+i) b=L0++T.set i b
 | [],T,i,b=>by simp
 | c::L0,T,i,b=>by
  rw[lC,List.length_cons,show L0.length+1+i=(L0.length+i)+1 by omega,List.set_cons_succ,DT];rfl
theorem QI:∀ {L0 T:List Blk} {i:Nat},(L0++T)[L0.length+i]?=T[i]?
 | [],T,i=>by simp
 | c::L0,T,i=>by
  rw[lC,List.length_cons,show L0.length+1+i=(L0.length+i)+1 by omega,List.getElem?_cons_succ,QI]
section
variable {O:Orc}{k:List Fr}{Q:JD}{e:Env}{A:List (Bool × List Blk)}{L L0 T T':List Blk}{keep:List Nat}{is:List PI}{d:Nat}
theorem Zs1{js:List Nat}(h:Is O is keep k Q e ⟨A,false,L++js.map Blk.hole⟩):Ru O (.regH js keep is) k Q e ⟨A,false,L⟩:=by
 obtain⟨e',st',h1,h2⟩:=h.h;refine⟨⟨.norm,BC keep e',st',?_,h2⟩⟩;simp only[exec,C4,jB,if_false,oS,h1,BD]
theorem Zs2{j i bytes:Nat}{l c:Opd}{n:Int}(hl:ZL e l=some (.int .i64 n))(hc:ZL e c=some (.int .i64 n))(hn:0<=n/\n<4294967296)(hb:bytes<=4096)(hf:findH j T=some i)
 (hL:YC (T.set i (Blk.arr w 0 (List.replicate n.toNat z)))=some T') (h:Is O is keep k Q ((d,.ref A.length (L0.length+i) 0 0 n.toNat)::e) ⟨A,false,L0++T'⟩):Is O (⟨some d,none,false,.w (.here j) (.mkslice w bytes z l c)⟩::is) keep k Q e ⟨A,false,L0++T⟩:=by
 rw[<- Qp hL,<- DT]at h;refine Zm (v:=.ref A.length (L0.length+i) 0 0 n.toNat) (st':=⟨A,false,(L0++T).set (L0.length+i) (Blk.arr w 0 (List.replicate n.toNat z))⟩) ?_ h;simp only[ZW,Zt,newOf,ZB hl,ZB hc,mkslB,if_pos (show 0<=n/\n<=n/\n<4294967296/\bytes<=4096 by omega),oS,Dn,C0,and_self,if_true,T9 hf,Dm]
theorem XM{m:Nat}(hx:ZL e x=some v)(hw:v.wide=some w)(hv:Yi v=some v')(hm:Bl T=some m)(hL:YC (T++[Blk.arr w 0 [v']])=some T')(h:Is O is keep k Q ((d,.ptr A.length (L0.length+m) 0 0 0)::e) ⟨A,false,L0++T'⟩):Is O (⟨some d,none,false,.box x⟩::is) keep k Q e ⟨A,false,L0++T⟩:=by
 rw[<- Qp hL,<- DK hm,<- List.append_assoc,<- lL]at h;exact Zi hx hw hv h
theorem Znh{m:Nat}(hm:Bl T=some m)(hL:YC (T++[Blk.map []])=some T')(h:Is O is keep k Q ((d,.map A.length (L0.length+m))::e) ⟨A,false,L0++T'⟩):Is O (⟨some d,none,false,.mkmap⟩::is) keep k Q e ⟨A,false,L0++T⟩:=by
 rw[<- Qp hL,<- DK hm,<- List.append_assoc,<- lL]at h;exact Zm (v:=.map A.length (L0++T).length) (st':=⟨A,false,L0++T++[Blk.map []]⟩) (by simp only[ZW,evalPO,oS,St.new_cur,Dg]) h
theorem As{i o:Nat}{x:AV}(ha:ZL e a=some (.ptr A.length (L0.length+ix) ver i o))(hg:T[ix]?=some (Blk.arr w ver es))(hx:es[i]?=some x)(hv:Qs x agg o n=some v)
 (h:Is O is keep k Q ((d,v)::e) ⟨A,false,L0++T⟩):Is O (⟨some d,none,false,.ld agg n a⟩::is) keep k Q e ⟨A,false,L0++T⟩ :=
 ZE ha (by rw[QI];exact hg) hx hv h
theorem T_{i:Opd}{s m:Nat}{n:Int}(hx:ZL e x=some (.ref A.length (L0.length+ix) ver s m))(hi:ZL e i=some (.int .i64 n))(hn:0<=n/\n<m)(hg:T[ix]?=some (Blk.arr w ver es))(h:Is O is keep k Q ((d,.ptr A.length (L0.length+ix) ver (s+n.toNat) 0)::e) ⟨A,false,L0++T⟩):Is O (⟨some d,none,false,.ixS w x i⟩::is) keep k Q e ⟨A,false,L0++T⟩ :=
 Xl hx hi hn (by rw[QI];exact hg) h
theorem CA{i o:Nat}{y:AV}(ha:ZL e a=some (.ptr A.length (L0.length+ix) ver i o))(hx:ZL e x=some v)(hg:T[ix]?=some (Blk.arr w ver es))(hy:es[i]?=some y)
 (hs:ZI Zs (A.length+1) ⟨A,false,L0++T⟩ v=some (v,⟨A,false,L0++T⟩)) (hv:(Q7 w y o n v).bind Yi=some v') (hL:YC (T.set ix (Blk.arr w ver (es.set i v')))=some T') (h:Is O is keep k Q e ⟨A,false,L0++T'⟩):Is O (⟨none,none,false,.st n a x⟩::is) keep k Q e ⟨A,false,L0++T⟩:=by
 rw[<- Qp hL,<- DT]at h;exact Qn (by rw[QI];exact hg) ha hx hy hs hv h
end
def Qq(n g:Nat):AR:=⟨(List.range n).map fun (j:Nat)=>(n:Int)-1-j,n,0,List.replicate n 0,List.replicate n 1,g,[],n,0,0,0⟩
theorem UA{i:Nat}{k:IntKind}{f:Nat->Int}{z:Int}(hi:i<n):((List.range n).map fun j=>AV.int k (if j<i then f j else z)).set i (.int k (f i))=(List.range n).map fun j=>AV.int k (if j<i+1 then f j else z):=by
 apply List.ext_getElem
 ·simp
 ·intro j hj hj'
  simp only[List.getElem_set,List.getElem_map,List.getElem_range];by_cases q:i=j
  ·subst q;simp
  ·rw[if_neg q]
   have:j<i+1↔j<i:=by omega
   simp only[this]
theorem Zs3(n g:Nat)(hn:1<=n/\n<=16384)(hg:1<=g/\g<=4294967295)(A:List (Bool × List Blk))(L0:List Blk):
 S Tb LJ [.int .i64 n,.int .u64 g] ⟨A,false,L0⟩=some (.tup [.ptr A.length (L0.length+3) 0 0 0,.int .i64 0],⟨A,false,L0++[(Qq n g).b0,(Qq n g).b1,(Qq n g).b2,(Qq n g).b3 A.length L0.length]⟩):=by
 refine X4 Y ?_;have hmap:∀(k:IntKind) (z:Int),List.replicate n (AV.int k z)=(List.range n).map fun (j:Nat)=>AV.int k (if j<0 then (fun (j:Nat)=>(n:Int)-1-j) j else z):=by
  intro k z;simp only[Nat.not_lt_zero,if_false,List.map_const',List.length_range]
 have hmap1:List.replicate n (AV.int .u64 0)=(List.range n).map fun j=>AV.int .u64 (if j<0 then (fun _=>(1:Int)) j else 0):=by
  simp only[Nat.not_lt_zero,if_false,List.map_const',List.length_range]
 repeat'(first|refine ruS Y ?_|refine isS Y ?_|refine ZO ?_|refine cm0 Y Y Y ?_ ?_|(intro _;try omega)|refine Zf Y Y Y ?_|refine Zi Y Y Y ?_|refine Zs1 ?_|refine Zs2 Y Y (by omega) (by decide) Y Y ?_)
 simp only[lL,List.length_cons,List.length_nil,List.append_assoc,lC,lE,Int.toNat_natCast,Nat.zero_add];rw[hmap .i64 0,hmap1]
 refine Ze (α:=Nat) (fun i=>[(0,.int .i64 n),(6,.ptr A.length (L0.length+3) 0 0 0),(31,.int .i64 n),(32,.int .i64 i)])
  (fun i=>⟨A,false,L0++[.arr 1 0 (List.replicate n (.int .u8 0)),.arr 1 0 ((List.range n).map fun (j:Nat)=>.int .i64 (if j<i then (fun (j:Nat)=>(n:Int)-1-j) j else 0)),.arr 1 0 ((List.range n).map fun (j:Nat)=>.int .u64 (if j<i then (fun _=>(1:Int)) j else 0)),.arr 4 0 [.agg [.ref A.length (L0.length+1) 0 0 n,.ref A.length (L0.length+0) 0 0 n,.ref A.length (L0.length+2) 0 0 n,.int .u64 g]]]⟩)
  (fun i=>i<=n) (fun i=>n-i) 0 rfl rfl (Nat.zero_le _) ?_
 intro i hi;repeat'(first|refine ruS Y ?_|refine isS Y ?_|refine rkS Y ?_|refine cm0 Y Y Y ?_ ?_|(intro _;try omega)|refine YH Y Y (by omega) ?_|refine As Y Y Y Y ?_|refine T_ Y Y (by omega) Y ?_)
 ·simp only[Nat.zero_add,Int.toNat_natCast]
  refine CA (y:=.int .i64 0) Y Y Y ?_ Y Y Y ?_
  ·rw[jG,List.getElem?_range (by omega)];simp
  rw[UA (f:=fun (j:Nat)=>(n:Int)-1-j) (by omega)];repeat'(first|refine Qv ?_|refine isS Y ?_|refine ZO ?_|refine As Y Y Y Y ?_|refine T_ Y Y (by omega) Y ?_)
  simp only[Nat.zero_add,Int.toNat_natCast];refine CA (y:=.int .u64 0) Y Y Y ?_ Y Y Y ?_
  ·rw[jG,List.getElem?_range (by omega)];simp
  rw[UA (f:=fun (j:Nat)=>(1:Int)) (by omega)];repeat'(first|refine Qv ?_|refine isS Y ?_|refine rkS Y ?_|refine ZV Y Y (by omega) ?_)
  exact⟨i+1,⟨rfl,rfl⟩,by omega,by omega⟩
 ·obtain rfl:i=n:=by omega
  have e1:∀(k:IntKind) (f:Nat->Int),((List.range i).map fun (j:Nat)=>AV.int k (if j<i then f j else 0))=(List.range i).map fun j=>.int k (f j):=by
   intro k f;apply List.map_congr_left;intro j hj;rw[List.mem_range]at hj;rw[if_pos hj]
  simp only[e1,AR.b0,AR.b1,AR.b2,AR.b3,Qq,List.map_replicate,List.map_map,List.length_replicate];simp only[List.map_const',List.length_range];rfl
theorem UB(n g:Nat)(hn:1<=n/\n<=16384)(hg:1<=g/\g<=4294967295)(A:List (Bool × List Blk))(L0:List Blk):
 S Tb Hb [.int .i64 n,.int .u64 g] ⟨A,false,L0⟩=some (.tup [.ptr A.length (L0.length+5) 0 0 0,.int .i64 0],⟨A,false,L0++[(Qq n g).b0,(Qq n g).b1,(Qq n g).b2,(Qq n g).b3 A.length L0.length,(Qq n g).b4,(Qq n g).b5 A.length L0.length]⟩):=by
 refine X4 Y ?_;repeat'(first|refine ruS Y ?_|refine isS Y ?_|refine rkS Y ?_|refine cm0 Y Y Y ?_ ?_|(intro _;try omega)|refine Zf Y Y Y ?_|refine Zi Y Y Y ?_|refine ZA Y Y Y (Zs3 n g hn hg A L0) ?_|refine Znh Y Y ?_)
 simp only[lL,List.append_assoc,lC,lE];rfl
end Go.Q15
namespace Go.Q15
open Go Go.QAbs
open Go.ChangeMaps (setBlock)
variable {td v v' vx z:AV}{agg ro:Bool}{e:Env}{f:FuncId}{Q:JD}{A:List (Bool × List Blk)}{cls es ys:LV}{L':List Blk}{d g ib ip ix jb jx n ob pl px vb ver w:Nat}{a x:Opd}{O:Orc}{st:St}{t:Tr}
def Nz:AV->Nat
 | .int _ n=>n.toNat
 | _=>0
def J9:List (AV × AV)->Option (List H64)
 | []=>some []
 | (.int .u64 h,_)::l=>if hh:0<=h/\h<18446744073709551616 then (J9 l).map fun r=>⟨h.toNat,by omega⟩::r else none
 | _::_=>none
theorem IB{q:AV × AV}{l:List (AV × AV)}{ks:List H64}(h:J9 (q::l)=some ks):∃(k:H64) (r:List H64),q.1=hAV k/\J9 l=some r/\ks=k::r:=by
 obtain⟨k,v⟩:=q;unfold J9 at h;split at h
 ·rename_i e;simp at e
 ·rename_i hh v' l' e
  simp only[List.cons.injEq,jP]at e;obtain⟨⟨rfl,rfl⟩,rfl⟩:=e;split at h
  ·rename_i hb
   simp only[oM]at h;obtain⟨r,hr,rfl⟩:=h;exact⟨_,r,by show AV.int .u64 hh=AV.int .u64 ((hh.toNat:Nat):Int);rw[Int.toNat_of_nonneg hb.1],hr,rfl⟩
  ·simp at h
 ·simp at h
theorem UC{q:AV × AV}{l:List (AV × AV)}{k:H64}{r:List H64}(h1:q.1=hAV k)(h2:J9 l=some r):J9 (q::l)=some (k::r):=by
 obtain⟨a,v⟩:=q;simp only at h1;subst h1;have hlt:=k.isLt;show (if hh:0<=((k.val:Nat):Int)/\((k.val:Nat):Int)<18446744073709551616 then (J9 l).map fun r=>(⟨((k.val:Nat):Int).toNat,by omega⟩:H64)::r else none)=_
 rw[dif_pos (by omega),h2,Option.map_some];rfl
def Zq(S:List H64)(es:List (AV × AV)):List (AV × AV):=es.filter fun q=>!(S.any fun h=>decide (h.val=Nz q.1))
theorem IC(k:H64):Nz (hAV k)=k.val:=by show ((k.val:Nat):Int).toNat=k.val;omega
theorem UD(es:List (AV × AV)):Zq [] es=es:=by
 unfold Zq;rw[List.filter_eq_self];intro a _;rfl
theorem N0(h:H64)(S:List H64)(es:List (AV × AV)):Zq [h] (Zq S es)=Zq (h::S) es:=by
 unfold Zq;rw[List.filter_filter];refine List.filter_congr fun q _=>?_
 simp[Bool.not_or]
theorem N1{S S':List H64}(h:∀x,x∈S↔x∈S')(es:List (AV × AV)):Zq S es=Zq S' es:=by
 unfold Zq;refine List.filter_congr fun q _=>?_
 congr 1
 rw[Bool.eq_iff_iff,List.any_eq_true,List.any_eq_true];exact⟨fun ⟨x,h1,h2⟩=>⟨x,(h x).1 h1,h2⟩,fun ⟨x,h1,h2⟩=>⟨x,(h x).2 h1,h2⟩⟩
theorem ID(S:List H64):∀ {es:List (AV × AV)} {ks:List H64},J9 es=some ks->J9 (Zq S es)=some (ks.filter fun h=>decide (h∉S))
 | [],ks,h=>by simp only[J9,oJ]at h;subst h;rfl
 | q::es,ks,h=>by
  obtain⟨k,r,h1,h2,rfl⟩:=IB h;have ih:=ID S h2;have hk:(!(S.any fun h=>decide (h.val=Nz q.1)))=decide (k∉S):=by
   rw[h1,IC,Bool.eq_iff_iff];simp only[Bool.not_eq_true',List.any_eq_false,decide_eq_true_eq];constructor
   ·intro hh hm;exact hh k hm Y
   ·intro hh x hx e;exact hh (by rw[<- Fin.ext e];exact hx)
  unfold Zq at ih ⊢;rw[List.filter_cons,List.filter_cons,hk];by_cases hm:decide (k∉S)=true
  ·rw[if_pos hm,if_pos hm];exact UC h1 ih
  ·rw[if_neg hm,if_neg hm];exact ih
theorem Zs4(k h:H64):Bs (hAV k) (hAV h)=some (decide (k=h)):=by
 show (if IntKind.u64=IntKind.u64 then some (((k.val:Nat):Int) == ((h.val:Nat):Int)) else none)=_
 rw[if_pos rfl]
 congr 1
 rw[Bool.eq_iff_iff];simp only[beq_iff_eq,decide_eq_true_eq];exact⟨fun e=>Fin.ext (by omega),fun e=>by rw[e]⟩
theorem Zni{k:H64}:∀ {es:List (AV × AV)} {ks:List H64},J9 es=some ks->k∉ks->Zq [k] es=es:=by
 intro es ks h hn;unfold Zq;rw[List.filter_eq_self];intro q hq;have:∃h∈ks,q.1=hAV h:=by
  clear hn;induction es generalizing ks with
  | nil=>simp at hq
  | cons p es ih =>
   obtain⟨k',r,h1,h2,rfl⟩:=IB h;rcases List.mem_cons.1 hq with rfl|hq
   ·exact⟨k',by simp,h1⟩
   ·obtain⟨h',m1,m2⟩:=ih h2 hq
    exact⟨h',by simp[m1],m2⟩
 obtain⟨h',m1,m2⟩:=this;rw[m2,IC];simp only[List.any_cons,List.any_nil,Bool.or_false,Bool.not_eq_true',decide_eq_false_iff_not];exact fun e=>hn (by rw[Fin.ext e];exact m1)
theorem UE(k:H64):∀ {es:List (AV × AV)} {ks:List H64},J9 es=some ks->ks.Nodup->Af (hAV k) es=some (Zq [k] es)
 | [],ks,h,_=>rfl
 | q::es,ks,h,hn=>by
  obtain⟨k',r,h1,h2,rfl⟩:=IB h;rw[List.nodup_cons]at hn;unfold Af;rw[h1,Zs4,oS];by_cases e:k=k'
  ·subst e
   rw[decide_eq_true rfl,if_pos rfl];have:=Zni h2 hn.1;unfold Zq at this ⊢;rw[List.filter_cons,if_neg (by rw[h1,IC];simp),this]
  ·rw[decide_eq_false e,if_neg (by simp),UE k h2 hn.2,Option.map_some]
   unfold Zq;rw[List.filter_cons,if_pos (by rw[h1,IC];simp only[List.any_cons,List.any_nil,Bool.or_false,Bool.not_eq_true',decide_eq_false_iff_not];exact fun e2=>e (Fin.ext e2))]
def F3(x:MapEntry):Option H64:=match x.key with
 | .int _ h=>some ⟨h.toNat % 18446744073709551616,Nat.mod_lt _ (by decide)⟩
 | _=>none
theorem UF{x:MapEntry}{h:H64}(hk:x.key=encH h):F3 x=some h:=by
 unfold F3;rw[hk];show some (⟨((h.val:Nat):Int).toNat % 18446744073709551616,_⟩:H64)=_
 congr 1
 apply Fin.ext;have:=h.isLt;show ((h.val:Nat):Int).toNat % 18446744073709551616=h.val
 rw[Int.toNat_natCast];omega
theorem UG{C:Cx}:∀ {es:List (AV × AV)} {l:List MapEntry} {ks:List H64},EntR C es l->J9 es=some ks->l.filterMap F3=ks/\∀x∈l,∃h,x.key=encH h
 | [],l,ks,h,hs=>by
  have:l=[]:=List.eq_nil_of_length_eq_zero h.1.symm;subst this;simp only[J9,oJ]at hs;exact⟨by simpa using hs,by simp⟩
 | q::es,[],ks,h,hs=>by have:=h.1;simp at this
 | (k,v)::es,x::l,ks,h,hs=>by
  obtain⟨k',r,h1,h2,rfl⟩:=IB hs;simp only at h1;subst h1;obtain⟨i1,i2⟩:=UG (C:=C) (es:=es) (l:=l) h.tail h2;obtain⟨_,hk,hv⟩:=h.2 0 _ _ x rfl rfl;have hk:=Jf hk;refine⟨?_,fun y hy=>?_⟩
  ·rw[List.filterMap_cons,UF hk,i1]
  ·rcases List.mem_cons.1 hy with rfl|hy
   ·exact⟨_,hk⟩
   ·exact i2 y hy
section
variable {P:Program}{T:Tab}{O:Orc}{nt:Nat}{W0:World}{B0:Bse}{st st':St}{ρ:Rho}{W W':World}{e:Env}{a:Act}{r:Nat}
theorem Zs5(hr:Rel W0 B0 st ρ W){kk lv:Nat}{k:AV}(h:BB st kk k (.map lv ix)=some st'){kx mx:Value}(hk:QAbs.R (cx st ρ W st.A.length) k kx)(hm:QAbs.R (cx st ρ W st.A.length) (.map lv ix) mx)
 {t key el u ty:TypeId} (ht:P.underlying t=some (.map key el)) (hkk:BP P key=some kk) :
 ∃W',(Builtin.delete_ #[t,u] ty #[mx,kx]).run P W=.ok (.tuple #[]) W'/\Goes W0 B0 st ρ W st' ρ W'/\W'.heap.size=W.heap.size/\∀j,j≠(ρ lv ix).b->W'.heap[j]?=W.heap[j]?:=by
 obtain⟨d,hu,hd⟩:=G3 hkk;unfold BB at h;simp only at h;split at h
 ·rename_i hki
  simp only[oB]at h;obtain⟨es,hes,es',hdel,hst⟩:=h;cases hm with
  | map hp =>
   obtain⟨p1,p2,r,rfl,p3⟩:=hp;have hg:=JY hes;have:=p3 es hg;subst this;obtain⟨en,clock,h1,h2,hf⟩:=(hr.map lv ix es hg).ent;have hk':QAbs.R (cx st ρ W lv) k kx:=by
    unfold Jh at hki;split at hki
    ·rw[Jf hk];exact .int _ _
    ·rw[Xy hk];exact .str _
    ·rw[J1 hk];exact .bool _
    ·simp at hki
   obtain⟨rr,hfind⟩:=KV hdel;obtain⟨f1,f2⟩:=FL hd hki hk' 0 h2 hfind;have hck:=G4 (P:=P) (W:=W) hu hd en.isEmpty 9999 kx;have hfr:∀ob:Obj,∀j,j≠(ρ lv ix).b->({ W with heap:=W.heap.setIfInBounds (ρ lv ix).b ob }:World).heap[j]?=W.heap[j]?:=fun ob j hj=>by
    show (W.heap.setIfInBounds (ρ lv ix).b ob)[j]?=W.heap[j]?
    rw[Array.getElem?_setIfInBounds,if_neg (fun q=>hj q.symm)]
   cases rr with
   | none =>
    obtain⟨e4,_,e6⟩:=f2 rfl;rw[e6]at hdel;simp only[oJ]at hdel;subst hdel;refine⟨{ W with heap:=W.heap.setIfInBounds (ρ lv ix).b (.map en clock) },?_,D4 hr hg hst hf ?_,by simp,hfr _⟩
    ·simp only[Builtin.delete_,List.getElem?_toArray,List.getElem?_cons_zero,List.getElem?_cons_succ,Sem.run_bind,Zh ht,Result.andThen_ok,XS h1,hck,XR hu e4,D_ h1,Sem.run_pure]
    ·intro i k1 v1 hkv
     have hi:=Zc hkv;have hi':i<en.size:=by have:=h2.1;simp at this;omega
     have hy:en.toList[i]?=some en[i]:=by simp[hi']
     obtain⟨q1,q2,q3⟩:=h2.2 i k1 v1 _ hkv hy;exact⟨q1,en[i],Array.getElem?_eq_getElem hi',q2,q3⟩
   | some w =>
    obtain⟨idx,k0,x,e1,e2,e3,e4,_,e6⟩:=f1 w rfl;rw[e6]at hdel;simp only[oJ]at hdel;subst hdel;have hidx:=Zc e2;have hidx':idx<en.size:=by simpa using hidx
    have hel:(en.eraseIdxIfInBounds idx).toList=en.toList.eraseIdx idx:=by
     unfold Array.eraseIdxIfInBounds;rw[dif_pos hidx'];simp
    refine⟨{ W with heap:=W.heap.setIfInBounds (ρ lv ix).b (.map (en.eraseIdxIfInBounds idx) clock) },?_,D4 hr hg hst ?_ ?_,by simp,hfr _⟩
    ·simp only[Nat.zero_add]at e4
     simp only[Builtin.delete_,List.getElem?_toArray,List.getElem?_cons_zero,List.getElem?_cons_succ,Sem.run_bind,Zh ht,Result.andThen_ok,XS h1,hck,XR hu e4,D_ h1,Sem.run_pure]
    ·exact hf.erase hel (by rw[<- Array.length_toList,hel,List.length_eraseIdx,List.length_eraseIdx,h2.1])
    ·intro i k1 v1 hkv
     rw[List.getElem?_eraseIdx]at hkv;have hgo:∀j:Nat,es[j]?=some (k1,v1)->De k1=true/\∃y:MapEntry,en.toList[j]?=some y/\QAbs.R (cx st ρ W lv) k1 y.key/\QAbs.R (cx st ρ W lv) v1 y.val:=by
      intro j hj;have hlt:=Zc hj;have hlt':j<en.toList.length:=by rw[<- h2.1];exact hlt
      obtain⟨q1,q2,q3⟩:=h2.2 j k1 v1 _ hj (jE hlt');exact⟨q1,_,jE hlt',q2,q3⟩
     have:(en.eraseIdxIfInBounds idx)[i]?=if i<idx then en.toList[i]? else en.toList[i+1]?:=by
      rw[<- Array.getElem?_toList,hel,List.getElem?_eraseIdx]
     split at hkv
     ·rename_i hlt
      obtain⟨q1,y,q2,q3⟩:=hgo i hkv;exact⟨q1,y,by rw[this,if_pos hlt];exact q2,q3⟩
     ·rename_i hlt
      obtain⟨q1,y,q2,q3⟩:=hgo (i+1) hkv;exact⟨q1,y,by rw[this,if_neg hlt];exact q2,q3⟩
 ·simp at h
structure OpN(o:Oper)(op:Op):Prop where
 op:o.op=op
 gd:o.guard=none
 dst:o.dst=none
theorem Znj{o:Oper}{m k:Operand}{t u:TypeId}{mx kx:Value}{v:Value}(ho:o.op=.call { callee:=.builtin .delete,args:=#[m,k],argTypes:=#[t,u] })(hm:a.eval m=mx)(hk:a.eval k=kx)
 (hr:(Builtin.delete_ #[t,u] o.type #[mx,kx]).run P W=.ok v W'):(execOp a.eval o).run P W=.ok (.value v) W':=by
 unfold execOp;simp only[ho,resolve,invoke,builtin,Sem.run_bind,Sem.run_pure,Result.andThen_ok,List.map_toArray,jC,List.map_nil,hm,hk,hr]
theorem N2{o1 o2 o3:Oper}{mt kt t1 t2 i lv ix:Nat}{ty u key el:TypeId}{h:H64}{Q:Exit->Act->World->Prop}(h1:OpIs o1 (.move (.tmp mt)) t1)(h2:OpIs o2 (.move (.tmp kt)) t2)
 (h3:OpN o3 (.call { callee:=.builtin .delete,args:=#[.tmp t1,.tmp t2],argTypes:=#[ty,u] })) (d1:t1≠t2) (d2:t1≠kt) (s1:t1<a.tmps.size) (s2:t2<a.tmps.size) (ht:P.underlying ty=some (.map key el)) (hkk:BP P key=some 0)
 (hr:Rel W0 B0 st ρ W) (hm:QAbs.R (cx st ρ W st.A.length) (.map lv ix) (a.eval (.tmp mt))) (hk:a.eval (.tmp kt)=encH h) (hd:BB st 0 (hAV h) (.map lv ix)=some st')
 (hQ:∀W',Goes W0 B0 st ρ W st' ρ W'->W'.heap.size=W.heap.size->(∀j,j≠(ρ lv ix).b->W'.heap[j]?=W.heap[j]?)->Q .normal ((a.put (some t1) (a.eval (.tmp mt))).put (some t2) (encH h)) W') :
 (Code.region i #[o1,o2,o3] false).wpIn (fen none) 0 P Q a W:=by
 obtain⟨W',hrun,g,hs,hf⟩:=Zs5 (P:=P) (u:=u) (ty:=o3.type) hr hd (kx:=encH h) (.int _ _) hm ht hkk;refine wpIn_region ?_;show wpOpsIn (fen none) 0 _ #[o1,o2,o3] _ [0,1,2] a W
 rw[wpOpsIn_cons];refine YF h1 Y (by simp) (Jb (x:=.tmp mt) (.inl h1.op)) ?_;rw[wpOpsIn_cons];refine YF h2 Y (by simp) (Jb (x:=.tmp kt) (.inl h2.op)) ?_;rw[Act.put_other d2,hk,wpOpsIn_cons];refine EX (o:=o3) Y h3.gd (fun c q=>by rw[h3.op]at q;simp at q) (Znj h3.op (by rw[Act.put_other (Ne.symm d1)];exact Act.put_look s1) (Act.put_look (by simpa [Act.put] using s2)) hrun) ?_;rw[h3.dst];exact hQ W' g hs hf
end
section
variable {P:Program}{T:Tab}{O:Orc}{nt:Nat}{W0:World}{B0:Bse}{st st':St}{ρ:Rho}{W W':World}{e:Env}{a:Act}{r:Nat}
theorem UH(hr:Rel W0 B0 st ρ W){lv:Nat}{es:List (AV × AV)}{ks:List H64}(hg:st.get lv ix=some (.map es))(hks:J9 es=some ks)(σ:List H64->St)(hσ:σ []=st)
 {o1 o2 o3 o4:Oper} {m t1 it nx ok i1 i3 id:Nat} {ty key el:TypeId} {body:Code} {Q:Exit->Act->World->Prop} (h1:OpIs o1 (.move (.tmp m)) t1) (h2:OpIs o2 (.range ty (.tmp t1)) it) (h3:OpIs o3 (.next (.tmp it) false) nx) (h4:OpIs o4 (.extract (.tmp nx) 0) ok)
 (ht:P.underlying ty=some (.map key el)) (hm:a.eval (.tmp m)=.map (some (ρ lv ix).b)) (s1:t1<a.tmps.size) (s2:it<a.tmps.size) (s3:nx<a.tmps.size) (s4:ok<a.tmps.size) (d1:it≠nx) (d2:it≠ok)
 (K:List Nat) (hK:∀t∈K,t≠t1/\t≠it/\t≠nx/\t≠ok)
 (hbody:∀(S:List H64) (h:H64) (x:MapEntry) (en:Array MapEntry) (clock:Nat) (seen:Array Nat) (a':Act) (W':World),x.key=encH h->Goes W0 B0 st ρ W (σ S) ρ W'->a'.tmps.size=a.tmps.size->a'.defers=a.defers ->
  (∀t∈K,a'.eval (.tmp t)=a.eval (.tmp t))->a'.eval (.tmp it)=.pointer (some ⟨W.heap.size,0,none⟩)->W'.heap[W.heap.size]?=some (.mapIter (some (ρ lv ix).b) clock (seen.push x.born) clock)->W'.heap[(ρ lv ix).b]?=some (.map en clock)->MapFit en clock es.length->x∈en.toList ->
  body.wpIn (fen none) 0 P (fun ex a2 W2=>ex=.normal/\Goes W0 B0 st ρ W (σ (h::S)) ρ W2/\W2.heap[W.heap.size]?=W'.heap[W.heap.size]?/\W2.heap[(ρ lv ix).b]?=W'.heap[(ρ lv ix).b]?/\a2.tmps.size=a.tmps.size/\a2.defers=a.defers /\
   (∀t∈K,a2.eval (.tmp t)=a.eval (.tmp t))/\a2.eval (.tmp it)=.pointer (some ⟨W.heap.size,0,none⟩)) a' W')
 (hQ:∀(S:List H64) (a':Act) (W':World),(∀h,h∈S↔h∈ks)->Goes W0 B0 st ρ W (σ S) ρ W'->a'.tmps.size=a.tmps.size->a'.defers=a.defers->(∀t∈K,a'.eval (.tmp t)=a.eval (.tmp t))->Q .normal a' W') :
 (Code.seq (.region i1 #[o1,o2] false) (.block id (.loop (.seq (.region i3 #[o3,o4] false) (.seq (.cond (.tmp ok) .skip (.exit id)) body))))).wpIn (fen none) 0 P Q a W:=by
 obtain⟨en,clock,q1,q2,hf⟩:=(hr.map lv ix es hg).ent;obtain⟨hsel,hall⟩:=UG q2 hks;refine wpIn_seq (wpIn_region ?_);show wpOpsIn (fen none) 0 _ #[o1,o2] _ [0,1] a W
 rw[wpOpsIn_cons];refine YF h1 Y (by simp) (Jb (x:=.tmp m) (.inl h1.op)) ?_;rw[wpOpsIn_cons,hm];refine YF h2 Y (by simp) (S9 (m:=.tmp t1) (t:=ty) h2.op ht (Act.put_look s1) q1) ?_;show Code.wpIn _ _ _ _ _ _ _
 have hjk0:Jk W.heap.size W (W.alloc (.mapIter (some (ρ lv ix).b) clock #[] clock)):=by
  exact⟨rfl,rfl,rfl,by simp,fun i hi _=>Go.RowKit.Below.heap_alloc _ _ _ hi,.inl (Nat.le_refl _)⟩
 have hb:=Zz q1;have hkeep:∀(a':Act) (d:Nat) (v:Value),(d=t1\/d=it\/d=nx\/d=ok)->(∀t∈K,a'.eval (.tmp t)=a.eval (.tmp t))->∀t∈K,(a'.put (some d) v).eval (.tmp t)=a.eval (.tmp t):=by
  intro a' d v hd h t htK;obtain⟨k1,k2,k3,k4⟩:=hK t htK;rw[Act.put_other (by rcases hd with rfl|rfl|rfl|rfl<;>exact Ne.symm ‹_›)];exact h t htK
 refine TA (o3:=o3) (o4:=o4) (it:=.tmp it) (nx:=nx) (ok:=ok) hf h3.op h3.gd h3.dst h4.op h4.gd h4.dst
  (fun seen a' W'=>Itr W' (ρ lv ix).b W.heap.size clock en seen/\a'.tmps.size=a.tmps.size/\a'.defers=a.defers/\(∀t∈K,a'.eval (.tmp t)=a.eval (.tmp t))/\a'.eval (.tmp it)=.pointer (some ⟨W.heap.size,0,none⟩)/\∃S,Goes W0 B0 st ρ W (σ S) ρ W'/\∀h,h∈ks↔h∈S\/h∈(Aa en seen).filterMap F3)
  (fun seen a' W' h=>⟨h.2.2.2.2.1,by have:=h.2.1;omega,by have:=h.2.1;omega,h.1⟩) ?_ ?_ ?_
 ·rintro seen a' W' ⟨k1,k2,k3,k4,k5,S,k6,k7⟩ hl0
  rw[hl0]at k7;refine hQ S _ W' (fun h=>?_) k6 (by simpa [Act.put] using k2) k3 (hkeep _ _ _ (by simp) (hkeep _ _ _ (by simp) k4));rw[k7 h];simp
 ·rintro seen a' W' x w1 ⟨k1,k2,k3,k4,k5,S,k6,k7⟩ hx hw hit hnew hjk
  obtain⟨h,hkey⟩:=hall x (Hs hx);have hperm:=NT hf hx;have k8:=k6.trans (k6.rel.jk hjk hr.b0);refine wpIn_mono (hbody S h x en clock seen _ _ hkey k8 (by simpa [Act.put] using k2) k3 (hkeep _ _ _ (by simp) (hkeep _ _ _ (by simp) k4)) (by rw[Act.put_other (Ne.symm d2),Act.put_other (Ne.symm d1)];exact k5) hnew hit.map hf (Hs hx)) ?_;rintro ex a2 W2 ⟨rfl,g,e1,e2,e3,e4,e5,e6⟩;refine⟨rfl,⟨by rw[e2];exact hit.map,clock,Nat.le_refl _,by rw[e1];exact hnew⟩,e3,e4,e5,e6,h::S,g,fun y=>?_⟩;rw[k7 y,(hperm.filterMap F3).mem_iff,List.filterMap_cons,UF hkey];simp only[List.mem_cons];constructor
  ·rintro (q|q|q)
   ·exact .inl (.inr q)
   ·exact .inl (.inl q)
   ·exact .inr q
  ·rintro ((q|q)|q)
   ·exact .inr (.inl q)
   ·exact .inl q
   ·exact .inr (.inr q)
 ·refine⟨⟨hjk0.heap q1 Y,clock,Nat.le_refl _,World.alloc_heap_new _ _⟩,by simp[Act.put],rfl,hkeep _ _ _ (by simp) (hkeep _ _ _ (by simp) (fun _ _=>rfl)),Act.put_look (by simpa [Act.put] using s2),[],?_,fun h=>?_⟩
  ·rw[hσ];exact hr.jk hjk0 hr.b0
  ·rw[S_,hsel];simp
theorem IE{lv:Nat}{b c:Blk}(hg:st.get lv ix=some c)(h:st.put lv ix b=some st'):st.wr lv/\st'=st.upd lv ix b:=by
 have hw:st.wr lv:=by
  unfold St.put at h;unfold St.wr;by_cases q:lv=st.A.length
  ·rw[if_pos q]at h ⊢
   split at h
   ·simp at h
   ·rename_i hro;simpa using hro
  ·rw[if_neg q]at h ⊢
   unfold BW at h;split at h
   ·rename_i r hr;exact⟨r,hr⟩
   ·simp at h
 refine⟨hw,?_⟩;rw[St.put_upd hw hg]at h;exact (Option.some.inj h).symm
end
def BT:Code->List (Array Oper)
 | .seq a b=>BT a++BT b|.cond _ a b=>BT a++BT b|.block _ b=>BT b|.loop b=>BT b|.scope b=>BT b
 | .region _ ops _=>[ops]
 | _=>[]
noncomputable def cV:Code:=Proofs.Tryz.f13.body.getD .skip
noncomputable def oV(i j:Nat):Oper:=((BT cV).getD i #[]).getD j default
attribute [irreducible] oV
noncomputable def cSh:Code:=Proofs.Tryz.f12.body.getD .skip
noncomputable def oSh(i j:Nat):Oper:=((BT cSh).getD i #[]).getD j default
attribute [irreducible] oSh
noncomputable def cPa:Code:=Proofs.Tryz.f52.body.getD .skip
noncomputable def oPa(i j:Nat):Oper:=((BT cPa).getD i #[]).getD j default
noncomputable def UI:Code:=.block 5 (.seq (.region 20 #[oPa 20 0,oPa 20 1,oPa 20 2] false) (.seq (.region 21 #[oPa 21 0,oPa 21 1,oPa 21 2] false) (.region 22 #[oPa 22 0,oPa 22 1,oPa 22 2] false)))
noncomputable def xPaA:Code:=.seq (.region 18 #[oPa 18 0,oPa 18 1] false) (.block 4 (.loop (.seq (.region 19 #[oPa 19 0,oPa 19 1] false) (.seq (.cond (.tmp 60) .skip (.exit 4)) UI))))
noncomputable def UJ:Code:=.block 7 (.seq (.region 25 #[oPa 25 0,oPa 25 1,oPa 25 2] false) (.region 26 #[oPa 26 0,oPa 26 1,oPa 26 2] false))
noncomputable def xPaB:Code:=.seq (.region 23 #[oPa 23 0,oPa 23 1] false) (.block 6 (.loop (.seq (.region 24 #[oPa 24 0,oPa 24 1] false) (.seq (.cond (.tmp 70) .skip (.exit 6)) UJ))))
noncomputable def xPaE:Code:=.seq (.region 27 #[oPa 27 0,oPa 27 1,oPa 27 2,oPa 27 3,oPa 27 4,oPa 27 5,oPa 27 6,oPa 27 7,oPa 27 8] false) .ret
noncomputable def xPa:Code:=.seq xPaA (.seq xPaB xPaE)
theorem Zpk:OpIs (oPa 18 0) (.move (.tmp 10)) 57:=⟨by kernel_rfl,by kernel_rfl,by kernel_rfl⟩
theorem Zpl:OpIs (oPa 18 1) (.range 94 (.tmp 57)) 58:=⟨by kernel_rfl,by kernel_rfl,by kernel_rfl⟩
theorem Zpm:OpIs (oPa 19 0) (.next (.tmp 58) false) 59:=⟨by kernel_rfl,by kernel_rfl,by kernel_rfl⟩
theorem Zpn:OpIs (oPa 19 1) (.extract (.tmp 59) 0) 60:=⟨by kernel_rfl,by kernel_rfl,by kernel_rfl⟩
theorem oPa_20_0:OpIs (oPa 20 0) (.entry (.tmp 58)) 61:=⟨by kernel_rfl,by kernel_rfl,by kernel_rfl⟩
theorem oPa_20_1:OpIs (oPa 20 1) (.extract (.tmp 61) 0) 62:=⟨by kernel_rfl,by kernel_rfl,by kernel_rfl⟩
theorem oPa_20_2:OpIs (oPa 20 2) (.assign (.tmp 62)) 16:=⟨by kernel_rfl,by kernel_rfl,by kernel_rfl⟩
theorem Zpo:OpIs (oPa 21 0) (.move (.tmp 8)) 63:=⟨by kernel_rfl,by kernel_rfl,by kernel_rfl⟩
theorem Zpp:OpIs (oPa 21 1) (.move (.tmp 16)) 64:=⟨by kernel_rfl,by kernel_rfl,by kernel_rfl⟩
theorem Zpq:OpN (oPa 21 2) (.call { callee:=.builtin .delete,args:=#[.tmp 63,.tmp 64],argTypes:=#[94,32] }):=⟨by kernel_rfl,by kernel_rfl,by kernel_rfl⟩
theorem Zpr:OpIs (oPa 22 0) (.move (.tmp 11)) 65:=⟨by kernel_rfl,by kernel_rfl,by kernel_rfl⟩
theorem Zps:OpIs (oPa 22 1) (.move (.tmp 16)) 66:=⟨by kernel_rfl,by kernel_rfl,by kernel_rfl⟩
theorem Zpt:OpN (oPa 22 2) (.call { callee:=.builtin .delete,args:=#[.tmp 65,.tmp 66],argTypes:=#[99,32] }):=⟨by kernel_rfl,by kernel_rfl,by kernel_rfl⟩
theorem Zpu:OpIs (oPa 23 0) (.move (.tmp 11)) 67:=⟨by kernel_rfl,by kernel_rfl,by kernel_rfl⟩
theorem Zpv:OpIs (oPa 23 1) (.range 99 (.tmp 67)) 68:=⟨by kernel_rfl,by kernel_rfl,by kernel_rfl⟩
theorem Zpw:OpIs (oPa 24 0) (.next (.tmp 68) false) 69:=⟨by kernel_rfl,by kernel_rfl,by kernel_rfl⟩
theorem Zpx:OpIs (oPa 24 1) (.extract (.tmp 69) 0) 70:=⟨by kernel_rfl,by kernel_rfl,by kernel_rfl⟩
theorem oPa_25_0:OpIs (oPa 25 0) (.entry (.tmp 68)) 71:=⟨by kernel_rfl,by kernel_rfl,by kernel_rfl⟩
theorem oPa_25_1:OpIs (oPa 25 1) (.extract (.tmp 71) 0) 72:=⟨by kernel_rfl,by kernel_rfl,by kernel_rfl⟩
theorem oPa_25_2:OpIs (oPa 25 2) (.assign (.tmp 72)) 17:=⟨by kernel_rfl,by kernel_rfl,by kernel_rfl⟩
theorem Zpy:OpIs (oPa 26 0) (.move (.tmp 8)) 73:=⟨by kernel_rfl,by kernel_rfl,by kernel_rfl⟩
theorem Zpz:OpIs (oPa 26 1) (.move (.tmp 17)) 74:=⟨by kernel_rfl,by kernel_rfl,by kernel_rfl⟩
theorem Zp0:OpN (oPa 26 2) (.call { callee:=.builtin .delete,args:=#[.tmp 73,.tmp 74],argTypes:=#[94,32] }):=⟨by kernel_rfl,by kernel_rfl,by kernel_rfl⟩
attribute [irreducible] oPa
theorem N3{l i:Nat}{es:List (AV × AV)}{ks:List H64}{h:H64}(hw:st.wr l)(hg:st.get l i=some (.map es))(hk:J9 es=some ks)(hn:ks.Nodup):BB st 0 (hAV h) (.map l i)=some (st.upd l i (.map (Zq [h] es))):=by
 show (if Jh 0 (hAV h)=true then (AA (st.get l i)).bind fun es=>(Af (hAV h) es).bind fun es'=>st.put l i (.map es') else none)=_
 rw[if_pos (show Jh 0 (hAV h)=true from rfl),hg];show (Af (hAV h) es).bind (fun es'=>st.put l i (.map es'))=_
 rw[UE h hk hn,oS,St.put_upd hw hg]
def dlA(l i8 i10 i11:Nat)(st:St):Option St:=(AA (st.get l i8)).bind fun es8=>(AA (st.get l i10)).bind fun es10=>(AA (st.get l i11)).bind fun es11=>(J9 es8).bind fun ks8=>(J9 es10).bind fun ks10=>(J9 es11).bind fun ks11 =>
 if ks8.Nodup/\ks11.Nodup then (st.put l i8 (.map (Zq ks10 es8))).bind fun st1=>st1.put l i11 (.map (Zq ks10 es11)) else none
def DU:Run:=fun e st=>match QAbs.look e 8,QAbs.look e 10,QAbs.look e 11 with
 | .map l8 i8,.map l10 i10,.map l11 i11=>if l8=l10/\l11=l10/\i8≠i10/\i11≠i10/\i8≠i11 then (dlA l10 i8 i10 i11 st).map fun st'=>(.norm,[(8,.map l10 i8),(10,.map l10 i10),(11,.map l10 i11)],st') else none
 | _,_,_=>none
def dlB(l i8 i11:Nat)(st:St):Option St:=(AA (st.get l i8)).bind fun es8=>(AA (st.get l i11)).bind fun es11=>(J9 es8).bind fun ks8=>(J9 es11).bind fun ks11 =>
 if ks8.Nodup then st.put l i8 (.map (Zq ks11 es8)) else none
def DV:Run:=fun e st=>match QAbs.look e 8,QAbs.look e 11 with
 | .map l8 i8,.map l11 i11=>if l8=l11/\i8≠i11 then (dlB l11 i8 i11 st).map fun st'=>(.norm,[(8,.map l11 i8),(10,QAbs.look e 10),(11,.map l11 i11)],st') else none
 | _,_=>none
theorem u94:Proofs.Tryz.prog.underlying 94=some (TypeDesc.map 32 3):=by kernel_rfl
theorem u99:Proofs.Tryz.prog.underlying 99=some (TypeDesc.map 32 4):=by kernel_rfl
theorem k32:BP Proofs.Tryz.prog 32=some 0:=by kernel_rfl
theorem sPaA_ok{T:Tab}{W0:World}{B0:Bse}:CodeOk none Proofs.Tryz.prog (S T) 80 W0 B0 xPaA DU:=by
 intro e st ρ W a0 r Q hx hr he hn hQ;unfold DU at hx;split at hx
 case h_2=>simp at hx
 rename_i l8 i8 l10 i10 l11 i11 hl8 hl10 hl11;split at hx
 case isFalse=>simp at hx
 rename_i hc;obtain⟨rfl,rfl,n1,n2,n3⟩:=hc;simp only[oM,dlA,oB]at hx;obtain⟨st',⟨es8,hes8,es10,hes10,es11,hes11,ks8,hk8,ks10,hk10,ks11,hk11,hx⟩,rfl⟩:=hx;split at hx
 case isFalse=>simp at hx
 rename_i hnd;obtain⟨nd8,nd11⟩:=hnd;simp only[oB]at hx;obtain⟨st1,hp1,hp2⟩:=hx;have hg8:=JY hes8;have hg10:=JY hes10;have hg11:=JY hes11;obtain⟨hw,rfl⟩:=IE hg8 hp1;have gt:∀(s:St) (i j:Nat) (b c:Blk),s.get l11 i=some c->vis (some b)=some b->(s.upd l11 i b).get l11 j=if j=i then some b else s.get l11 j:=fun s i j b c h1 h2=>by
  rw[St.get_upd h1 h2];by_cases q:j=i
  ·rw[if_pos ⟨rfl,q⟩,if_pos q]
  ·rw[if_neg (fun h=>q h.2),if_neg q]
 have hg11':(st.upd l11 i8 (.map (Zq ks10 es8))).get l11 i11=some (.map es11):=by rw[gt _ _ _ _ _ hg8 rfl,if_neg (Ne.symm n3)];exact hg11
 obtain⟨hw1,rfl⟩:=IE hg11' hp2;have b8:(ρ l11 i8).b<W.heap.size:=by obtain⟨en,clock,q1,_,_⟩:=(hr.map l11 i8 es8 hg8).ent;exact Zz q1
 have b11:(ρ l11 i11).b<W.heap.size:=by obtain⟨en,clock,q1,_,_⟩:=(hr.map l11 i11 es11 hg11).ent;exact Zz q1
 have sp8:=hr.msep l11 i8 es8 l11 i10 es10 hg8 hg10 (fun q=>n1 q.2);have sp11:=hr.msep l11 i11 es11 l11 i10 es10 hg11 hg10 (fun q=>n2 q.2);have e8:=he 8;have e10:=he 10;have e11:=he 11;rw[hl8]at e8;rw[hl10]at e10;rw[hl11]at e11;have hm:a0.eval (.tmp 10)=.map (some (ρ l11 i10).b):=by
  show a0.tmps.getD 10 Go.undef=_
  generalize a0.tmps.getD 10 Go.undef=m at e10;cases e10 with
  | map hp =>
   obtain⟨p1,p2,r0,rfl,p3⟩:=hp;have:=p3 es10 hg10;subst this;rfl
 refine UH hr hg10 hk10 (fun S=>(st.upd l11 i8 (.map (Zq S es8))).upd l11 i11 (.map (Zq S es11))) ?_ (m:=10) (t1:=57) (it:=58) (nx:=59) (ok:=60) (i1:=18) (i3:=19) (id:=4) Zpk Zpl Zpm Zpn u94 hm (by omega) (by omega) (by omega) (by omega) (by decide) (by decide) [8,10,11] (by decide) ?_ ?_
 ·simp only[UD]
  rw[upd_same hg8,upd_same hg11]
 ·intro S h x en clock seen a' W' hkey hG hsz hdf hK hit hheap hmap hf hx
  have hK8:=hK 8 (by simp);have hK11:=hK 11 (by simp);have hK10:=hK 10 (by simp);unfold UI;refine wpIn_block (wpIn_seq (wpIn_region ?_));show wpOpsIn (fen none) 0 _ #[oPa 20 0,oPa 20 1,oPa 20 2] _ [0,1,2] a' W'
  rw[wpOpsIn_cons];refine YF oPa_20_0 Y (by simp) (NS (it:=.tmp 58) oPa_20_0.op hit hheap hmap hf hx) ?_;rw[wpOpsIn_cons];refine YF oPa_20_1 Y (by simp) (EY (t:=.tmp 61) (k:=0) (x:=x.key) oPa_20_1.op (Act.put_look (by omega)) Y) ?_;rw[wpOpsIn_cons];refine YF oPa_20_2 Y (by simp) (Jb (x:=.tmp 62) (.inr oPa_20_2.op)) ?_;rw[Act.put_look (by simp[Act.put];omega)];show Code.wpIn _ _ _ _ _ _ _
  generalize hb:((a'.put (some 61) (.tuple #[x.key,x.val])).put (some 62) x.key).put (some 16) x.key=a2;have s2:a2.tmps.size=a0.tmps.size:=by rw[<- hb];simpa [Act.put] using hsz
  have d2:a2.defers=a0.defers:=by rw[<- hb];exact hdf
  have f8:a2.eval (.tmp 8)=a0.eval (.tmp 8):=by rw[<- hb,Act.put_other (by decide),Act.put_other (by decide),Act.put_other (by decide)];exact hK8
  have f10:a2.eval (.tmp 10)=a0.eval (.tmp 10):=by rw[<- hb,Act.put_other (by decide),Act.put_other (by decide),Act.put_other (by decide)];exact hK10
  have f11:a2.eval (.tmp 11)=a0.eval (.tmp 11):=by rw[<- hb,Act.put_other (by decide),Act.put_other (by decide),Act.put_other (by decide)];exact hK11
  have f58:a2.eval (.tmp 58)=.pointer (some ⟨W.heap.size,0,none⟩):=by rw[<- hb,Act.put_other (by decide),Act.put_other (by decide),Act.put_other (by decide)];exact hit
  have f16:a2.eval (.tmp 16)=encH h:=by rw[<- hb,<- hkey];exact Act.put_look (by simp[Act.put];omega)
  clear hb;have w0:(st.upd l11 i8 (.map (Zq S es8))).wr l11:=St.wr_upd hw hw;have g11:(st.upd l11 i8 (.map (Zq S es8))).get l11 i11=some (.map es11):=by rw[gt _ _ _ _ _ hg8 rfl,if_neg (Ne.symm n3)];exact hg11
  have g8:(st.upd l11 i8 (.map (Zq S es8))).get l11 i8=some (.map (Zq S es8)):=by rw[gt _ _ _ _ _ hg8 rfl,if_pos rfl]
  have w1:((st.upd l11 i8 (.map (Zq S es8))).upd l11 i11 (.map (Zq S es11))).wr l11:=St.wr_upd w0 w0;have k8:((st.upd l11 i8 (.map (Zq S es8))).upd l11 i11 (.map (Zq S es11))).get l11 i8=some (.map (Zq S es8)):=by rw[gt _ _ _ _ _ g11 rfl,if_neg n3];exact g8
  have k11:((st.upd l11 i8 (.map (Zq S es8))).upd l11 i11 (.map (Zq S es11))).get l11 i11=some (.map (Zq S es11)):=by rw[gt _ _ _ _ _ g11 rfl,if_pos rfl]
  have m1:=N3 (h:=h) w1 k8 (ID S hk8) (nd8.filter _);refine wpIn_seq (N2 Zpo Zpp Zpq (by decide) (by decide) (by omega) (by omega) u94 k32 hG.rel (by rw[hG.ev.len,f8];exact e8.mono (hG.ev.le _ (Nat.le_refl _))) f16 m1 ?_);intro W2 hG2 hsz2 hfr2;have hG3:=hG.trans hG2;have w2:(((st.upd l11 i8 (.map (Zq S es8))).upd l11 i11 (.map (Zq S es11))).upd l11 i8 (.map (Zq [h] (Zq S es8)))).wr l11:=St.wr_upd w1 w1;have q11:(((st.upd l11 i8 (.map (Zq S es8))).upd l11 i11 (.map (Zq S es11))).upd l11 i8 (.map (Zq [h] (Zq S es8)))).get l11 i11=some (.map (Zq S es11)):=by rw[gt _ _ _ _ _ k8 rfl,if_neg (Ne.symm n3)];exact k11
  have m2:=N3 (h:=h) w2 q11 (ID S hk11) (nd11.filter _);have t8:∀(t:Nat),t≠63->t≠64->((a2.put (some 63) (a2.eval (.tmp 8))).put (some 64) (encH h)).eval (.tmp t)=a2.eval (.tmp t):=fun t h1 h2=>by rw[Act.put_other (Ne.symm h2),Act.put_other (Ne.symm h1)]
  generalize hb:(a2.put (some 63) (a2.eval (.tmp 8))).put (some 64) (encH h)=a3 at *;have s3:a3.tmps.size=a0.tmps.size:=by rw[<- hb];simpa [Act.put] using s2
  have d3:a3.defers=a0.defers:=by rw[<- hb];exact d2
  clear hb;refine N2 Zpr Zps Zpt (by decide) (by decide) (by omega) (by omega) u99 k32 hG3.rel (by rw[hG3.ev.len,t8 11 (by decide) (by decide),f11];exact e11.mono (hG3.ev.le _ (Nat.le_refl _))) (by rw[t8 16 (by decide) (by decide)];exact f16) m2 ?_;intro W3 hG4 hsz4 hfr4;have hG5:=hG3.trans hG4;refine⟨rfl,?_,?_,?_,by simpa [Act.put] using s3,d3,?_,?_⟩
  ·have : ((((st.upd l11 i8 (.map (Zq S es8))).upd l11 i11 (.map (Zq S es11))).upd l11 i8 (.map (Zq [h] (Zq S es8)))).upd l11 i11 (.map (Zq [h] (Zq S es11)))) = (st.upd l11 i8 (.map (Zq (h :: S) es8))).upd l11 i11 (.map (Zq (h :: S) es11)) := by
    rw[N0,N0,F1 (ix:=i11) (jx:=i8) (Ne.symm n3),Cj,Cj]
   rw[this]at hG5;exact hG5
  ·rw[hfr4 _ (by omega),hfr2 _ (by omega)]
  ·rw[hfr4 _ (Ne.symm sp11),hfr2 _ (Ne.symm sp8)]
  ·intro t ht
   have h1:t≠65/\t≠66/\t≠63/\t≠64:=by simp at ht;omega
   rw[Act.put_other (Ne.symm h1.2.1),Act.put_other (Ne.symm h1.1),t8 t h1.2.2.1 h1.2.2.2];simp only[List.mem_cons,List.not_mem_nil,or_false]at ht;rcases ht with rfl|rfl|rfl
   ·exact f8
   ·exact f10
   ·exact f11
  ·rw[Act.put_other (by decide),Act.put_other (by decide),t8 58 (by decide) (by decide)];exact f58
 ·intro S a' W' hS hG hsz hdf hK
  have:(st.upd l11 i8 (.map (Zq S es8))).upd l11 i11 (.map (Zq S es11))=(st.upd l11 i8 (.map (Zq ks10 es8))).upd l11 i11 (.map (Zq ks10 es11)):=by rw[N1 hS,N1 hS]
  rw[this]at hG;refine hQ a' ρ W' hG ?_ hsz hdf;intro t;have hmo:=hG.ev.le _ (Nat.le_refl _);have hlen:=hG.ev.len;show QAbs.R (cx _ ρ W' (St.A _).length) _ _
  rw[hlen];by_cases h8:t=8
  ·subst h8
   have q:a'.tmps.getD 8 Go.undef=a0.tmps.getD 8 Go.undef:=hK 8 (by simp);rw[q];exact e8.mono hmo
  by_cases h10:t=10
  ·subst h10
   have q:a'.tmps.getD 10 Go.undef=a0.tmps.getD 10 Go.undef:=hK 10 (by simp);rw[q];exact e10.mono hmo
  by_cases h11:t=11
  ·subst h11
   have q:a'.tmps.getD 11 Go.undef=a0.tmps.getD 11 Go.undef:=hK 11 (by simp);rw[q];exact e11.mono hmo
  have q:QAbs.look [((8:Nat),AV.map l11 i8),(10,.map l11 i10),(11,.map l11 i11)] t=.any:=by simp[QAbs.look,Ne.symm h8,Ne.symm h10,Ne.symm h11]
  show QAbs.R _ (QAbs.look [((8:Nat),AV.map l11 i8),(10,.map l11 i10),(11,.map l11 i11)] t) _
  rw[q];exact .any _
end Go.Q15
namespace Go.QAbs
variable {td v v' vx z:AV}{agg ro:Bool}{e:Env}{f:FuncId}{Q:JD}{A:List (Bool × List Blk)}{cls es ys:LV}{L':List Blk}{d g ib ip ix jb jx n ob pl px vb ver w:Nat}{a x:Opd}{O:Orc}{st:St}
section
variable {P:Program}{O:Orc}
def fnK(F:Run)(rs:List RV):LV->St->OS:=fun args st=>(F (QB 0 args) st).bind (QT true rs)
theorem ZuX{fn:Func}{c:Code}{F:Run}{rs:List RV}(hf:P.funcs[f]?=some fn)(hb:fn.body=some c)(hF:∀W0 B0,KG P W0 B0->CodeOk none P O fn.ntmps W0 B0 c F)(hX:FrX F)
 (hrs:fn.results.toList.mapM (Bc P)=some rs):Bf P f (.base (fnK F rs)):=by
 refine⟨fun args=>?_,?_⟩
 ·intro st r hr
  simp only[fnK,oB]at hr;obtain⟨x,h1,h2⟩:=hr;obtain⟨k1,k2⟩:=hX.to h1;obtain⟨v,e1,e2,e3⟩:=Ra h2;simp only[if_true,QL,oJ]at e2;subst e2;refine⟨k1,fun M i B hh=>?_⟩;simp only[fnK,k2 M i B hh,oS];rw[e3,HB _ _ _ _ e1 M i B (hh.of_tags k1)];rfl
 intro args st v st' h W0 B0 ρ W xs hg hr hx;have h:(F (QB 0 args) st).bind (QT true rs)=some (v,st'):=h;simp only[oB]at h;obtain⟨⟨ex,e1,st1⟩,hex,hend⟩:=h;refine (callsIn_wide (n:=0)).1 (callsIn_of_wp_marks (F:=.wide) hf hb trivial ?_);have hsz:fn.ntmps<=(xs.toArray++Array.replicate (fn.ntmps-xs.toArray.size) Go.undef).size:=by simp;omega
 refine hF W0 B0 hg (QB 0 args) st ρ W { tmps:=xs.toArray++Array.replicate (fn.ntmps-xs.toArray.size) Go.undef,defers:=[] } (ex,e1,st1) _ hex hr
  (FU hx _) hsz ?_
 intro a' ρ' W' g he' _ hd';have key:(QE st1 e1 rs).bind (QL st1)=some (v,st')->LeavesInM .wide 0 P fn a'.tmps (fun e W'=>∃x ρ',e=.returned x/\Goes W0 B0 st ρ W st' ρ' W'/\QAbs.R (cx st' ρ' W' st'.A.length) v x) a'.defers .returning W':=by
  intro hend;rw[hd'];simp only[oB,QL,oJ,jP]at hend;obtain⟨v0,hv,rfl,rfl⟩:=hend;obtain⟨x,hx,hxv⟩:=FT hrs hv g.rel he';exact⟨x,hx,x,ρ',rfl,g,hxv⟩
 cases ex with
 | norm=>exact key (by simpa [QT] using hend)
 | ret=>exact key (by simpa [QT] using hend)
 | ex id=>simp[QT]at hend
end
end Go.QAbs
namespace Go.Q15
open Go Go.QAbs
open Go.ChangeMaps (setBlock)
variable {td v v' vx z:AV}{agg ro:Bool}{e:Env}{f:FuncId}{Q:JD}{A:List (Bool × List Blk)}{cls es ys:LV}{L':List Blk}{d g ib ip ix jb jx n ob pl px vb ver w:Nat}{a x:Opd}{O:Orc}{st:St}{t:Tr}
theorem sPaB_ok{T:Tab}{W0:World}{B0:Bse}:CodeOk none Proofs.Tryz.prog (S T) 80 W0 B0 xPaB DV:=by
 intro e st ρ W a0 r Q hx hr he hn hQ;unfold DV at hx;split at hx
 case h_2=>simp at hx
 rename_i l8 i8 l11 i11 hl8 hl11;split at hx
 case isFalse=>simp at hx
 rename_i hc;obtain⟨rfl,n3⟩:=hc;simp only[oM,dlB,oB]at hx;obtain⟨st',⟨es8,hes8,es11,hes11,ks8,hk8,ks11,hk11,hx⟩,rfl⟩:=hx;split at hx
 case isFalse=>simp at hx
 rename_i nd8;have hg8:=JY hes8;have hg11:=JY hes11;obtain⟨hw,rfl⟩:=IE hg8 hx;have b8:(ρ l8 i8).b<W.heap.size:=by obtain⟨en,clock,q1,_,_⟩:=(hr.map l8 i8 es8 hg8).ent;exact Zz q1
 have sp8:=hr.msep l8 i8 es8 l8 i11 es11 hg8 hg11 (fun q=>n3 q.2);have e8:=he 8;have e10:=he 10;have e11:=he 11;rw[hl8]at e8;rw[hl11]at e11;have hm:a0.eval (.tmp 11)=.map (some (ρ l8 i11).b):=by
  show a0.tmps.getD 11 Go.undef=_
  generalize a0.tmps.getD 11 Go.undef=m at e11;cases e11 with
  | map hp =>
   obtain⟨p1,p2,r0,rfl,p3⟩:=hp;have:=p3 es11 hg11;subst this;rfl
 refine UH hr hg11 hk11 (fun S=>st.upd l8 i8 (.map (Zq S es8))) ?_ (m:=11) (t1:=67) (it:=68) (nx:=69) (ok:=70) (i1:=23) (i3:=24) (id:=6) Zpu Zpv Zpw Zpx u99 hm (by omega) (by omega) (by omega) (by omega) (by decide) (by decide) [8,10,11] (by decide) ?_ ?_
 ·simp only[UD]
  rw[upd_same hg8]
 ·intro S h x en clock seen a' W' hkey hG hsz hdf hK hit hheap hmap hf hx
  have hK8:=hK 8 (by simp);have hK11:=hK 11 (by simp);have hK10:=hK 10 (by simp);unfold UJ;refine wpIn_block (wpIn_seq (wpIn_region ?_));show wpOpsIn (fen none) 0 _ #[oPa 25 0,oPa 25 1,oPa 25 2] _ [0,1,2] a' W'
  rw[wpOpsIn_cons];refine YF oPa_25_0 Y (by simp) (NS (it:=.tmp 68) oPa_25_0.op hit hheap hmap hf hx) ?_;rw[wpOpsIn_cons];refine YF oPa_25_1 Y (by simp) (EY (t:=.tmp 71) (k:=0) (x:=x.key) oPa_25_1.op (Act.put_look (by omega)) Y) ?_;rw[wpOpsIn_cons];refine YF oPa_25_2 Y (by simp) (Jb (x:=.tmp 72) (.inr oPa_25_2.op)) ?_;rw[Act.put_look (by simp[Act.put];omega)];show Code.wpIn _ _ _ _ _ _ _
  generalize hb:((a'.put (some 71) (.tuple #[x.key,x.val])).put (some 72) x.key).put (some 17) x.key=a2;have s2:a2.tmps.size=a0.tmps.size:=by rw[<- hb];simpa [Act.put] using hsz
  have d2:a2.defers=a0.defers:=by rw[<- hb];exact hdf
  have f8:a2.eval (.tmp 8)=a0.eval (.tmp 8):=by rw[<- hb,Act.put_other (by decide),Act.put_other (by decide),Act.put_other (by decide)];exact hK8
  have f10:a2.eval (.tmp 10)=a0.eval (.tmp 10):=by rw[<- hb,Act.put_other (by decide),Act.put_other (by decide),Act.put_other (by decide)];exact hK10
  have f11:a2.eval (.tmp 11)=a0.eval (.tmp 11):=by rw[<- hb,Act.put_other (by decide),Act.put_other (by decide),Act.put_other (by decide)];exact hK11
  have f58:a2.eval (.tmp 68)=.pointer (some ⟨W.heap.size,0,none⟩):=by rw[<- hb,Act.put_other (by decide),Act.put_other (by decide),Act.put_other (by decide)];exact hit
  have f16:a2.eval (.tmp 17)=encH h:=by rw[<- hb,<- hkey];exact Act.put_look (by simp[Act.put];omega)
  clear hb;have w0:(st.upd l8 i8 (.map (Zq S es8))).wr l8:=St.wr_upd hw hw;have g8:(st.upd l8 i8 (.map (Zq S es8))).get l8 i8=some (.map (Zq S es8)):=by rw[St.get_upd hg8 rfl,if_pos ⟨rfl,rfl⟩]
  have m1:=N3 (h:=h) w0 g8 (ID S hk8) (nd8.filter _);refine N2 Zpy Zpz Zp0 (by decide) (by decide) (by omega) (by omega) u94 k32 hG.rel (by rw[hG.ev.len,f8];exact e8.mono (hG.ev.le _ (Nat.le_refl _))) f16 m1 ?_;intro W2 hG2 hsz2 hfr2;have hG3:=hG.trans hG2;refine⟨rfl,?_,?_,?_,by simpa [Act.put] using s2,d2,?_,?_⟩
  ·rw[N0,Cj]at hG3
   exact hG3
  ·rw[hfr2 _ (by omega)]
  ·rw[hfr2 _ (Ne.symm sp8)]
  ·intro t ht
   have h1:t≠73/\t≠74:=by simp at ht;omega
   rw[Act.put_other (Ne.symm h1.2),Act.put_other (Ne.symm h1.1)];simp only[List.mem_cons,List.not_mem_nil,or_false]at ht;rcases ht with rfl|rfl|rfl
   ·exact f8
   ·exact f10
   ·exact f11
  ·rw[Act.put_other (by decide),Act.put_other (by decide)];exact f58
 ·intro S a' W' hS hG hsz hdf hK
  rw[N1 hS]at hG;refine hQ a' ρ W' hG ?_ hsz hdf;intro t;have hmo:=hG.ev.le _ (Nat.le_refl _);have hlen:=hG.ev.len;show QAbs.R (cx _ ρ W' (St.A _).length) _ _
  rw[hlen];by_cases h8:t=8
  ·subst h8
   have q:a'.tmps.getD 8 Go.undef=a0.tmps.getD 8 Go.undef:=hK 8 (by simp);rw[q];exact e8.mono hmo
  by_cases h10:t=10
  ·subst h10
   have q:a'.tmps.getD 10 Go.undef=a0.tmps.getD 10 Go.undef:=hK 10 (by simp);rw[q];exact e10.mono hmo
  by_cases h11:t=11
  ·subst h11
   have q:a'.tmps.getD 11 Go.undef=a0.tmps.getD 11 Go.undef:=hK 11 (by simp);rw[q];exact e11.mono hmo
  have q:QAbs.look [((8:Nat),AV.map l8 i8),(10,QAbs.look e 10),(11,.map l8 i11)] t=.any:=by simp[QAbs.look,Ne.symm h8,Ne.symm h10,Ne.symm h11]
  show QAbs.R _ (QAbs.look [((8:Nat),AV.map l8 i8),(10,QAbs.look e 10),(11,.map l8 i11)] t) _
  rw[q];exact .any _
theorem Zs6:FrX DU:=FrX.of fun e st r hr=>by
 unfold DU at hr ⊢;split at hr
 case h_2=>simp at hr
 rename_i l8 i8 l10 i10 l11 i11 h1 h2 h3;split at hr
 case isFalse=>simp at hr
 rename_i hc;simp only[oM,dlA,oB]at hr;obtain⟨st',⟨es8,hes8,es10,hes10,es11,hes11,ks8,hk8,ks10,hk10,ks11,hk11,hx⟩,rfl⟩:=hr;split at hx
 case isFalse=>simp at hx
 rename_i hnd;simp only[oB]at hx;obtain⟨st1,hp1,hp2⟩:=hx;have hg8:=JY hes8;have hg10:=JY hes10;have hg11:=JY hes11;obtain⟨k1,k2⟩:=CY hg8 rfl hp1;obtain⟨hw,e1⟩:=IE hg8 hp1;have hg11':st1.get l10 i11=some (.map es11):=by
  rw[e1,St.get_upd hg8 rfl,if_neg (fun q=>hc.2.2.2.2 q.2.symm)];exact hg11
 obtain⟨k3,k4⟩:=CY hg11' rfl hp2;refine⟨k3.trans k1,fun M i B hh=>?_⟩;have m8:=Qa (B:=B) hh l10 i8 _ hg8;have m10:=Qa (B:=B) hh l10 i10 _ hg10;have m11:=Qa (B:=B) hh l10 i11 _ hg11;simp only[if_pos hc,dlA,m8,m10,m11,AA,oS,hk8,hk10,hk11,if_pos hnd,k2 M i B hh,k4 M i B (hh.of_tags k1),Option.map_some]
theorem Zs7:FrX DV:=FrX.of fun e st r hr=>by
 unfold DV at hr ⊢;split at hr
 case h_2=>simp at hr
 rename_i l8 i8 l11 i11 h1 h3;split at hr
 case isFalse=>simp at hr
 rename_i hc;simp only[oM,dlB,oB]at hr;obtain⟨st',⟨es8,hes8,es11,hes11,ks8,hk8,ks11,hk11,hx⟩,rfl⟩:=hr;split at hx
 case isFalse=>simp at hx
 rename_i hnd;have hg8:=JY hes8;have hg11:=JY hes11;obtain⟨k1,k2⟩:=CY hg8 rfl hx;refine⟨k1,fun M i B hh=>?_⟩;have m8:=Qa (B:=B) hh l11 i8 _ hg8;have m11:=Qa (B:=B) hh l11 i11 _ hg11;simp only[if_pos hc,dlB,m8,m11,AA,oS,hk8,hk11,if_pos hnd,k2 M i B hh,Option.map_some]
end Go.Q15
namespace Go.Q15
open Go Go.QAbs
variable {td v v' vx z:AV}{agg ro:Bool}{e:Env}{f:FuncId}{Q:JD}{A:List (Bool × List Blk)}{cls es ys:LV}{L':List Blk}{d g ib ip ix jb jx n ob pl px vb ver w:Nat}{a x:Opd}{O:Orc}{st:St}{t:Tr}
noncomputable def At(N:ZC)(t:Tr)(a n:Int)(s:B8):Tr :=
 if n=0/\s=[] then t
 else concM N (concM N (cutF N t.h t a).1 (QR s)) (cutF N (cutF N t.h t a).2.h (cutF N t.h t a).2 n).2
structure ReplOk(N:ZC)(t:Tr)(a n:Int)(s:B8)(r:Tr):Prop where
 ve:VE N r
 txt:r.txt N=(t.txt N).take a.toNat++s++(t.txt N).drop (a+n).toNat
 bytes:r.bytes=t.bytes-n+s.length
theorem IF{N:ZC}(hN:GoodN N)(ht:VE N t){a n:Int}{s:B8}(h0:0<=a)(h1:0<=n)(h2:a+n<=t.bytes)(hb:t.bytes<=65536)(hs:t.bytes-n+s.length<=65536):ReplOk N t a n s (At N t a n s):=by
 unfold At;split
 ·rename_i h
  obtain⟨rfl,rfl⟩:=h;exact⟨ht,by simp,by simp⟩
 ·have c1:=Ci hN t.h t a ht rfl h0 (by omega) hb
  generalize cutF N t.h t a=q at *;obtain⟨l,m⟩:=q;simp only at *;have hm:=c1.rb;have hl:=c1.lb;simp only at hm hl;have c2:=Ci hN m.h m n c1.r rfl h1 (by omega) (by omega);generalize cutF N m.h m n=q at *;obtain⟨d,r⟩:=q;simp only at *;have hr:=c2.rb;simp only at hr;obtain⟨b1,b2,b3⟩:=YY hN (s:=s) (by omega);have k1:=Ch hN c1.l b1 (by rw[b3];simp only;omega);have k2:=Ch hN k1.ve c2.r (by rw[k1.bytes,b3];simp only;omega);refine⟨k2.ve,?_,by rw[k2.bytes,k1.bytes,b3];simp only;omega⟩;rw[k2.txt,k1.txt,b2];have e1:=c1.lt;have e2:=c1.rt;have e3:=c2.rt;simp only at e1 e2 e3 ⊢;rw[e1,e3,e2,List.drop_drop,show a.toNat+n.toNat=(a+n).toNat by omega]
theorem UK{N:ZC}(hN:GoodN N){lv:Nat}(hr:Rd st lv ix N)(ht:VE N t){a n:Int}{s:B8}(h0:0<=a)(h1:0<=n)(h2:a+n<=t.bytes)(hb:t.bytes<=65536)(hs:t.bytes-n+s.length<=65536):
 S Tb Hc [.ptr lv ix 0 0 0,t.av,.int .i64 a,.int .i64 n,.str s] st=some (.tup [(At N t a n s).own.av,.int .i64 0],st):=by
 refine Zv Y (fun A hA=>?_);have hrp:=fun L=>hr.push hA (ro:=false) (L:=L)
 have hC:=fun L=>Ns (hrp L) ht hb
 have hB:=fun st=>B7 t ht.pos.1 (by omega) st
 have hpos:=ht.pos.2;by_cases hz:n=0/\s=[]
 ·have he:At N t a n s=t:=by unfold At;rw[if_pos hz]
  rw[he];obtain⟨rfl,rfl⟩:=hz;have hO:=fun st=>TR t ht.pos.1 st
  generalize t.own=o at *;repeat'(first|refine ruS Y ?_|refine isS Y ?_|refine rkS Y ?_|refine cp Y Y ?_|refine cm0 Y Y Y ?_ ?_|(intro _;try omega)|(refine BI Y Y (fun _=>?_) (fun _=>?_)<;>try contradiction)|refine YH Y Y (by omega) ?_|refine Zf Y Y Y ?_|refine ZX Y Y Y ?_|refine Zg Y Y Y Y Y Y ?_|refine ZE Y Y Y (Zb _) ?_|refine Zg Y Y Y (Z9 _ _ _) (Qg _ _) Y ?_|refine Zi Y (Zn _) (Z1 _) ?_|refine zA0 Y Y (hC _) ?_|refine zA0 Y Y (hB _) ?_|refine zA0 Y Y (hO _) ?_|refine HK Y Y ?_)
  all_goals try (simp only[jB,if_false]at *)
  all_goals try omega
  all_goals first|(exact Cf hA (.inr Y) Y Y Y Y)|(exact absurd ⟨by assumption,by assumption⟩ hz)
 ·have hK1:=fun L=>Tq hN t.h (hrp L) ht rfl a h0 (by omega) hb
  have c1:=Ci hN t.h t a ht rfl h0 (by omega) hb;have hrm:At N t a n s=concM N (concM N (cutF N t.h t a).1 (QR s)) (cutF N (cutF N t.h t a).2.h (cutF N t.h t a).2 n).2:=by unfold At;rw[if_neg hz]
  have hO0:=(IF hN ht h0 h1 h2 hb hs).ve.pos.1;generalize cutF N t.h t a=q at *;obtain⟨l,m⟩:=q;simp only at *;have hm:=c1.rb;have hl:=c1.lb;have vl:=c1.l;have vm:=c1.r;simp only at hm hl vl vm;have hK2:=fun L=>Tq hN m.h (hrp L) vm rfl n h1 (by omega) (by omega)
  have c2:=Ci hN m.h m n vm rfl h1 (by omega) (by omega);generalize cutF N m.h m n=q at *;obtain⟨d,r⟩:=q;simp only at *;have vr:=c2.r;have hrb:=c2.rb;simp only at vr hrb;obtain⟨b1,b2,b3⟩:=YY hN (s:=s) (by omega);have hBu:=fun st=>Ny hN s (by omega) st
  generalize QR s=b at *;have hc1:=fun L=>H_ hN (hrp L) vl b1
  have k1:=(Ch hN vl b1 (by omega)).ve;generalize concM N l b=z1 at *;have hc2:=fun L=>H_ hN (hrp L) k1 vr
  generalize concM N z1 r=z2 at *;rw[hrm]at hO0 ⊢;have hO:=fun st=>TR z2 hO0 st
  generalize z2.own=zo at *;have hmin:∀x:Int,min x 65536<=x/\min x 65536<=65536/\(min x 65536=x\/min x 65536=65536):=fun x=>by omega
  have hmin2:=hmin s.length;repeat'(first|refine ruS Y ?_|refine isS Y ?_|refine rkS Y ?_|refine JQ Y ?_|refine cm0 Y Y Y ?_ ?_|(intro _;try omega)|(refine BI Y Y (fun _=>?_) (fun _=>?_)<;>try contradiction)|refine YH Y Y (by omega) ?_|refine Zf Y Y Y ?_|refine ZX Y Y Y ?_|refine Zg Y Y Y Y Y Y ?_|refine ZE Y Y Y (Zb _) ?_|refine Zg Y Y Y (Z9 _ _ _) (Qg _ _) Y ?_|refine Zi Y (Zn _) (Z1 _) ?_|refine zA0 Y Y (hC _) ?_|refine zA0 Y Y (hB _) ?_|refine zA0 Y Y (hK1 _) ?_|refine zA0 Y Y (hK2 _) ?_|refine zA0 Y Y (hBu _) ?_|refine zA0 Y Y (hc1 _) ?_|refine zA0 Y Y (hc2 _) ?_|refine zA0 Y Y (hO _) ?_|refine HK Y Y ?_)
  all_goals try (simp only[jB,if_false]at *)
  all_goals try omega
  all_goals first|(exact Cf hA (.inr Y) Y Y Y Y)|(exact absurd ⟨by assumption,by assumption⟩ hz)
def hd(N:ZC):Nat:=1*65536+N.length
theorem N4:∀ {N M:ZC} {o:Nat},lk (N++M) o=(lk N o).or (lk M o)
 | [],M,o=>by simp[lk]
 | p::N,M,o=>by
  rw[lC,lk,lk];by_cases c:p.1=o
  ·rw[if_pos c,if_pos c];rfl
  ·rw[if_neg c,if_neg c,N4]
theorem IG:GoodN []:=fun o x h=>by simp[lk]at h
theorem UL(s:B8):s.countP EZ<=s.countP Ce:=by
 refine List.countP_mono_left (fun b _ h=>?_);unfold EZ at h;unfold Ce;simp at h ⊢;omega
theorem NdOk.kid{y:Nd}(h:NdOk y)(hl:(leastB y.h:Int)<=y.mea.b){a:Nat}(ha:J8 a):KidOk y.h ⟨a,y.mea⟩:=by
 rcases h with h|⟨n,ks,h⟩
 ·have hm:y.mea=YZ y.text:=by unfold Nd.mea;rw[if_pos h.h]
  have h1:=h.hi;have h2:=UL y.text;have h3:=List.countP_le_length (p:=Ce) (l:=y.text);refine⟨ha,hl,?_,?_,?_,?_,?_⟩;all_goals simp only[hm,YZ,h.h,mostB]
  all_goals omega
 ·have e:=h.eq
  subst e;have hms:Nd.mea ⟨n+1,[],some ks⟩=Zy (ks.map Kid.m):=rfl;have hs:=h.sum;have hhi:=h.hi;have hk:=h.kid;have key:∀(l:List Kid),(∀k∈l,KidOk n k)->(Zy (l.map Kid.m)).b<=l.length*(mostB n:Int)/\0<=(Zy (l.map Kid.m)).r/\(Zy (l.map Kid.m)).r<=(Zy (l.map Kid.m)).b/\0<=(Zy (l.map Kid.m)).l/\(Zy (l.map Kid.m)).l<=(Zy (l.map Kid.m)).r:=by
   intro l;induction l with
   | nil=>intro _;simp[Zy,Mea.zero]
   | cons k l ih =>
    intro hk;obtain⟨i1,i2,i3,i4,i5⟩:=ih (fun k hk'=>hk k (by simp[hk']));have hk1:=hk k (by simp);have a1:=hk1.hi;have a2:=hk1.r0;have a3:=hk1.rb;have a4:=hk1.l0;have a5:=hk1.lr;simp only[jC,Zy,Mea.add,List.length_cons];have:((l.length+1:Nat):Int)*(mostB n:Int)=l.length*(mostB n:Int)+mostB n:=by
     rw[Int.natCast_add,Int.add_mul];simp
    refine⟨?_,?_,?_,?_,?_⟩<;>omega
  obtain⟨k1,k2,k3,k4,k5⟩:=key ks hk;have h4:(ks.length:Int)*(mostB n:Int)<=4*(mostB n:Int):=Int.mul_le_mul_of_nonneg_right (by omega) (by omega);have hm:=Hw n;refine⟨ha,hl,?_,?_,?_,?_,?_⟩;all_goals simp only[hms,mostB]
  all_goals omega
def arK(lv b:Nat):List (Nat × Nat):=[(lv,b),(lv,b+1),(lv,b+2),(lv,b+3),(lv,b+4),(lv,b+5)]
def arB(lv b:Nat)(r:AR):List Blk:=[r.b0,r.b1,r.b2,r.b3 lv b,r.b4,r.b5 lv b]
def QG(st:St)(lv b:Nat)(r:AR):St:=Qo st (arK lv b) (arB lv b r)
theorem DW(lv b:Nat):(arK lv b).Nodup:=by simp[arK]
section
variable {st:St}{lv b:Nat}{r:AR}
theorem Has.cl(h:Has st lv b r):Cl st (arK lv b) (arB lv b r):=by
 refine⟨DW lv b,rfl,fun k hk=>?_,fun j l i c h1 h2=>?_⟩
 ·simp only[arK,List.mem_cons,List.not_mem_nil,or_false]at hk
  rcases hk with rfl|rfl|rfl|rfl|rfl|rfl<;>exact h.wr
 ·match j,h1,h2 with
  | 0,h1,h2=>obtain⟨rfl,rfl⟩:=Prod.mk.inj (Option.some.inj h1);obtain rfl:=Option.some.inj h2;exact h.h0
  | 1,h1,h2=>obtain⟨rfl,rfl⟩:=Prod.mk.inj (Option.some.inj h1);obtain rfl:=Option.some.inj h2;exact h.h1
  | 2,h1,h2=>obtain⟨rfl,rfl⟩:=Prod.mk.inj (Option.some.inj h1);obtain rfl:=Option.some.inj h2;exact h.h2
  | 3,h1,h2=>obtain⟨rfl,rfl⟩:=Prod.mk.inj (Option.some.inj h1);obtain rfl:=Option.some.inj h2;exact h.h3
  | 4,h1,h2=>obtain⟨rfl,rfl⟩:=Prod.mk.inj (Option.some.inj h1);obtain rfl:=Option.some.inj h2;exact h.h4
  | 5,h1,h2=>obtain⟨rfl,rfl⟩:=Prod.mk.inj (Option.some.inj h1);obtain rfl:=Option.some.inj h2;exact h.h5
  | n+6,h1,h2=>simp[arK]at h1
theorem Has.of_cl(h:Cl st (arK lv b) (arB lv b r)):Has st lv b r :=
 ⟨h.wr (lv,b) (by simp[arK]),h.get 0 _ _ _ rfl rfl,h.get 1 _ _ _ rfl rfl,h.get 2 _ _ _ rfl rfl,h.get 3 _ _ _ rfl rfl,h.get 4 _ _ _ rfl rfl,h.get 5 _ _ _ rfl rfl⟩
theorem Has.same(h:Has st lv b r):QG st lv b r=st:=h.cl.same
theorem Has.put(h:Has st lv b r)(r':AR):Has (QG st lv b r') lv b r':=.of_cl (h.cl.put rfl rfl)
theorem N5{r1 r2:AR}:QG (QG st lv b r1) lv b r2=QG st lv b r2:=TH (DW lv b) rfl rfl
theorem Has.out(h:Has st lv b r)(r':AR){l i:Nat}(hn:¬ (l=lv/\b<=i/\i<=b+5)):(QG st lv b r').get l i=st.get l i:=by
 refine h.cl.out Y Y (fun q=>hn ?_);simp only[arK,List.mem_cons,jP,List.not_mem_nil,or_false]at q;omega
theorem CB(r':AR):(QG st lv b r').A.length=st.A.length:=DN _ _ _
theorem Has.le(h:Has st lv b r):lv<=st.A.length:=St.get_le h.h5
theorem Has.push(h:Has st lv b r){L:List Blk}(hA:A=st.ps):Has ⟨A,ro,L⟩ lv b r:=.of_cl (h.cl.push hA)
theorem Cm{L:List Blk}(hA:A=st.ps)(hl:lv<=st.A.length){r':AR}:QG ⟨A,ro,L⟩ lv b r'=⟨(QG st lv b r').ps,ro,L⟩:=by
 refine TI hA (fun k hk=>?_);simp only[arK,List.mem_cons,List.not_mem_nil,or_false]at hk;rcases hk with rfl|rfl|rfl|rfl|rfl|rfl<;>exact hl
theorem ZlI(h:Has st lv b r)(s g:Nat)(x:Nd):Ck st lv b r s g x=QG st lv b (r.alloc s g x):=by
 have e:∀X Y',Ck X lv b r s g x=Y'->X=st->Ck st lv b r s g x=Y':=fun X Y' h1 h2=>by rw[<- h2];exact h1
 refine e (QG st lv b r) _ ?_ h.same;unfold Ck Qi QG;rw[Bn (j:=3) (DW lv b) rfl rfl,Bn (j:=0) (DW lv b) rfl rfl,Bn (j:=4) (DW lv b) rfl rfl,Bn (j:=5) (DW lv b) rfl rfl];rfl
end
theorem QY{k:List Fr}{keep:List Nat}{is:List PI}{α:Type}{f:α->AV}{l:List α}{i:Opd}{n:Int}{a:α}(hx:ZL e x=some (.lit (l.map f)))(hi:ZL e i=some (.int .i64 n))(ha:0<=n/\l[n.toNat]?=some a)(hw:∀a,(f a).wide=some w)
 (h:Is O is keep k Q ((d,.lptr (f a) 0)::e) st):Is O (⟨some d,none,false,.ixS w x i⟩::is) keep k Q e st:=by
 have hlt:=(List.getElem?_eq_some_iff.1 ha.2).1;refine Jy hx hi (by omega) hw (fun b hb=>?_);rw[ha.2]at hb;rw[<- Option.some.inj hb];exact h
theorem Znk{lv b:Nat}{r:AR}(h:Has st lv b r){k s:Nat}(hc:CanTake r k s g)(n:Nat)(ks:List Kid)(hx:NdOk ⟨n+1,[],some ks⟩)(hL:Zph r.nodes n ks):
 S Tb Ja [.ptr lv (b+5) 0 0 0,Nd.av ⟨n+1,[],some ks⟩] st=some (.tup [.int .u64 ((g*65536+s:Nat):Int),.int .i64 0],Ck st lv b r s g ⟨n+1,[],some ks⟩):=by
 refine AS Y (fun A hA=>?_);have hN:=fun st=>Nf ⟨n+1,[],some ks⟩ hx st
 have hk4:ks.length<=4:=hx.len;have hn15:n<=15:=by
  rcases hx with hl|⟨m,l,hi⟩
  ·have:=hl.h;simp at this
  ·have h1:=hi.n15
   have h2:=congrArg Nd.h hi.eq;simp only at h2;omega
 simp only[Nd.av,slV]at hN ⊢;have g5:=fun L=>ZD hA (ro:=false) (L:=L) h.h5
 have g4:=fun L=>ZD hA (ro:=false) (L:=L) h.h4
 unfold AR.b5 at g5;unfold AR.b4 at g4;repeat'(first|refine ruS Y ?_|refine isS Y ?_|refine ZE Y Y Y Y ?_|refine ZO ?_|refine Z5 Y ?_|refine cm0 Y Y Y ?_ ?_|(intro _;try omega)|refine Qc Y Y Y Y ?_|refine ZX Y Y Y ?_|refine ZA Y Y Y (hN _) ?_)
 all_goals try omega
 have hle:=St.get_le h.h3;refine Ze (α:=Nat × List Blk) (fun p=>[(0,.ptr lv (b+5) 0 0 0),(3,.ptr A.length 0 0 0 0),(23,.lit (ks.map Kid.av)),(24,.int .i64 ks.length),(25,.int .i64 p.1)]) (fun p=>⟨A,false,.arr 3 0 [.agg [.int .i64 ((n+1:Nat):Int),.str [],.lit (ks.map Kid.av)]]::p.2⟩) (fun p=>p.1<=ks.length) (fun p=>ks.length-p.1) (0,[]) Y Y (by simp) ?_;rintro⟨i,G⟩ hi;simp only at hi ⊢;rcases Nat.lt_or_ge i ks.length with hlt|hge
 ·obtain⟨kd,hk'⟩:∃k,ks[i]?=some k:=⟨ks[i]'(by omega),by simp[hlt]⟩
  obtain⟨y,y1,y2,y3,y4⟩:=hL kd (jM hk');have hlk:=fun L z=>TP (g4 L) y1 z
  have hMe:=fun st=>Ng y y2 st
  have hk1:0<=((i:Nat):Int)/\ks[((i:Nat):Int).toNat]?=some kd:=⟨by omega,by rw[show ((i:Nat):Int).toNat=i by omega];exact hk'⟩
  rw[y4]at hMe;obtain⟨yh,yt,yk⟩:=y;simp only at y3;subst y3;cases yk;all_goals simp only[Nd.av,slV,Mea.av]at *
  all_goals repeat'(first|refine QY Y Y hk1 (fun _=>rfl) ?_|refine ruS Y ?_|refine isS Y ?_|refine ZE Y Y Y Y ?_|refine rkS Y ?_|refine QU Y Y Y ?_|refine Zx Y Y ?_|refine cm0 Y Y Y ?_ ?_|(intro _;try omega)|refine ZV Y Y (by omega) ?_|refine YH Y Y (by omega) ?_|refine Zi Y Y Y ?_|refine Jr Y Y Y Y Y Y ?_|refine Zk Y (g5 _) Y Y ?_|refine YI Y Y (hlk _ _) ?_|refine ZA Y Y Y (hMe _) ?_|refine ZuU Y Y Y ?_|refine ZuV Y Y Y ?_|(refine EM Y Y (Hu _ _ _ _ _ _) (fun _=>?_) (fun _=>?_)))
  all_goals try omega
  all_goals first|exact⟨(i+1,G++[_]++[_]++[_]),⟨rfl,rfl⟩,by simp only;omega,by simp only;omega⟩|exact absurd ⟨rfl,rfl,rfl⟩ ‹_›
 ·obtain rfl:i=ks.length:=by omega
  have hTk:=fun L=>Tw (st:=⟨A,false,L⟩) ⟨Yj hA hle h.wr,ZD hA h.h0,ZD hA h.h1,ZD hA h.h2,ZD hA h.h3,ZD hA h.h4,ZD hA h.h5⟩ hc.n hc.blk hc.st hc.s16 hc.gen ⟨hc.g1,hc.g2⟩ hc.big
  repeat'(first|refine ruS Y ?_|refine isS Y ?_|refine rkS Y ?_|refine cm0 Y Y Y ?_ ?_|(intro _;try omega)|refine Zk Y (g5 _) Y Y ?_)
  all_goals try omega
  refine ZA Y Y Y (hTk _) ?_;rw[T6 hA hle];obtain⟨A1,hA1⟩:∃A1,A1=(Qi st lv b r s).A++[((Qi st lv b r s).ro,(Qi st lv b r s).L)]:=⟨_,rfl⟩;rw[<- hA1];have hlen:A.length=A1.length:=by rw[hA,hA1,lL,lL,T7];rfl
  rw[hlen];refine A6 Y ?_;refine Fb Y Y ?_;refine Fb Y Y ?_;refine A6 Y ?_;refine A6 Y ?_;refine Jg Y ?_;refine ZO ?_;refine FX ?_;refine FX ?_;refine Qv ?_;refine A6 Y ?_;refine ZU Y Y (fun q=>absurd Y q) (fun _=>?_);refine Jg Y ?_;refine ZO ?_;refine Ku Y ?_;refine HI ?_;refine ZO ?_;have:=T8 h hc ⟨n+1,[],some ks⟩ (.lit (ks.map Kid.av)) rfl A1 G hA1 (fun L=>Nh ks (by omega) _);exact this
structure AROk(r:AR):Prop where
 nb:r.n<=r.blk.length
 n16:r.states.length<=16384
 nn:r.n<=r.states.length
 gl:r.gens.length=r.states.length
 stk:∀i,i<r.n->∃s:Nat,r.blk[i]?=some (s:Int)/\s<r.states.length/\r.states[s]?=some 0
 nd:∀i j,i<r.n->j<r.n->r.blk[i]?=r.blk[j]?->i=j
 gen:∀s,s<r.states.length->∃g:Nat,r.gens[s]?=some (g:Int)/\1<=g/\(g:Int)<=r.most
 most:r.most<=4294967295
 key:∀h x,lk r.nodes h=some x->∃s g:Nat,h=g*65536+s/\s<r.states.length/\r.states[s]?=some 1/\r.gens[s]?=some (g:Int)
 al:0<=r.allocs/\r.allocs+r.n<=r.frees+r.slots
 fr:0<=r.frees/\r.frees<=900000
 sl:r.slots<=16384
def AR.slot(r:AR):Nat:=((r.blk[r.n-1]?).getD 0).toNat
def AR.gen1(r:AR):Nat:=((r.gens[r.slot]?).getD 0).toNat
def AR.next(r:AR):Nat:=r.gen1*65536+r.slot
def AR.add(r:AR)(x:Nd):AR:=r.alloc r.slot r.gen1 x
theorem AROk.top{r:AR}(h:AROk r)(hn:0<r.n):r.blk[r.n-1]?=some (r.slot:Int)/\r.slot<r.states.length/\r.states[r.slot]?=some 0/\r.gens[r.slot]?=some (r.gen1:Int)/\1<=r.gen1/\(r.gen1:Int)<=r.most:=by
 obtain⟨s,h1,h2,h3⟩:=h.stk (r.n-1) (by omega);have e1:r.slot=s:=by unfold AR.slot;rw[h1];simp
 obtain⟨g,g1,g2,g3⟩:=h.gen s h2;have e2:r.gen1=g:=by unfold AR.gen1;rw[e1,g1];simp
 rw[e2,e1];exact⟨h1,h2,h3,g1,g2,g3⟩
theorem AROk.can{r:AR}(h:AROk r)(hn:0<r.n):CanTake r (r.n-1) r.slot r.gen1:=by
 obtain⟨h1,h2,h3,h4,h5,h6⟩:=h.top hn;have:=h.n16;have:=h.nn;have:=h.most;have:=h.al;have:=h.fr;have:=h.sl;refine⟨by omega,h1,h2,by omega,h4,h5,by omega,by omega,?_,by omega⟩;cases hk:lk r.nodes (r.gen1*65536+r.slot) with
 | none=>rfl
 | some x =>
  obtain⟨s,g,k1,k2,k3,k4⟩:=h.key _ _ hk;have:s=r.slot:=by omega
  subst this;rw[h3]at k3;simp at k3
theorem AROk.add{r:AR}(h:AROk r)(hn:0<r.n)(x:Nd):AROk (r.add x):=by
 obtain⟨h1,h2,h3,h4,h5,h6⟩:=h.top hn;have e1:(r.add x).n=r.n-1:=rfl;have e2:(r.add x).states=r.states.set r.slot 1:=rfl;have e3:(r.add x).nodes=r.nodes++[(r.gen1*65536+r.slot,x.copy)]:=rfl;have e4:(r.add x).blk=r.blk:=rfl;have e5:(r.add x).gens=r.gens:=rfl;have e6:(r.add x).most=r.most:=rfl;have e7:(r.add x).allocs=r.allocs+1:=rfl;have e8:(r.add x).frees=r.frees:=rfl;have e9:(r.add x).slots=r.slots:=rfl;have hne:∀i,i<r.n-1->r.blk[i]?≠some (r.slot:Int):=fun i hi q=>by
  have:=h.nd i (r.n-1) (by omega) (by omega) (by rw[q,h1]);omega
 refine⟨by rw[e1,e4];have:=h.nb;omega,by rw[e2,List.length_set];exact h.n16,by rw[e1,e2,List.length_set];have:=h.nn;omega,by rw[e5,e2,List.length_set];exact h.gl,?_,?_,?_,by rw[e6];exact h.most,?_,by rw[e7,e1,e8,e9];have:=h.al;omega,by rw[e8];exact h.fr,by rw[e9];exact h.sl⟩
 ·intro i hi
  rw[e1]at hi;obtain⟨s,k1,k2,k3⟩:=h.stk i (by omega);have:s≠r.slot:=fun q=>hne i hi (by rw[k1,q])
  exact⟨s,k1,by rw[e2,List.length_set];exact k2,by rw[e2,jS (fun q=>this q.symm)];exact k3⟩
 ·intro i j hi hj hij
  rw[e1]at hi hj;exact h.nd i j (by omega) (by omega) hij
 ·intro s hs
  rw[e2,List.length_set]at hs;exact h.gen s hs
 ·intro a y hy
  rw[e3,N4]at hy;cases hk:lk r.nodes a with
  | some z =>
   obtain⟨s,g,k1,k2,k3,k4⟩:=h.key a z hk;have:s≠r.slot:=fun q=>by subst q;rw[h3]at k3;simp at k3
   exact⟨s,g,k1,by rw[e2,List.length_set];exact k2,by rw[e2,jS (fun q=>this q.symm)];exact k3,by rw[e5];exact k4⟩
  | none =>
   rw[hk]at hy;simp only[Option.none_or,lk]at hy;split at hy
   ·rename_i q
    exact⟨r.slot,r.gen1,q.symm,by rw[e2,List.length_set];exact h2,by rw[e2,List.getElem?_set_self h2],by rw[e5];exact h4⟩
   ·simp at hy
theorem AROk.new{r:AR}(h:AROk r)(hn:0<r.n):lk r.nodes r.next=none:=(h.can hn).new
theorem CC{r:AR}(h:AROk r)(hn:0<r.n)(x:Nd)(o:Nat):lk (r.add x).nodes o=if o=r.next then some x.copy else lk r.nodes o:=by
 have e3:(r.add x).nodes=r.nodes++[(r.next,x.copy)]:=rfl;rw[e3,N4];by_cases q:o=r.next
 ·rw[if_pos q,q,h.new hn];simp[lk]
 ·rw[if_neg q]
  cases lk r.nodes o with
  | some y=>rfl
  | none=>simp only[Option.none_or,lk];rw[if_neg (fun w=>q w.symm)]
theorem Zp1{lv b:Nat}{r:AR}(h:Has st lv b r)(ho:AROk r)(hn:0<r.n){x:Nd}(hx:NdOk x)(hxk:x.h=0->x.kids=none)(hL:∀k∈x.ks,∃y,lk r.nodes k.at_=some y/\NdOk y/\y.h+1=x.h/\y.mea=k.m):
 S Tb Ja [.ptr lv (b+5) 0 0 0,x.av] st=some (.tup [.int .u64 r.next,.int .i64 0],QG st lv b (r.add x)):=by
 have hc:=ho.can hn;unfold AR.add AR.next;rw[<- ZlI h];rcases hx with hl|⟨n,ks,hi⟩
 ·obtain⟨xh,xt,xk⟩:=x
  have hh:xh=0:=hl.h;subst hh;have:=hxk rfl;simp only at this;subst this;exact ZlH h hc xt ⟨hl.lo,hl.hi⟩
 ·have e:=hi.eq
  subst e;refine Znk h hc n ks (.inr ⟨n,ks,hi⟩) (fun k hk=>?_);obtain⟨y,y1,y2,y3,y4⟩:=hL k hk;exact⟨y,y1,y2,by simpa using y3,y4⟩
end Go.Q15
namespace Go.QAbs
variable {td v v' vx z:AV}{agg ro:Bool}{e:Env}{f:FuncId}{Q:JD}{A:List (Bool × List Blk)}{cls es ys:LV}{L':List Blk}{d g ib ip ix jb jx n ob pl px vb ver w:Nat}{a x:Opd}{O:Orc}{st:St}
theorem Yf:∀l:List Blk,YC l=some l
 | []=>rfl
 | b::l=>by rw[YC,Yf l]
theorem UM:∀l:LV,ZG l=some l
 | []=>rfl
 | b::l=>by rw[ZG,UM l]
theorem Znl{k:IntKind}{α:Type}(f:α->Int)(l:List α):Qy 1 (l.map fun a=>AV.int k (f a))=true:=by
 induction l with
 | nil=>rfl
 | cons b s ih=>rw[jC,Qy,List.all_cons];exact Bool.and_eq_true_iff.2 ⟨rfl,ih⟩
theorem N6{k:IntKind}{α:Type}(f:α->Int)(n b:Nat)(st:St)(l:List α):mapSt (ZI (n+1) b) st (l.map fun a=>AV.int k (f a))=some (l.map fun a=>AV.int k (f a),st):=by
 induction l with
 | nil=>rfl
 | cons x s ih =>
  rw[jC,mapSt];show ((some (AV.int k (f x),st)).bind fun r=>(mapSt (ZI (n+1) b) r.2 (s.map fun a=>AV.int k (f a))).bind (Y3 r.1))=_
  rw[oS,ih];rfl
section
variable {O:Orc}{k:List Fr}{Q:JD}{e:Env}{A:List (Bool × List Blk)}{L:List Blk}{keep:List Nat}{is:List PI}{d:Nat}
theorem BL{bytes:Nat}{s:Opd}(hs:ZL e s=some (.ref A.length ix ver 0 n))(hx:ZL e x=some (.lit ys))(hg:L[ix]?=some (Blk.arr w ver es))(hn:n=es.length)(hw:Qy w ys=true)
 (hm:mapSt (ZI Zs (A.length+1)) ⟨A,false,L⟩ ys=some (ys,⟨A,false,L⟩)) (hl:es.length+ys.length<4294967296) (hb:bytes<=4096)
 (h:Is O is keep k Q ((d,.ref A.length ix (ver+1) 0 (n+ys.length))::e) ⟨A,false,L.set ix (.arr w (ver+1) (es++ys))⟩):Is O (⟨some d,none,false,.app w bytes s x⟩::is) keep k Q e ⟨A,false,L⟩ :=
 HO hs hx hg rfl hn hl hb hw hm (Yf _) h
theorem UN{bytes:Nat}{s:Opd}{vj:Nat}(hs:ZL e s=some (.ref A.length ix ver 0 n))(hx:ZL e x=some (.ref A.length jx vj 0 ys.length))(hj:L[jx]?=some (Blk.arr w vj ys))(hg:L[ix]?=some (Blk.arr w ver es))(hn:n=es.length)(hw:Qy w ys=true)
 (hm:mapSt (ZI Zs (A.length+1)) ⟨A,false,L⟩ ys=some (ys,⟨A,false,L⟩)) (hl:es.length+ys.length<4294967296) (hb:bytes<=4096)
 (h:Is O is keep k Q ((d,.ref A.length ix (ver+1) 0 (n+ys.length))::e) ⟨A,false,L.set ix (.arr w (ver+1) (es++ys))⟩):Is O (⟨some d,none,false,.app w bytes s x⟩::is) keep k Q e ⟨A,false,L⟩:=by
 refine HO (ys:=ys) hs hx hg ?_ hn hl hb hw hm (Yf _) h;simp only[elems,St.get_cur,hj,vis,AG,true_and,Nat.zero_add,Nat.le_refl,if_true,List.drop_zero,List.take_length]
theorem Zs8{t:Opd}(ht:ZL e t=some (.ref A.length ix ver 0 n))(hx:ZL e x=some vx)(hy:elems ⟨A,false,L⟩ vx=some ys)(hg:L[ix]?=some (Blk.arr w ver es))(hn:n=es.length)(hl:ys.length=n)(hw:Qy w ys=true)
 (hm:mapSt (ZI Zs (A.length+1)) ⟨A,false,L⟩ ys=some (ys,⟨A,false,L⟩))
 (h:Is O is keep k Q ((d,.int .i64 ys.length)::e) ⟨A,false,L.set ix (.arr w ver ys)⟩):Is O (⟨some d,none,false,.cpy w t x⟩::is) keep k Q e ⟨A,false,L⟩:=by
 have hlt:ix<L.length:=(List.getElem?_eq_some_iff.1 hg).1;refine Zm (v:=.int .i64 ys.length) (st':=⟨A,false,L.set ix (.arr w ver ys)⟩) ?_ h;have e1:es.take 0++ys++es.drop (0+ys.length)=ys:=by rw[List.drop_of_length_le (by omega)];simp
 simp only[ZW,evalPO,ZB ht,ZB hx,hy,oS,Cz,hw,if_true,hm,St.get_cur,hg,vis,Bw,true_and,if_pos (show 0+n<=es.length/\ys.length<=n by omega),e1];simp only[St.put,if_true,jB,if_false,if_pos hlt,oS]
theorem IH{lv:Nat}{es:List (AV × AV)}(hx:ZL e x=some (.map lv ix))(hg:st.get lv ix=some (.map es))(h:Is O is keep k Q ((d,.int .i64 es.length)::e) st):Is O (⟨some d,none,false,.len 2 x⟩::is) keep k Q e st:=by
 refine Zm (v:=.int .i64 es.length) (st':=st) ?_ h;simp only[ZW,evalPO,ZB hx,lenOf,hg,E3,oS]
end
end Go.QAbs
namespace Go.Q15
open Go Go.QAbs
variable {td v v' vx z:AV}{agg ro:Bool}{e:Env}{f:FuncId}{Q:JD}{A:List (Bool × List Blk)}{cls es ys:LV}{L':List Blk}{d g ib ip ix jb jx n ob pl px vb ver w:Nat}{a x:Opd}{O:Orc}{st:St}{t:Tr}
theorem Zp2(h:Nat)(hh:J8 h)(st:St):S Tb Hh [.int .u64 h] st=some (.tup [.int .i64 ((h % 65536:Nat):Int),.int .i64 0],st):=by
 refine Zv Y (fun A hA=>?_);repeat'(first|refine ruS Y ?_|refine isS Y ?_|refine rkS Y ?_|refine cm0 Y Y Y ?_ ?_|(intro _;try omega)|refine ZA Y Y Y (Nb h hh _) ?_|refine ZA Y Y Y (Hv h (by omega) _) ?_)
 all_goals refine ZQ hA (by simp) Y Y Y Y ?_
 all_goals rfl
theorem Zp3(h:Nat)(h64:h<18446744073709551616)(hh:¬ J8 h)(st:St):S Tb Hh [.int .u64 h] st=some (.tup [.int .i64 0,.int .i64 2],st):=by
 refine Zv Y (fun A hA=>?_);repeat'(first|refine ruS Y ?_|refine isS Y ?_|refine rkS Y ?_|refine cm0 Y Y Y ?_ ?_|(intro _;try omega)|refine ZA Y Y Y (ZnU h h64 hh _) ?_)
 all_goals refine ZQ hA (by simp) Y Y Y Y ?_
 all_goals rfl
theorem Zs9(h:Nat)(hh:J8 h)(st:St):S Tb LN [.int .u64 h] st=some (.tup [.int .u64 ((h / 65536:Nat):Int),.int .i64 0],st):=by
 refine Zv Y (fun A hA=>?_);repeat'(first|refine ruS Y ?_|refine isS Y ?_|refine rkS Y ?_|refine cm0 Y Y Y ?_ ?_|(intro _;try omega)|refine ZA Y Y Y (Nb h hh _) ?_|refine ZA Y Y Y (Hv h (by omega) _) ?_)
 all_goals refine ZQ hA (by simp) Y Y Y Y ?_
 all_goals rfl
structure HasR(st:St)(lv b:Nat)(r:AR):Prop where
 h0:st.get lv b=some r.b0
 h1:st.get lv (b+1)=some r.b1
 h2:st.get lv (b+2)=some r.b2
 h3:st.get lv (b+3)=some (r.b3 lv b)
 h4:st.get lv (b+4)=some r.b4
 h5:st.get lv (b+5)=some (r.b5 lv b)
theorem Has.r{lv b:Nat}{r:AR}(h:Has st lv b r):HasR st lv b r:=⟨h.h0,h.h1,h.h2,h.h3,h.h4,h.h5⟩
theorem HasR.push{lv b:Nat}{r:AR}{L:List Blk}(hA:A=st.A++[(st.ro,st.L)])(h:HasR st lv b r):HasR ⟨A,ro,L⟩ lv b r :=
 ⟨ZD hA h.h0,ZD hA h.h1,ZD hA h.h2,ZD hA h.h3,ZD hA h.h4,ZD hA h.h5⟩
theorem HasR.allRo{lv b:Nat}{r:AR}(h:HasR st lv b r):HasR st.allRo lv b r :=
 ⟨by rw[Jl];exact h.h0,by rw[Jl];exact h.h1,by rw[Jl];exact h.h2,by rw[Jl];exact h.h3,by rw[Jl];exact h.h4,by rw[Jl];exact h.h5⟩
theorem HasR.rd{lv b:Nat}{r:AR}(h:HasR st lv b r):Rd st lv (b+5) r.nodes:=⟨_,_,_,_,_,_,h.h5,h.h4⟩
theorem UO{i:Nat}(f:Nat->AV)(v:AV):((List.range n).map f).set i v=(List.range n).map fun j=>if j=i then v else f j:=by
 apply List.ext_getElem
 ·simp
 ·intro j hj hj'
  simp only[List.getElem_set,List.getElem_map,List.getElem_range];by_cases q:i=j
  ·subst q;simp
  ·rw[if_neg q,if_neg (fun w=>q w.symm)]
theorem UP{k:Nat}(f:Nat->AV)(h:k<n):((List.range n).map f)[0+((k:Nat):Int).toNat]?=some (f k):=by
 rw[show 0+((k:Nat):Int).toNat=k by omega];simp[h]
def Ac(l:List Int)(i k:Nat):Int:=if k<i\/l.length<k+i+1 then (l[l.length-1-k]?).getD 0 else (l[k]?).getD 0
theorem ZuY(l:List Int):(List.range l.length).map (fun k=>AV.int .i64 (Ac l 0 k))=l.map (.int .i64):=by
 apply List.ext_getElem
 ·simp
 ·intro k h1 h2
  simp only[List.length_map,List.length_range]at h1;simp only[List.getElem_map,List.getElem_range,Ac,Nat.not_lt_zero,false_or];rw[if_neg (by omega),jE h1];rfl
theorem ZuZ(l:List Int){i:Nat}(h:l.length<=2*i+1):(List.range l.length).map (fun k=>AV.int .i64 (Ac l i k))=l.reverse.map (.int .i64):=by
 apply List.ext_getElem
 ·simp
 ·intro k h1 h2
  simp only[List.length_map,List.length_range]at h1;simp only[List.getElem_map,List.getElem_range,Ac,List.getElem_reverse];split
  ·rw[jE (by omega)];rfl
  ·have:l.length-1-k=k:=by omega
   rw[jE h1];simp only[this,Option.getD_some]
theorem Znm(l:List Int){i:Nat}(h:2*i+1<l.length):
 (((List.range l.length).map (fun k=>AV.int .i64 (Ac l i k))).set i (.int .i64 (Ac l i (l.length-1-i)))).set (l.length-1-i) (.int .i64 (Ac l i i))=(List.range l.length).map (fun k=>AV.int .i64 (Ac l (i+1) k)):=by
 rw[UO,UO];apply List.map_congr_left;intro k hk;rw[List.mem_range]at hk;by_cases q:k=l.length-1-i
 ·rw[if_pos q]
  simp only[Ac];rw[if_neg (by omega),if_pos (by omega),q];rw[show l.length-1-(l.length-1-i)=i by omega]
 ·rw[if_neg q]
  by_cases q2:k=i
  ·rw[if_pos q2]
   simp only[Ac];rw[if_neg (by omega),if_pos (by omega),q2]
  ·rw[if_neg q2]
   simp only[Ac];by_cases q3:k<i\/l.length<k+i+1
   ·rw[if_pos q3,if_pos (by omega)]
   ·rw[if_neg q3,if_neg (by omega)]
def AR.free(r:AR):List Int:=(r.blk.take r.n).reverse
theorem AR.free_len{r:AR}(h:r.n<=r.blk.length):r.free.length=r.n:=by simp[AR.free];omega
theorem UQ{lv b:Nat}{r:AR}(h:HasR st lv b r)(hn:r.n<=r.blk.length)(hb:r.n<65536):S Tb J4 [.ptr lv (b+3) 0 0 0] st=some (.lit (r.free.map (.int .i64)),st):=by
 refine Zv Y (fun A hA=>?_);have g3:=fun L=>ZD hA (ro:=false) (L:=L) h.h3
 have g1:=fun L=>ZD hA (ro:=false) (L:=L) h.h1
 unfold AR.b3 at g3;unfold AR.b1 at g1;have hl:(r.blk.take r.n).length=r.n:=by simp;omega
 have hel:∀L,elems ⟨A,false,L⟩ (.ref lv (b+1) r.ver 0 r.n)=some ((r.blk.take r.n).map (.int .i64)):=fun L=>by
  simp only[elems,g1,AG,true_and,Nat.zero_add,List.length_map,if_pos hn,List.drop_zero,List.map_take]
 unfold AR.free;generalize hz:r.blk.take r.n=l at *;repeat'(first|refine ruS Y ?_|refine isS Y ?_|refine ZO ?_|refine Z6 Y ?_|refine YH Y Y (by omega) ?_|refine Qc Y Y Y Y ?_|refine K3 Y Y (by omega) (by decide) Y ?_|refine Zk Y (g3 _) Y Y ?_|refine Zs8 (ys:=l.map (.int .i64)) Y Y (hel _) Y (by simp) (by simp[hl]) (Znl _ _) (N6 _ _ _ _ _) ?_)
 refine Ze (α:=Nat) (fun i=>[(3,.ref A.length 0 0 0 r.n),(4,.int .i64 i),(5,.int .i64 ((l.length:Int)-1-i))]) (fun i=>⟨A,false,[.arr 1 0 ((List.range l.length).map fun k=>AV.int .i64 (Ac l i k))]⟩) (fun i=>2*i<=l.length+1) (fun i=>l.length+1-2*i) 0 ?_ ?_ (by simp) ?_
 ·simp[hl]
 ·rw[ZuY];rfl
 intro i hi;replace hi:2*i<=l.length+1:=hi;rcases Nat.lt_or_ge (2*i+1) l.length with hlt|hge
 ·have hj:(l.length:Int)-1-i=((l.length-1-i:Nat):Int):=by omega
  have q1:=UP (n:=l.length) (k:=i) (fun k=>AV.int .i64 (Ac l i k)) (by omega);have q2:=UP (n:=l.length) (k:=l.length-1-i) (fun k=>AV.int .i64 (Ac l i k)) (by omega);have q3:(((List.range l.length).map (fun k=>AV.int .i64 (Ac l i k))).set (0+((i:Nat):Int).toNat) (.int .i64 (Ac l i (l.length-1-i))))[0+((l.length-1-i:Nat):Int).toNat]?=some (.int .i64 (Ac l i (l.length-1-i))):=by
   rw[jS (by omega)];exact q2
  rw[hj];repeat'(first|refine ruS Y ?_|refine isS Y ?_|refine rkS Y ?_|refine cm0 Y Y Y ?_ ?_|(intro _;try omega)|refine ZV Y Y (by omega) ?_|refine YH Y Y (by omega) ?_|refine Xl Y Y (by omega) Y ?_|refine ZE Y Y q2 Y ?_|refine ZE Y Y q1 Y ?_|refine Qn Y Y Y q1 Y Y ?_|refine Qn Y Y Y q3 Y Y ?_)
  refine⟨i+1,⟨?_,?_⟩,by omega,by omega⟩
  ·rw[show ((l.length-1-i:Nat):Int)-1=(l.length:Int)-1-((i+1:Nat):Int) by omega];rfl
  ·rw[<- Znm l hlt]
   rw[show 0+((i:Nat):Int).toNat=i by omega,show 0+((l.length-1-i:Nat):Int).toNat=l.length-1-i by omega];rfl
 ·repeat'(first|refine ruS Y ?_|refine isS Y ?_|refine rkS Y ?_|refine cm0 Y Y Y ?_ ?_|(intro _;try omega))
  all_goals try omega
  refine B5 (es:=l.reverse.map (.int .i64)) hA (.inr Y) Y (by rw[ZuZ l (by omega)];rfl) (by simp;omega) (by intro v hv;obtain⟨x,_,rfl⟩:=List.mem_map.1 hv;rfl) ?_;rfl
def Qr(l:List Int)(s:Int)(n:Nat):List Nat:=(List.range n).filter fun i=>l[i]? == some s
def Z2(l:List Int)(s:Int):List Nat:=Qr l s l.length
def CD(n:Nat):AV:=.int .i64 n
theorem F4(l:List Int)(s:Int)(n:Nat):Qr l s (n+1)=Qr l s n++if l[n]?=some s then [n] else []:=by
 rw[Qr,List.range_succ,List.filter_append,<- Qr]
 congr 1
 by_cases q:l[n]?=some s
 ·rw[if_pos q];simp[q]
 ·rw[if_neg q];simp[q]
theorem F5(l:List Int)(s:Int)(n:Nat):(Qr l s n).length<=n:=by
 have:=List.length_filter_le (fun i=>l[i]? == some s) (List.range n);rw[List.length_range]at this;exact this
theorem UR{lv b:Nat}{r:AR}(h:HasR st lv b r)(hb:r.states.length<=16384)(s:Int):S Tb Jv [.ptr lv (b+3) 0 0 0,.int .u8 s] st=some (.lit ((Z2 r.states s).map CD),st):=by
 refine Zv Y (fun A hA=>?_);have g3:=fun L=>ZD hA (ro:=false) (L:=L) h.h3
 have g0:=fun L=>ZD hA (ro:=false) (L:=L) h.h0
 unfold AR.b3 at g3;unfold AR.b0 at g0;have hwi:∀L,wIs 1 0 (St.get ⟨A,false,L⟩ lv b)=true:=fun L=>by rw[g0];rfl
 repeat'(first|refine ruS Y ?_|refine isS Y ?_|refine ZO ?_|refine Z6 Y ?_|refine Qc Y Y Y Y ?_|refine Xk Y ?_|refine Zk Y (g3 _) Y Y ?_)
 refine Ze (α:=Nat) (fun i=>[(1,.int .u8 s),(5,.ref A.length 0 (Qr r.states s i).length 0 (Qr r.states s i).length),(14,.ref lv b 0 0 r.states.length),(15,.int .i64 r.states.length),(16,.int .i64 i)]) (fun i=>⟨A,false,[.arr 1 (Qr r.states s i).length ((Qr r.states s i).map CD)]⟩) (fun i=>i<=r.states.length) (fun i=>r.states.length-i) 0 Y Y (by simp) ?_;intro i hi;replace hi:i<=r.states.length:=hi;rcases Nat.lt_or_ge i r.states.length with hlt|hge
 ·obtain⟨x,hx⟩:∃x,r.states[i]?=some x:=⟨r.states[i]'hlt,by simp[hlt]⟩
  have q1:(r.states.map (.int .u8))[0+((i:Nat):Int).toNat]?=some (AV.int .u8 x):=by
   rw[show 0+((i:Nat):Int).toNat=i by omega,jG,hx];rfl
  have hs:=F4 r.states s i;have hl:=F5 r.states s i;rw[hx]at hs;have hl2:((Qr r.states s i).map CD).length+[AV.int .i64 (i:Int)].length<4294967296:=by simp;omega
  have hl3:(Qr r.states s i).length=((Qr r.states s i).map CD).length:=by simp
  repeat'(first|refine BL Y Y Y hl3 Y Y hl2 (by decide) ?_|refine ruS Y ?_|refine isS Y ?_|refine rkS Y ?_|refine cm0 Y Y Y ?_ ?_|(intro _;try omega)|refine ZV Y Y (by omega) ?_|refine Z7 Y Y Y Y ?_|refine JH Y Y (by omega) (hwi _) ?_|refine Zk Y (g0 _) q1 Y ?_)
  ·rename_i e
   subst e;rw[if_pos rfl]at hs;refine⟨i+1,⟨?_,?_⟩,by omega,by omega⟩
   ·rw[hs,lL];rfl
   ·rw[hs,List.map_append,lL];rfl
  ·rename_i e
   rw[if_neg (by simpa using e),lN]at hs;exact⟨i+1,⟨by rw[hs];rfl,by rw[hs]⟩,by omega,by omega⟩
 ·obtain rfl:i=r.states.length:=by omega
  repeat'(first|refine ruS Y ?_|refine isS Y ?_|refine rkS Y ?_|refine cm0 Y Y Y ?_ ?_|(intro _;try omega))
  refine B5 (es:=(Z2 r.states s).map CD) hA (.inr Y) Y Y (by simp;rfl) (by intro v hv;obtain⟨x,_,rfl⟩:=List.mem_map.1 hv;rfl) ?_;rfl
theorem US{lv b:Nat}{r:AR}(h:HasR st lv b r)(hb:r.states.length<=16384):S Tb Q9 [.ptr lv (b+3) 0 0 0] st=some (.lit ((Z2 r.states 2).map CD),st):=by
 refine Zv Y (fun A hA=>?_);have hs:=fun L=>UR (h.push hA (ro:=false) (L:=L)) hb 2
 repeat'(first|refine ruS Y ?_|refine isS Y ?_|refine rkS Y ?_|refine ZA Y Y Y (hs _) ?_)
 refine ZQ hA (by simp) Y Y Y Y ?_;rfl
def AR.statsAV(r:AR):AV:=.agg [.int .i64 r.slots,.int .i64 r.n,.int .i64 r.nodes.length,.int .i64 (Z2 r.states 2).length,.int .i64 r.allocs,.int .i64 r.frees,.int .i64 r.stale]
theorem II{lv b:Nat}{r:AR}(h:HasR st lv b r)(hn:r.n<=r.blk.length)(hb:r.states.length<=16384)(h6:r.n<65536):S Tb YJ [.ptr lv (b+5) 0 0 0] st=some (r.statsAV,st):=by
 refine Zv Y (fun A hA=>?_);have g5:=fun L=>ZD hA (ro:=false) (L:=L) h.h5
 have g4:=fun L=>ZD hA (ro:=false) (L:=L) h.h4
 unfold AR.b5 at g5;unfold AR.b4 at g4;have hF:=fun L=>UQ (h.push hA (ro:=false) (L:=L)).allRo hn h6
 have hW:=fun L=>US (h.push hA (ro:=false) (L:=L)).allRo hb
 repeat'(first|refine ruS Y ?_|refine isS Y ?_|refine rkS Y ?_|refine Z5 Y ?_|refine Zf Y Y Y ?_|refine Qc Y Y Y Y ?_|refine ZX Y Y Y ?_|refine Zg Y Y Y Y Y Y ?_|refine Zk Y (g5 _) Y Y ?_|refine IH Y (g4 _) ?_|refine XV Y Y Y (hF _) ?_|refine XV Y Y Y (hW _) ?_)
 refine Xu hA (by simp) Y Y Y Y Y ?_;unfold AR.statsAV;have e2:(r.nodes.map nodeAV).length=r.nodes.length:=List.length_map ..
 rw[<- AR.free_len hn,<- e2]
end Go.Q15
namespace Go.QAbs
variable {td v v' vx z:AV}{agg ro:Bool}{e:Env}{f:FuncId}{Q:JD}{A:List (Bool × List Blk)}{cls es ys:LV}{L':List Blk}{d g ib ip ix jb jx n ob pl px vb ver w:Nat}{a x:Opd}{O:Orc}{st:St}
section
variable {O:Orc}{k:List Fr}{Q:JD}{e:Env}{A:List (Bool × List Blk)}{L:List Blk}{keep:List Nat}{is:List PI}{d:Nat}{st:St}
theorem ZtA{od:Option Nat}{op op':PO}(he:ZW O e st op=ZW O e st op')(h:Is O (⟨od,none,false,op'⟩::is) keep k Q e st):Is O (⟨od,none,false,op⟩::is) keep k Q e st:=by
 obtain⟨⟨e',st2,h1,h2⟩⟩:=h;refine⟨⟨e',st2,?_,h2⟩⟩;rw[C7]at h1 ⊢;have e1:Ql O e st ⟨od,none,false,op⟩=Ql O e st ⟨od,none,false,op'⟩:=by simp only[Ql,jB,if_false];exact he
 have e2:wantedV e none=some true:=rfl;simp only[e2,oS,Oz,e1]at h1 ⊢;exact h1
theorem UT{od:Option Nat}{bytes:Nat}{s b:Opd}{vs vb:AV}(hs:ZL e s=some vs)(hx:ZL e x=some vx)(hb:ZL e b=some vb)(hy:elems st vx=some ys)(ha:E9 vb vs=true)(hg:E7 vs (some ys)=true)
 (h:Is O (⟨od,none,false,.app w bytes s x⟩::is) keep k Q e st):Is O (⟨od,none,false,.w (.grow b) (.app w bytes s x)⟩::is) keep k Q e st:=by
 refine ZtA ?_ h;simp only[ZW,Zt,Dq,ZB hs,ZB hx,ZB hb,hy,ha,hg,and_self,if_true]
theorem Znn{b:Opd}{i o:Nat}{x:AV}(ha:ZL e a=some (.ptr A.length ix ver i o))(hb:ZL e b=some (.ptr A.length ix vb ib ob))
 (hg:L[ix]?=some (Blk.arr w ver es)) (hx:es[i]?=some x) (hv:Qs x agg o n=some v) (h:Is O is keep k Q ((d,v)::e) ⟨A,false,L⟩):Is O (⟨some d,none,false,.w (.only b) (.ld agg n a)⟩::is) keep k Q e ⟨A,false,L⟩:=by
 refine Zm (v:=v) (st':=⟨A,false,L⟩) ?_ h;have hgt:(St.hide (fun lv ix=>!AU lv ix (b.get e)) ⟨A,false,L⟩).get A.length ix=some (Blk.arr w ver es):=by
  rw[Bx,St.get_cur,hg,ZB hb];simp[AU,vis]
 simp only[ZW,Zt,PO.reads,if_true,evalPO,ZB ha,loadP,hgt,Ax,hx,hv,oS,QL,QF]
theorem UU{o:Opd}(ho:ZL e o=some v)(hw:v.wide=some w)(h:Is O is keep k Q ((d,.ref A.length L.length 0 0 1)::e) ⟨A,false,L++[Blk.arr w 0 [v]]⟩):Is O (⟨some d,none,false,.bslice true w [z] [(0,o)]⟩::is) keep k Q e ⟨A,false,L⟩:=by
 refine cq (qs:=[(0,v)]) (es:=[v]) (es':=[v]) ?_ ?_ (UM _) (Yf _) h
 ·simp only[DJ,ho]
 ·simp only[fillE,hw,List.length_singleton,true_and,Nat.lt_one_iff,if_true,List.set_cons_zero]
theorem UV{o:Opd}(ho:ZL e o=some v)(hw:v.wide=some w)(hi:imm 6 v=true)(h:Is O is keep k Q ((d,.lit [v])::e) st):Is O (⟨some d,none,false,.w .imm (.bslice false w [z] [(0,o)])⟩::is) keep k Q e st:=by
 refine Zm (od:=some d) (v:=.lit [v]) (st':=st) ?_ h;simp only[ZW,Zt,C1,JU,ZB ho,fillE,hw,List.length_singleton,true_and,Nat.lt_one_iff,if_true,List.set_cons_zero,oS,Ba,List.all_cons,List.all_nil,hi,Bool.and_self,List.isEmpty_cons,jB,if_false]
theorem N7(h:Is O is keep k Q ((d,.ptr A.length (L.length+1) 0 0 0)::e) ⟨A,false,L++[Blk.arr w 0 [],Blk.arr 1 0 [.ref A.length L.length 0 0 0]]⟩):Is O (⟨some d,none,false,.boxnil w⟩::is) keep k Q e ⟨A,false,L⟩ :=
 EP (by rw[List.append_assoc];exact Yf _) h
theorem IJ{bytes:Nat}{s:Opd}(hs:ZL e s=some .nils)(hx:ZL e x=some vx)(hy:elems ⟨A,false,L⟩ vx=some ys)(hl:ys.length<4294967296)(hb:bytes<=4096)(hw:Qy w ys=true)
 (h:Is O is keep k Q ((d,.ref A.length L.length 0 0 ys.length)::e) ⟨A,false,L++[Blk.arr w 0 ys]⟩):Is O (⟨some d,none,false,.app w bytes s x⟩::is) keep k Q e ⟨A,false,L⟩:=by
 refine Zm (od:=some d) (v:=.ref A.length L.length 0 0 ys.length) (st':=⟨A,false,L++[Blk.arr w 0 ys]⟩) ?_ h;simp only[ZW,evalPO,ZB hs,ZB hx,hy,oS,Q8,hl,hb,hw,and_self,if_true,St.new_cur,Jd]
end
end Go.QAbs
namespace Go.Q15
open Go Go.QAbs
variable {td v v' vx z:AV}{agg ro:Bool}{e:Env}{f:FuncId}{Q:JD}{A:List (Bool × List Blk)}{cls es ys:LV}{L':List Blk}{d g ib ip ix jb jx n ob pl px vb ver w:Nat}{a x:Opd}{O:Orc}{st:St}{t:Tr}
namespace Tr
mutual
def cnt:Tr->Nat
 | .mk o _ _ _ k=>(if o=0 then 1 else 0)+cntO k
def cntO:Option (List Tr)->Nat
 | none=>0
 | some l=>cntL l
def cntL:List Tr->Nat
 | []=>0
 | t::l=>t.cnt+cntL l
end
theorem cntL_append:∀a b,cntL (a++b)=cntL a+cntL b
 | [],b=>by simp[cntL]
 | t::a,b=>by rw[lC,cntL,cntL,cntL_append a b];omega
theorem cntO_getD(k:Option (List Tr)):cntO k=cntL (k.getD []):=by cases k<;>rfl
end Tr
theorem N8{t:Tr}{c:Int}(hk:t.ks=[])(hK:∀st,S Tb QW [t.av] st=some (.int .i64 c,st))(st:St):S Tb EV [t.av] st=some (.int .i64 (if c=3\/c=4 then 1 else 0),st):=by
 obtain⟨o,h,m,s,k⟩:=t;obtain⟨ka,hka,hka2⟩:∃ka,Tr.avO k=ka/\(ka=.nils\/ka=.lit []):=by
  cases k with
  | none=>exact⟨_,rfl,.inl Y⟩
  | some l=>have:l=[]:=hk;subst this;exact⟨_,rfl,.inr Y⟩
 simp only[Tr.av,hka]at *;refine Zv Y (fun A hA=>?_);rcases hka2 with rfl|rfl;all_goals repeat'(first|refine ruS Y ?_|refine isS Y ?_|refine ZE Y Y Y Y ?_|refine rkS Y ?_|refine DL Y Y ?_|refine J2 Y ?_|refine cm0 Y Y Y ?_ ?_|(intro _;try omega)|refine ZX Y Y Y ?_|refine ZA Y Y Y (hK _) ?_|refine YL ?_)
 all_goals refine ZQ hA (by simp) Y Y Y Y ?_
 all_goals simp[*]
theorem ZtB{l:List Tr}{t:Tr}(h:t∈l):t.cnt<=Tr.cntL l:=by
 induction l with
 | nil=>simp at h
 | cons u l ih =>
  rw[Tr.cntL];rcases List.mem_cons.1 h with rfl|h
  ·omega
  ·have:=ih h;omega
theorem UW(l:List Tr)(i:Nat):Tr.cntL (l.take i)<=Tr.cntL l:=by
 have h:Tr.cntL l=Tr.cntL (l.take i)+Tr.cntL (l.drop i):=by rw[<- Tr.cntL_append,List.take_append_drop]
 omega
theorem UX{N:ZC}{t:Tr}(hv:Val N t):t.cnt<4294967296->∀st,S Tb EV [t.av] st=some (.int .i64 t.cnt,st):=by
 induction hv with
 | @kept o h m k x h0 hx hok hh hm hk =>
  intro hc st;have:=N8 (t:=.mk o h m [] k) hk (fun st=>Hx (.mk o h m [] k) ⟨h0,rfl,hk⟩ st) st;rw[this];have e:(Tr.mk o h m [] k).cnt=0:=by rw[Tr.cnt,Tr.cntO_getD,hk,if_neg h0];rfl
  rw[e];rfl
 | @leaf s k h1 h2 hk =>
  intro hc st;have:=N8 (t:=.mk 0 0 .zero s k) hk (fun st=>Hy (.mk 0 0 .zero s k) ⟨rfl,rfl,rfl,h1,h2,hk⟩ st) st;rw[this];have e:(Tr.mk 0 0 .zero s k).cnt=1:=by rw[Tr.cnt,Tr.cntO_getD,hk,if_pos rfl];rfl
  rw[e];rfl
 | @inner h l hh h2 h4 hl hb hv ih =>
  intro hc st;have hK:=fun st=>Hz (.mk 0 (h+1) .zero [] (some l)) ⟨rfl,rfl,rfl,Nat.succ_le_succ (Nat.zero_le _),hh,h2,h4⟩ st
  have e:(Tr.mk 0 (h+1) .zero [] (some l)).cnt=1+Tr.cntL l:=by rw[Tr.cnt,if_pos rfl];rfl
  rw[e]at hc ⊢;simp only[Tr.av,Tr.avO,Tr.avL_map,Mea.zero]at hK ⊢;refine Zv Y (fun A hA=>?_);repeat'(first|refine ruS Y ?_|refine isS Y ?_|refine ZE Y Y Y Y ?_|refine ZO ?_|refine Z5 Y ?_|refine cm0 Y Y Y ?_ ?_|(intro _;try omega)|refine ZX Y Y Y ?_|refine ZA Y Y Y (hK _) ?_)
  all_goals try contradiction
  refine Ze (α:=Nat × List Blk) (fun p=>[(3,.int .i64 ((1+Tr.cntL (l.take p.1):Nat):Int)),(16,.lit (l.map Tr.av)),(17,.int .i64 l.length),(18,.int .i64 p.1)])
   (fun p=>⟨A,false,.arr 7 0 [.agg [.int .u64 (0:Nat),.int .i64 ((h+1:Nat):Int),.int .i64 0,.int .i64 0,.int .i64 0,.str [],.lit (l.map Tr.av)]]::p.2⟩) (fun p=>p.1<=l.length) (fun p=>l.length-p.1) (0,[]) ?_ rfl (by simp) ?_
  ·simp[Tr.cntL]
  rintro⟨i,G⟩ hi;simp only at hi ⊢;have h6:=UW l i;have h7:=UW l (i+1);repeat'(first|refine ruS Y ?_|refine isS Y ?_|refine rkS Y ?_|refine cm0 Y Y Y ?_ ?_|(intro _;try omega)|refine Zi Y Y Y ?_|refine Jy Y Y (by omega) Zn (fun _ _=>?_)|refine Zx Y (Zb _) ?_|refine QU Y Y (Zb _) ?_|refine Jr Y Y Y (Z9 _ _ _) (Qg _ _) Y ?_)
  ·rename_i t ht
   have ht2:l[i]?=some t:=ht;have hm:=jM ht2;have h5:=ih t hm (by have:=ZtB hm;omega);rw[ZF ht2,Tr.cntL_append,Tr.cntL,Tr.cntL]at h7;repeat'(first|refine Qv ?_|refine isS Y ?_|refine rkS Y ?_|refine ZV Y Y (by omega) ?_|refine zA0 Y Y (h5 _) ?_)
   refine⟨(i+1,G++[.arr 7 0 [t.av]]),⟨?_,rfl⟩,by simp only;omega,by simp only;omega⟩;simp only[ZF ht2,Tr.cntL_append,Tr.cntL];rw[show ((1+Tr.cntL (l.take i):Nat):Int)+(t.cnt:Int)=((1+(Tr.cntL (l.take i)+(t.cnt+0)):Nat):Int) by omega];rfl
  ·have hi':i=l.length:=by omega
   subst hi';rw[List.take_length];refine ZQ hA (by simp) Y Y Y Y ?_;rfl
theorem UY(s:B8):QAbs.allBytes (Z4 s)=some s:=by
 induction s with
 | nil=>rfl
 | cons x s ih =>
  show ((QAbs.byteOf (AV.int .u8 x.toNat)).bind fun b=>(QAbs.allBytes (Z4 s)).map (b::·))=_
  rw[ih];simp[QAbs.byteOf]
theorem IK{b lv i1 i2 i3:Nat}(st:St)(h:lv<b):ZI Zs b st (.func (.func f) [] [.ptr lv i1 0 0 0,.ptr lv i2 0 0 0,.ptr lv i3 0 0 0])=some (.func (.func f) [] [.ptr lv i1 0 0 0,.ptr lv i2 0 0 0,.ptr lv i3 0 0 0],st):=by
 simp only[ZI,Zs,CK,if_true,mapSt,oS,if_pos h,Y3]
theorem ZlJ{b0 b1 b2 b3 b4:Blk}{v:Nat}{t:B8}:Qw ⟨A,false,[b0,b1,b2,b3,b4]⟩ A.length 3 2 v t=⟨A,false,[b0,b1,.arr 1 v (Z4 t),.arr 1 0 [.ref A.length 2 v 0 t.length],b4]⟩:=by
 simp[Qw,St.upd]
theorem Zua{N:ZC}(hN:GoodN N){lv:Nat}(hr:Rd st lv ix N)(ht:VE N t)(hb:t.bytes<=65536):S Tb LC [.ptr lv ix 0 0 0,t.av] st=some (.tup [.str (t.txt N),.int .i64 0],st):=by
 refine Zv Y (fun A hA=>?_);have hlv:lv<A.length:=by
  obtain⟨a0,a1,im,a3,a4,a5,h1,h2⟩:=hr;have:=St.get_le h1;rw[hA];simp;omega
 have hrp:=fun L=>hr.push hA (ro:=false) (L:=L)
 have hC:=fun L=>Ns (hrp L) ht hb
 rcases ht with he|hv
 ·rw[he.txt]
  have hK:=fun st=>Fs t he st
  repeat'(first|refine ruS Y ?_|refine isS Y ?_|refine ZE Y Y Y Y ?_|refine rkS Y ?_|refine cm0 Y Y Y ?_ ?_|(intro _;try omega)|refine X3 Y Y ?_|refine ZX Y Y Y ?_|refine EP Y ?_|refine QU Y Y (Zb _) ?_|refine ZE Y Y Y (Zb _) ?_|refine Zi Y (Zn _) (Z1 _) ?_|refine zA0 Y Y (hC _) ?_|refine zA0 Y Y (hK _) ?_|refine Zg Y Y Y (IK _ (Nat.lt_succ_self _)) Y Y ?_)
  all_goals try omega
  all_goals refine ZQ hA (by simp) Y Y Y Y ?_
  all_goals rfl
 ·obtain⟨k,hk1,hK⟩:=hv.kindNe
  repeat'(first|refine ruS Y ?_|refine isS Y ?_|refine ZE Y Y Y Y ?_|refine ZO ?_|refine cm0 Y Y Y ?_ ?_|(intro _;try omega)|refine X3 Y Y ?_|refine ZX Y Y Y ?_|refine EP Y ?_|refine QU Y Y (Zb _) ?_|refine ZE Y Y Y (Zb _) ?_|refine Zi Y (Zn _) (Z1 _) ?_|refine zA0 Y Y (hC _) ?_|refine zA0 Y Y (hK _) ?_|refine Zg Y Y Y (IK _ (Nat.lt_succ_self _)) Y Y ?_)
  all_goals try omega
  have hwa:∀L,L=[.arr 1 0 [.ptr lv ix 0 0 0],.arr 7 0 [t.av],.arr 1 0 [],.arr 1 0 [.ref A.length 2 0 0 0],.arr 1 0 [.func (.func Yw) [] [.ptr A.length 0 0 0 0,.ptr A.length 3 0 0 0,.ptr A.length 4 0 0 0]]] ->
   Sp Tb Yw [t.av,.ptr A.length 0 0 0 0,.ptr A.length 3 0 0 0,.ptr A.length 4 0 0 0] ⟨A,false,L⟩ fun v st'=>v=.int .i64 0/\∃ver',st'=Qw ⟨A,false,L⟩ A.length 3 2 ver' ([]++t.txt N):=by
   rintro L rfl;refine ZuT hN t.h t hv Y hb (pl:=lv) (px:=ix) (ver:=0) ⟨hrp _,by omega,by rw[St.get_cur];rfl,by rw[St.get_cur];rfl,⟨by decide,by decide⟩,⟨by decide,by decide⟩⟩ ⟨by simp[St.wr],by rw[St.get_cur];rfl,by rw[St.get_cur];rfl,by decide⟩ (by simp;omega)
  refine HP Y Y (wk4 _ _ _ _ Y Y Y) (hwa _ Y) ?_;rintro v st' ⟨rfl,v2,rfl⟩;rw[lE,ZlJ];repeat'(first|refine ruS Y ?_|refine isS Y ?_|refine ZE Y Y Y Y ?_|refine ZO ?_|refine cm0 Y Y Y ?_ ?_|(intro _;try omega))
  refine Sa Y (v:=.str (t.txt N)) ?_ ?_
  ·have hl:=Ye (t.txt N)
   show (AG v2 0 (t.txt N).length (St.get _ A.length 2)).bind _=_
   rw[St.get_cur];show (AG v2 0 (t.txt N).length (some (Blk.arr 1 v2 (Z4 (t.txt N))))).bind _=_
   simp only[AG,true_and,hl,Nat.zero_add,Nat.le_refl,if_true,List.drop_zero,oS];rw[List.take_of_length_le (by omega),UY];rfl
  repeat'(first|refine isS Y ?_|refine rkS Y ?_|refine Xz ?_)
  refine ZQ hA (by simp) Y Y Y Y ?_;rfl
theorem CE{L T:List Blk}{i:Nat}{b:Blk}(h:L[i]?=some b):(L++T)[i]?=some b:=by
 rw[jL (List.getElem?_eq_some_iff.1 h).1];exact h
section
variable {O:Orc}{k:List Fr}{Q:JD}{e:Env}{A:List (Bool × List Blk)}{L0 T:List Blk}{keep:List Nat}{is:List PI}{d:Nat}
theorem UZ{b:Opd}{i o:Nat}{x:AV}(ha:ZL e a=some (.ptr A.length (L0.length+ix) ver i o))(hb:ZL e b=some (.ptr A.length (L0.length+ix) vb ib ob))
 (hg:T[ix]?=some (Blk.arr w ver es)) (hx:es[i]?=some x) (hv:Qs x agg o n=some v) (h:Is O is keep k Q ((d,v)::e) ⟨A,false,L0++T⟩):Is O (⟨some d,none,false,.w (.only b) (.ld agg n a)⟩::is) keep k Q e ⟨A,false,L0++T⟩ :=
 Znn ha hb (by rw[QI];exact hg) hx hv h
theorem ZlK{m:Nat}(hm:Bl T=some m)(h:Is O is keep k Q ((d,.ptr A.length (L0.length+(m+1)) 0 0 0)::e) ⟨A,false,L0++(T++[Blk.arr w 0 [],Blk.arr 1 0 [.ref A.length (L0.length+m) 0 0 0]])⟩):Is O (⟨some d,none,false,.boxnil w⟩::is) keep k Q e ⟨A,false,L0++T⟩:=by
 refine N7 ?_;rw[lL,DK hm,List.append_assoc];exact h
theorem Ua{m:Nat}{o:Opd}(ho:ZL e o=some v)(hw:v.wide=some w)(hm:Bl T=some m)(h:Is O is keep k Q ((d,.ref A.length (L0.length+m) 0 0 1)::e) ⟨A,false,L0++(T++[Blk.arr w 0 [v]])⟩):Is O (⟨some d,none,false,.bslice true w [z] [(0,o)]⟩::is) keep k Q e ⟨A,false,L0++T⟩:=by
 refine UU ho hw ?_;rw[lL,DK hm,List.append_assoc];exact h
end
theorem N9{L0 T:List Blk}(hg:T[ix]?=some (Blk.arr w ver ys))(hn:n=ys.length):elems ⟨A,false,L0++T⟩ (.ref A.length (L0.length+ix) ver 0 n)=some ys:=by
 subst hn;simp only[elems,St.get_cur,QI,hg,vis,AG,true_and,Nat.zero_add,Nat.le_refl,if_true,List.drop_zero,List.take_length]
structure Frm(L:List Blk)(X:Nat->Prop)(L':List Blk)(X':Nat->Prop):Prop where
 len:L.length<=L'.length
 old:∀i,i<L.length->¬ X i->L'[i]?=L[i]?
 own:∀i,X' i->X i\/L.length<=i
theorem Frm.trans{L0 L1 L2:List Blk}{X0 X1 X2:Nat->Prop}(h:Frm L0 X0 L1 X1)(g:Frm L1 X1 L2 X2):Frm L0 X0 L2 X2:=by
 have h1:=h.len;have h2:=g.len;refine⟨by omega,fun i hi hn=>?_,fun i hi=>?_⟩
 ·rw[g.old i (by omega) (fun q=>by rcases h.own i q with w|w;exact hn w;omega),h.old i hi hn]
 ·rcases g.own i hi with w|w
  ·exact h.own i w
  ·exact .inr (by omega)
theorem Frm.app{L:List Blk}{X:Nat->Prop}(T:List Blk):Frm L X (L++T) X :=
 ⟨by simp,fun i hi _=>jL hi,fun i h=>.inl h⟩
def Fx(L:List Blk)(X:Nat->Prop)(F:List (Nat × Blk)):Prop:=∀p∈F,L[p.1]?=some p.2/\¬ X p.1
theorem Fx.frm{L:List Blk}{X X':Nat->Prop}{F:List (Nat × Blk)}(h:Fx L X F)(g:Frm L X L' X'):Fx L' X' F:=by
 intro p hp;obtain⟨h1,h2⟩:=h p hp;have hlt:=(List.getElem?_eq_some_iff.1 h1).1;exact⟨by rw[g.old _ hlt h2];exact h1,fun q=>by rcases g.own _ q with w|w;exact h2 w;omega⟩
theorem Fx.append{L:List Blk}{X:Nat->Prop}{F G:List (Nat × Blk)}(h:Fx L X F)(g:Fx L X G):Fx L X (F++G):=fun p hp=>by
 rcases List.mem_append.1 hp with q|q
 ·exact h p q
 ·exact g p q
def Rx(L:List Blk)(X:Nat->Prop)(R:List (Nat × Ro)):Prop:=Fx L X (R.map fun p=>(p.1,Blk.arr 5 0 [p.2.av]))
theorem Rx.frm{L:List Blk}{X X':Nat->Prop}{R:List (Nat × Ro)}(h:Rx L X R)(g:Frm L X L' X'):Rx L' X' R:=Fx.frm h g
theorem Rx.append{L:List Blk}{X:Nat->Prop}{R S:List (Nat × Ro)}(h:Rx L X R)(g:Rx L X S):Rx L X (R++S):=by
 unfold Rx;rw[List.map_append];exact Fx.append h g
theorem Rx.get{L:List Blk}{X:Nat->Prop}{R:List (Nat × Ro)}(h:Rx L X R){p:Nat × Ro}(hp:p∈R):L[p.1]?=some (.arr 5 0 [p.2.av])/\¬ X p.1:=h (p.1,.arr 5 0 [p.2.av]) (List.mem_map.2 ⟨p,hp,rfl⟩)
def Ya(ip:Nat)(td:AV)(i:Nat):Prop:=i=ip\/∃lv ver s n,td=.ref lv i ver s n
structure Pen(A:List (Bool × List Blk))(L:List Blk)(ip:Nat)(a:AV)(td:AV)(cls:LV):Prop where
 st:∃rp,L[ip]?=some (.arr 3 0 [.agg [a,td,rp]])
 td:(td=.nils/\cls=[])\/∃tx ver,td=.ref A.length tx ver 0 cls.length/\L[tx]?=some (.arr 1 ver cls)/\tx≠ip/\cls≠[]
theorem Pen.frm{L:List Blk}{a:AV}(h:Pen A L ip a td cls)(g:∀i,Ya ip td i->L'[i]?=L[i]?):Pen A L' ip a td cls:=by
 obtain⟨⟨rp,h1⟩,h2⟩:=h;refine⟨⟨rp,by rw[g ip (.inl rfl)];exact h1⟩,?_⟩;rcases h2 with q|⟨tx,ver,e1,e2,e3⟩
 ·exact .inl q
 ·exact .inr ⟨tx,ver,e1,by rw[g tx (.inr ⟨_,_,_,_,e1⟩)];exact e2,e3⟩
theorem Pen.lt{L:List Blk}{a:AV}(h:Pen A L ip a td cls){i:Nat}(hi:Ya ip td i):i<L.length:=by
 obtain⟨⟨rp,h1⟩,h2⟩:=h;rcases hi with rfl|⟨lv,ver,s,n,e⟩
 ·exact (List.getElem?_eq_some_iff.1 h1).1
 ·rcases h2 with⟨q,_⟩|⟨tx,ver2,e1,e2,e3⟩
  ·rw[q]at e;simp at e
  ·rw[e1]at e
   simp only[AV.ref.injEq]at e;rw[<- e.2.1];exact (List.getElem?_eq_some_iff.1 e2).1
theorem Pen.app{L:List Blk}{a:AV}(h:Pen A L ip a td cls)(T:List Blk):Pen A (L++T) ip a td cls :=
 h.frm fun i hi=>jL (h.lt hi)
def clV(n b0 b1 b2:Nat):AV:=.func (.func Xp) [] [.ptr n b0 0 0 0,.ptr n b1 0 0 0,.ptr n b2 0 0 0]
inductive Cv (n:Nat):AV->Prop
 | one (x:Nat):Cv n (.func (.func Jn) [] [.ptr n x 0 0 0])
 | two (x y:Nat):Cv n (.func (.func JJ) [] [.ptr n x 0 0 0,.ptr n y 0 0 0])
def IL(n ip rx b:Nat)(cv:AV):List Blk:=[.arr 1 0 [.ptr n ip 0 0 0],.arr 1 0 [.ptr n rx 0 0 0],.arr 1 0 [cv],.arr 1 0 [clV n b (b+2) (b+1)]]
theorem Ub{L:List Blk}{rx:Nat}{a cv:AV}(h:Pen A L ip a td cls)(hcv:Cv A.length cv)(hl:cls.length<1000000):
 ∃L' td',S Tb Hj [.ptr A.length ip 0 0 0,.ptr A.length rx 0 0 0,cv] ⟨A,false,L⟩=some (.tup [],⟨A,false,L'⟩)/\Pen A L' ip a td' (cls++[clV A.length L.length (L.length+2) (L.length+1)])/\Frm L (Ya ip td) L' (Ya ip td') /\
  Fx L' (Ya ip td') [(L.length,.arr 1 0 [.ptr A.length ip 0 0 0]),(L.length+1,.arr 1 0 [.ptr A.length rx 0 0 0]),(L.length+2,.arr 1 0 [cv])]:=by
 obtain⟨⟨rp,h1⟩,h2⟩:=h;have hip:=(List.getElem?_eq_some_iff.1 h1).1;have e0:(⟨A,false,L⟩:St)=⟨A,false,L++[]⟩:=by rw[lN]
 have hg1:∀T,(L++T)[ip]?=some (.arr 3 0 [.agg [a,td,rp]]):=fun T=>CE h1
 rcases h2 with⟨rfl,rfl⟩|⟨tx,ver,rfl,h3,h4,_⟩
 ·refine⟨(L++(IL A.length ip rx L.length cv++[Blk.arr 1 0 [clV A.length L.length (L.length+2) (L.length+1)]])).set ip (Blk.arr 3 0 [.agg [a,.ref A.length (L.length+4) 0 0 1,rp]]),.ref A.length (L.length+4) 0 0 1,X4 Y ?_,?_⟩
  ·rw[e0]
   have hg1':∀T,(L++T)[ip]?=some (.arr 3 0 [.agg [a,.nils,rp]]):=hg1;unfold IL clV;cases hcv;all_goals repeat'(first|refine XM Y Y Y Y Y ?_|refine UZ Y Y Y Y Y ?_|refine As Y Y Y Y ?_|refine Ua Y Y Y ?_|refine ruS Y ?_|refine isS Y ?_|refine ZO ?_|refine X3 Y Y ?_|refine ZE Y (hg1' _) Y Y ?_)
   all_goals refine UT Y Y Y (N9 Y Y) Y Y ?_
   all_goals refine IJ Y Y (N9 Y Y) (by simp) (by decide) Y ?_
   all_goals repeat'(refine isS Y ?_)
   all_goals refine Qn (by rw[List.append_assoc];exact hg1' _) Y Y Y (Q2 _ (Nat.lt_succ_self _)) Y ?_
   all_goals refine Jg Y ?_
   all_goals refine B3 ?_
   all_goals refine (Jq (.inl Y) Y Y Y Y).trans ?_
   all_goals simp
  ·have hnX : ∀i, L.length <= i -> i ≠ L.length + 4 -> ¬ Ya ip (.ref A.length (L.length + 4) 0 0 1) i := by
    rintro i hi hne (q|⟨_,_,_,_,q⟩)
    ·omega
    ·simp only[AV.ref.injEq]at q;omega
   refine⟨⟨⟨rp,List.getElem?_set_self (by simp;omega)⟩,.inr ⟨L.length+4,0,rfl,?_,by omega,by simp⟩⟩,⟨by simp,fun i hi hn=>?_,fun i hi=>?_⟩,?_⟩
   ·rw[jS (by omega),QI];rfl
   ·have:i≠ip:=fun q=>hn (.inl q)
    rw[jS (fun q=>this q.symm),jL hi]
   ·rcases hi with q|⟨_,_,_,_,q⟩
    ·exact .inl (.inl q)
    ·simp only[AV.ref.injEq]at q;exact .inr (by omega)
   ·intro p hp
    simp only[List.mem_cons,List.not_mem_nil,or_false]at hp;rcases hp with rfl|rfl|rfl
    ·refine⟨?_,hnX _ (by simp) (by simp)⟩
     simp only;rw[jS (by omega)];exact QI (i:=0)
    ·refine⟨?_,hnX _ (by simp) (by simp)⟩
     simp only;rw[jS (by omega)];exact QI (i:=1)
    ·refine⟨?_,hnX _ (by simp) (by simp)⟩
     simp only;rw[jS (by omega)];exact QI (i:=2)
 ·have htx:=(List.getElem?_eq_some_iff.1 h3).1
  refine⟨((L++IL A.length ip rx L.length cv).set tx (Blk.arr 1 (ver+1) (cls++[clV A.length L.length (L.length+2) (L.length+1)]))).set ip (Blk.arr 3 0 [.agg [a,.ref A.length tx (ver+1) 0 (cls.length+1),rp]]),.ref A.length tx (ver+1) 0 (cls.length+1),X4 Y ?_,?_⟩
  ·rw[e0]
   have hgt:∀T,(L++T)[tx]?=some (.arr 1 ver cls):=fun T=>CE h3
   have hap:E9 (.ptr A.length (L.length+0) 0 0 0) (.ref A.length tx ver 0 cls.length)=true:=by
    simp[E9,AU];omega
   have hgr:∀f x y z,E7 (.ref A.length tx ver 0 cls.length) (some [.func (.func f) [] [.ptr A.length x 0 0 0,.ptr A.length y 0 0 0,.ptr A.length z 0 0 0]])=true:=by
    intro f x y z;simp[E7,AX,CK]
   have hsl:∀(st:St) f x y z,mapSt (ZI Zs (A.length+1)) st [.func (.func f) [] [.ptr A.length x 0 0 0,.ptr A.length y 0 0 0,.ptr A.length z 0 0 0]]=some ([.func (.func f) [] [.ptr A.length x 0 0 0,.ptr A.length y 0 0 0,.ptr A.length z 0 0 0]],st):=by
    intro st f x y z;rw[mapSt,IK _ (Nat.lt_succ_self _)];rfl
   unfold IL clV;cases hcv;all_goals repeat'(first|refine XM Y Y Y Y Y ?_|refine UZ Y Y Y Y Y ?_|refine As Y Y Y Y ?_|refine Ua Y Y Y ?_|refine ruS Y ?_|refine isS Y ?_|refine ZO ?_|refine X3 Y Y ?_|refine ZE Y (hg1 _) Y Y ?_)
   all_goals refine UT Y Y Y (N9 Y Y) hap (hgr _ _ _ _) ?_
   all_goals refine UN Y Y (by rw[QI];rfl) (hgt _) rfl rfl (hsl _ _ _ _ _) (by simp;omega) (by decide) ?_
   all_goals repeat'(refine isS Y ?_)
   all_goals refine Qn (by rw[jS h4];exact hg1 _) Y Y Y (Q2 _ (Nat.lt_succ_self _)) Y ?_
   all_goals refine Jg Y ?_
   all_goals refine B3 ?_
   all_goals refine (Jq (.inl Y) Y Y Y Y).trans ?_
   all_goals simp
  ·have hnX : ∀i, L.length <= i -> ¬ Ya ip (.ref A.length tx (ver + 1) 0 (cls.length + 1)) i := by
    rintro i hi (q|⟨_,_,_,_,q⟩)
    ·omega
    ·simp only[AV.ref.injEq]at q;omega
   refine⟨⟨⟨rp,List.getElem?_set_self (by simp;omega)⟩,.inr ⟨tx,ver+1,by simp,?_,h4,by simp⟩⟩,⟨by simp,fun i hi hn=>?_,fun i hi=>?_⟩,?_⟩
   ·rw[jS (fun q=>h4 q.symm),List.getElem?_set_self (by simp;omega)]
   ·have n1:i≠ip:=fun q=>hn (.inl q)
    have n2:i≠tx:=fun q=>hn (.inr ⟨A.length,ver,0,cls.length,by rw[q]⟩)
    rw[jS (fun q=>n1 q.symm),jS (fun q=>n2 q.symm),jL hi]
   ·rcases hi with q|⟨_,_,_,_,q⟩
    ·exact .inl (.inl q)
    ·simp only[AV.ref.injEq]at q
     exact .inl (.inr ⟨A.length,ver,0,cls.length,by rw[q.2.1]⟩)
   ·intro p hp
    simp only[List.mem_cons,List.not_mem_nil,or_false]at hp;rcases hp with rfl|rfl|rfl
    ·refine⟨?_,hnX _ (by simp)⟩
     simp only;rw[jS (by omega),jS (by omega)];exact QI (i:=0)
    ·refine⟨?_,hnX _ (by simp)⟩
     simp only;rw[jS (by omega),jS (by omega)];exact QI (i:=1)
    ·refine⟨?_,hnX _ (by simp)⟩
     simp only;rw[jS (by omega),jS (by omega)];exact QI (i:=2)
inductive ItC where
 | leaf (s:B8)
 | inn (h:Nat) (ks:List Nat)
structure It where
 rx:Nat
 c:ItC
def Au(n:Nat)(rs:List Nat):LV:=rs.map fun r=>.ptr n r 0 0 0
def CvOk(n:Nat)(F:List (Nat × Blk))(cv:AV):ItC->Prop
 | .leaf s=>∃xb,cv=.func (.func Jn) [] [.ptr n xb 0 0 0]/\(xb,Blk.arr 3 0 [.agg [.int .i64 0,.str s,.nils]])∈F
 | .inn h ks=>∃tb kb kx,∃t:Tr,cv=.func (.func JJ) [] [.ptr n tb 0 0 0,.ptr n kb 0 0 0]/\t.h=h/\(tb,Blk.arr 7 0 [t.av])∈F/\(kb,Blk.arr 1 0 [.ref n kx ks.length 0 ks.length])∈F/\(kx,Blk.arr 1 ks.length (Au n ks))∈F
theorem CvOk.mono{n:Nat}{F G:List (Nat × Blk)}(hs:∀p∈F,p∈G){cv:AV}:∀ {c:ItC},CvOk n F cv c->CvOk n G cv c
 | .leaf s,⟨xb,h1,h2⟩=>⟨xb,h1,hs _ h2⟩
 | .inn h ks,⟨tb,kb,kx,t,h1,h2,h3,h4,h5⟩=>⟨tb,kb,kx,t,h1,h2,hs _ h3,hs _ h4,hs _ h5⟩
def ClOk(n ip:Nat)(F:List (Nat × Blk))(cl:AV)(it:It):Prop :=
 ∃b0 b1 b2 cv,cl=clV n b0 b1 b2/\(b0,Blk.arr 1 0 [.ptr n ip 0 0 0])∈F/\(b1,Blk.arr 1 0 [cv])∈F/\(b2,Blk.arr 1 0 [.ptr n it.rx 0 0 0])∈F/\CvOk n F cv it.c
theorem ClOk.mono{F G:List (Nat × Blk)}(hs:∀p∈F,p∈G){cl:AV}{it:It}(h:ClOk n ip F cl it):ClOk n ip G cl it:=by
 obtain⟨b0,b1,b2,cv,h1,h2,h3,h4,h5⟩:=h;exact⟨b0,b1,b2,cv,h1,hs _ h2,hs _ h3,hs _ h4,h5.mono hs⟩
inductive ClsOk (n ip:Nat) (F:List (Nat × Blk)):LV->List It->Prop
 | nil:ClsOk n ip F [] []
 | cons {c i cs is} (h:ClOk n ip F c i) (t:ClsOk n ip F cs is):ClsOk n ip F (c::cs) (i::is)
theorem ClsOk.mono{F G:List (Nat × Blk)}(hs:∀p∈F,p∈G){cs:LV}{is:List It}(h:ClsOk n ip F cs is):ClsOk n ip G cs is:=by
 induction h with
 | nil=>exact .nil
 | cons h t ih=>exact .cons (h.mono hs) ih
theorem ClsOk.append{F:List (Nat × Blk)}{cs ds:LV}{is js:List It}(h:ClsOk n ip F cs is)(g:ClsOk n ip F ds js):ClsOk n ip F (cs++ds) (is++js):=by
 induction h with
 | nil=>exact g
 | cons h t ih=>exact .cons h ih
theorem ClsOk.len{F:List (Nat × Blk)}{cs:LV}{is:List It}(h:ClsOk n ip F cs is):cs.length=is.length:=by
 induction h with
 | nil=>rfl
 | cons h t ih=>simp[ih]
namespace Tr
mutual
def mea:Tr->Mea
 | .mk o h m s k=>if o≠0 then m else if h=0 then YZ s else Zy (meaO k)
def meaO:Option (List Tr)->List Mea
 | none=>[]
 | some l=>IM l
def IM:List Tr->List Mea
 | []=>[]
 | t::l=>t.mea::IM l
end
theorem meaL_map:∀l,IM l=l.map mea
 | []=>rfl
 | t::l=>by rw[IM,meaL_map l];rfl
end Tr
theorem IN(h:Nat)(l:List Tr):(Tr.mk 0 (h+1) .zero [] (some l)).mea=Zy (l.map Tr.mea):=by
 rw[Tr.mea,Tr.meaO,Tr.meaL_map];simp
theorem IP(s:B8)(k:Option (List Tr)):(Tr.mk 0 0 .zero s k).mea=YZ s:=by rw[Tr.mea];simp
theorem IQ{o h:Nat}{m:Mea}{s:B8}{k:Option (List Tr)}(h0:o≠0):(Tr.mk o h m s k).mea=m:=by rw[Tr.mea];simp[h0]
structure Mea.Chn(m:Mea):Prop where
 l0:0<=m.l
 lr:m.l<=m.r
 rb:m.r<=m.b
theorem N_:∀ {l:List Mea},(∀m∈l,m.Chn)->(Zy l).Chn
 | [],_=>⟨by decide,by decide,by decide⟩
 | m::l,h=>by
  obtain⟨a1,a2,a3⟩:=h m (by simp);obtain⟨b1,b2,b3⟩:=N_ (l:=l) (fun x hx=>h x (by simp[hx]));constructor<;>simp only[Zy,Mea.add]<;>omega
theorem Uc(s:B8):(YZ s).Chn:=by
 have h2:=UL s;have h3:=List.countP_le_length (p:=Ce) (l:=s);constructor<;>simp only[YZ]<;>omega
theorem NdOk.chn{x:Nd}(h:NdOk x):x.mea.Chn:=by
 rcases h with h|⟨n,ks,h⟩
 ·have hm:x.mea=YZ x.text:=by unfold Nd.mea;rw[if_pos h.h]
  rw[hm];exact Uc _
 ·have e:=h.eq
  subst e;have hms:Nd.mea ⟨n+1,[],some ks⟩=Zy (ks.map Kid.m):=rfl;rw[hms];refine N_ (fun m hm=>?_);obtain⟨k,hk,rfl⟩:=List.mem_map.1 hm;have:=h.kid k hk;exact⟨this.l0,this.lr,this.rb⟩
theorem OA:∀l:List Tr,(∀t∈l,t.mea.b=t.bytes)->(Zy (l.map Tr.mea)).b=Tr.bytesL l
 | [],_=>rfl
 | t::l,h=>by
  rw[jC,Zy,Mea.add,Tr.bytesL];simp only;rw[h t (by simp),OA l (fun u hu=>h u (by simp[hu]))]
theorem Val.mea_ok{N:ZC}{t:Tr}(hv:Val N t):t.mea.b=t.bytes/\t.mea.Chn:=by
 induction hv with
 | @kept o h m k x h0 hx hok hh hm hk =>
  rw[IQ h0];refine⟨?_,by rw[<- hm];exact hok.chn⟩;rw[Tr.bytes,Tr.bytesO_getD,hk];simp[Tr.bytesL]
 | @leaf s k h1 h2 hk =>
  rw[IP];refine⟨?_,Uc s⟩;rw[Tr.bytes,Tr.bytesO_getD,hk];simp[Tr.bytesL,YZ,Mea.zero]
 | @inner h l hh h2 h4 hl hb hv ih =>
  rw[IN];refine⟨?_,N_ (fun m hm=>?_)⟩
  ·rw[OA l (fun u hu=>(ih u hu).1),Tr.bytes,Tr.bytesO];simp[Mea.zero]
  ·obtain⟨u,hu,rfl⟩:=List.mem_map.1 hm
   exact (ih u hu).2
theorem Val.mea_fit{N:ZC}{t:Tr}(hv:Val N t)(hb:t.bytes<=65536):t.mea.Fit 65536:=by
 obtain⟨h1,h2⟩:=hv.mea_ok;obtain⟨c1,c2,c3⟩:=h2;constructor<;>omega
mutual
inductive AddT:Tr->Nat->List It->List (Nat × Ro)->Prop
 | kept {o h m k rx} (h0:o≠0):AddT (.mk o h m [] k) rx [] [(rx,⟨o,h,m⟩)]
 | leaf {s k rx}:AddT (.mk 0 0 .zero s k) rx [⟨rx,.leaf s⟩] [(rx,⟨0,0,YZ s⟩)]
 | inner {h l rx rs its R} (hl:AddL l rs its R) (hn:(R.map Prod.fst).Nodup) (hx:rx∉R.map Prod.fst):AddT (.mk 0 (h+1) .zero [] (some l)) rx (its++[⟨rx,.inn (h+1) rs⟩]) (R++[(rx,⟨0,h+1,Zy (l.map Tr.mea)⟩)])
inductive AddL:List Tr->List Nat->List It->List (Nat × Ro)->Prop
 | nil:AddL [] [] [] []
 | cons {t l rx rs i1 i2 R1 R2} (ht:AddT t rx i1 R1) (hl:AddL l rs i2 R2):AddL (t::l) (rx::rs) (i1++i2) (R1++R2)
end
theorem AddL.snoc{t:Tr}{rx:Nat}{i1:List It}{R1:List (Nat × Ro)}(ht:AddT t rx i1 R1):∀ {l:List Tr} {rs:List Nat} {its:List It} {R:List (Nat × Ro)},AddL l rs its R->AddL (l++[t]) (rs++[rx]) (its++i1) (R++R1)
 | _,_,_,_,.nil=>by have:=AddL.cons ht .nil;simpa using this
 | _,_,_,_,.cons h g=>by
  have:=AddL.cons h (AddL.snoc ht g);simpa [List.append_assoc] using this
theorem AddL.len:∀ {l:List Tr} {rs:List Nat} {its:List It} {R:List (Nat × Ro)},AddL l rs its R->rs.length=l.length
 | _,_,_,_,.nil=>rfl
 | _,_,_,_,.cons h g=>by simp[g.len]
mutual
theorem AddT.cnt:∀ {t:Tr} {rx:Nat} {its:List It} {R:List (Nat × Ro)},AddT t rx its R->its.length<=t.cnt
 | _,_,_,_,.kept h0=>Nat.zero_le _
 | _,_,_,_,.leaf=>by rw[Tr.cnt];simp
 | _,_,_,_,.inner hl hn hx=>by
  have:=AddL.cnt hl;rw[Tr.cnt,Tr.cntO];simp;omega
theorem AddL.cnt:∀ {l:List Tr} {rs:List Nat} {its:List It} {R:List (Nat × Ro)},AddL l rs its R->its.length<=Tr.cntL l
 | _,_,_,_,.nil=>Nat.le_refl _
 | _,_,_,_,.cons h g=>by
  have h1:=h.cnt;have h2:=g.cnt;rw[Tr.cntL];simp;omega
end
def No5(F:List (Nat × Blk)):Prop:=∀p∈F,∃w v es,p.2=Blk.arr w v es/\w≠5
theorem No5.nil:No5 []:=fun p hp=>by simp at hp
theorem No5.cons{F:List (Nat × Blk)}{i w v:Nat}{es:LV}(hw:w≠5)(h:No5 F):No5 ((i,Blk.arr w v es)::F):=fun p hp=>by
 rcases List.mem_cons.1 hp with rfl|q
 ·exact⟨w,v,es,rfl,hw⟩
 ·exact h p q
theorem No5.append{F G:List (Nat × Blk)}(h:No5 F)(g:No5 G):No5 (F++G):=fun p hp=>by
 rcases List.mem_append.1 hp with q|q
 ·exact h p q
 ·exact g p q
structure Added(A:List (Bool × List Blk))(L:List Blk)(ip:Nat)(a td:AV)(cls:LV)(t:Tr)(L':List Blk)(td':AV)(rx:Nat)(its:List It)(cs:LV)(R:List (Nat × Ro))(F:List (Nat × Blk)):Prop where
 pen:Pen A L' ip a td' (cls++cs)
 frm:Frm L (Ya ip td) L' (Ya ip td')
 fx:Fx L' (Ya ip td') F
 rts:Rx L' (Ya ip td') R
 flo:∀p∈F,L.length<=p.1
 rlo:∀p∈R,L.length<=p.1
 cl:ClsOk A.length ip F cs its
 tr:AddT t rx its R
 nd:(R.map Prod.fst).Nodup
 fw:No5 F
theorem Rx.one{L:List Blk}{X:Nat->Prop}{i:Nat}{r:Ro}(h:L[i]?=some (.arr 5 0 [r.av]))(hn:¬ X i):Rx L X [(i,r)]:=by
 intro p hp;simp only[jC,List.map_nil,List.mem_singleton]at hp;subst hp;exact⟨h,hn⟩
theorem Zp5{A:List (Bool × List Blk)}{L:List Blk}{ip:Nat}{a td:AV}{cls:LV}(h:Pen A L ip a td cls){o hh:Nat}{m:Mea}{k:Option (List Tr)}(h0:o≠0)(hk:k.getD []=[]):
 ∃L' td' rx its cs R F,S Tb Qf [.ptr A.length ip 0 0 0,(Tr.mk o hh m [] k).av] ⟨A,false,L⟩=some (.ptr A.length rx 0 0 0,⟨A,false,L'⟩)/\Added A L ip a td cls (.mk o hh m [] k) L' td' rx its cs R F:=by
 refine⟨L++[.arr 7 0 [(Tr.mk o hh m [] k).av],.arr 5 0 [Ro.av ⟨o,hh,m⟩]],td,L.length+1,[],[],[(L.length+1,⟨o,hh,m⟩)],[],X4 Y ?_,?_⟩
 ·have e0:(⟨A,false,L⟩:St)=⟨A,false,L++[]⟩:=by rw[lN]
  rw[e0];obtain⟨ka,hka,hka2⟩:∃ka,Tr.avO k=ka/\(ka=.nils\/ka=.lit []):=by
   cases k with
   | none=>exact⟨_,rfl,.inl Y⟩
   | some l=>have:l=[]:=hk;subst this;exact⟨_,rfl,.inr Y⟩
  simp only[Tr.av,hka]at *;rcases hka2 with rfl|rfl;all_goals repeat'(first|refine XM Y Y Y Y Y ?_|refine As Y Y Y Y ?_|refine ruS Y ?_|refine isS Y ?_|refine rkS Y ?_|refine cm0 Y Y Y ?_ ?_|(intro _;try omega)|refine Zf Y Y Y ?_)
  all_goals try omega
  all_goals refine (Jq (.inr Y) Y Y Y Y).trans ?_
  all_goals rfl
 ·refine⟨by rw[lN];exact h.app _,.app _,fun p hp=>by simp at hp,Rx.one ?_ (fun q=>by have:=h.lt q;omega),fun p hp=>by simp at hp,fun p hp=>?_,.nil,.kept h0,by simp,.nil⟩
  ·exact QI (i:=1)
  ·simp only[List.mem_singleton]at hp;subst hp;simp
theorem Zp6{A:List (Bool × List Blk)}{L:List Blk}{ip:Nat}{a td:AV}{cls:LV}(h:Pen A L ip a td cls)(hl:cls.length<1000000){s:B8}{k:Option (List Tr)}(hs:Ai s)(hk:k.getD []=[]):
 ∃L' td' rx its cs R F,S Tb Qf [.ptr A.length ip 0 0 0,(Tr.mk 0 0 .zero s k).av] ⟨A,false,L⟩=some (.ptr A.length rx 0 0 0,⟨A,false,L'⟩)/\Added A L ip a td cls (.mk 0 0 .zero s k) L' td' rx its cs R F:=by
 obtain⟨T,hT⟩:∃T:List Blk,T=[.arr 7 0 [(Tr.mk 0 0 .zero s k).av],.arr 5 0 [Ro.av ⟨0,0,YZ s⟩],.arr 3 0 [.agg [.int .i64 0,.str s,.nils]]]:=⟨_,rfl⟩
 have hlen:T.length=3:=by rw[hT];rfl
 obtain⟨L1,td1,hS,hp,hf,hx⟩:=Ub (h.app T) (rx:=L.length+1) (Cv.one (n:=A.length) (L.length+2)) hl;have hM:=fun st=>Ng ⟨0,s,none⟩ (.inl ⟨rfl,hs.1,hs.2,rfl⟩) st
 have hm0:Nd.mea ⟨0,s,none⟩=YZ s:=rfl;rw[hm0]at hM;have hne:s≠[]:=fun q=>by rw[q]at hs;have:=hs.1;simp at this
 have hff:=(Frm.app (L:=L) (X:=Ya ip td) T).trans hf;have hltX:∀i,Ya ip td i->i<L.length:=fun i hi=>h.lt hi
 have hnX:∀i,L.length<=i->i<L.length+3->¬ Ya ip td1 i:=fun i h1 h2 q=>by
  rcases hf.own i q with w|w
  ·have:=hltX i w;omega
  ·rw[lL]at w;omega
 have hg:∀j b,T[j]?=some b->L1[L.length+j]?=some b:=fun j b hb=>by
  have hj:=(List.getElem?_eq_some_iff.1 hb).1;rw[hf.old _ (by rw[lL];omega) (fun q=>by have:=hltX _ q;omega),QI];exact hb
 refine⟨L1,td1,L.length+1,[⟨L.length+1,.leaf s⟩],_,[(L.length+1,⟨0,0,YZ s⟩)],(L.length+2,Blk.arr 3 0 [.agg [.int .i64 0,.str s,.nils]])::[((L++T).length,Blk.arr 1 0 [.ptr A.length ip 0 0 0]),((L++T).length+1,Blk.arr 1 0 [.ptr A.length (L.length+1) 0 0 0]),((L++T).length+2,Blk.arr 1 0 [.func (.func Jn) [] [.ptr A.length (L.length+2) 0 0 0]])],X4 Y ?_,⟨hp,hff,?_,Rx.one (hg 1 _ (by rw[hT];rfl)) (hnX _ (by omega) (by omega)),?_,?_,.cons ⟨_,_,_,_,rfl,List.mem_cons_of_mem _ ?_,List.mem_cons_of_mem _ ?_,List.mem_cons_of_mem _ ?_,⟨L.length+2,rfl,?_⟩⟩ .nil,.leaf,by simp,.cons (by decide) (.cons (by decide) (.cons (by decide) (.cons (by decide) .nil)))⟩⟩
 ·have e0:(⟨A,false,L⟩:St)=⟨A,false,L++[]⟩:=by rw[lN]
  rw[e0];obtain⟨ka,hka,hka2⟩:∃ka,Tr.avO k=ka/\(ka=.nils\/ka=.lit []):=by
   cases k with
   | none=>exact⟨_,rfl,.inl Y⟩
   | some l=>have:l=[]:=hk;subst this;exact⟨_,rfl,.inr Y⟩
  rw[hT]at hS;simp only[Tr.av,Nd.av,slV,Mea.zero,hka]at *;rcases hka2 with rfl|rfl;all_goals repeat'(first|refine XM Y Y Y Y Y ?_|refine As Y Y Y Y ?_|refine CA Y Y Y Y Y Y Y ?_|refine ruS Y ?_|refine isS Y ?_|refine rkS Y ?_|refine cm0 Y Y Y ?_ ?_|(intro _;try omega)|(refine BI Y Y (fun _=>?_) (fun _=>?_)<;>try contradiction)|refine Zf Y Y Y ?_|refine X3 Y Y ?_|refine ZA Y Y Y (hM _) ?_|refine ZA Y Y Y (hS) ?_)
  all_goals try contradiction
  all_goals exact Jq (.inr Y) Y Y Y Y
 ·intro p hp
  rcases List.mem_cons.1 hp with rfl|q
  ·exact⟨hg 2 _ (by rw[hT];rfl),hnX _ (by omega) (by omega)⟩
  ·exact hx p q
 ·intro p hp
  simp only[List.mem_cons,List.not_mem_nil,or_false,lL]at hp;rcases hp with rfl|rfl|rfl|rfl<;>simp only<;>omega
 ·intro p hp
  simp only[List.mem_singleton]at hp;subst hp;simp
 ·simp
 ·simp
 ·simp
 ·simp
theorem ZtE{k:List Fr}{Q:JD}{A:List (Bool × List Blk)}{X:List Blk}{jb rx:Nat}{o hh v0 v3 v7 v20 v21 v22:AV}{mb mr ml:Int}{r:Ro}(h1:X[jb]?=some (Blk.arr 5 0 [.agg [o,hh,.int .i64 mb,.int .i64 mr,.int .i64 ml]]))(h2:X[rx]?=some (Blk.arr 5 0 [r.av]))(hne:jb≠rx)
 (hb:0<=mb/\mb<=262144/\0<=mr/\mr<=262144/\0<=ml/\ml<=262144) (hr:0<=r.m.b/\r.m.b<=65536/\0<=r.m.r/\r.m.r<=65536/\0<=r.m.l/\r.m.l<=65536)
 (h:Rk (S Tb) k Q .norm [(0,v0),(3,v3),(5,.ptr A.length jb 0 0 0),(7,v7),(20,v20),(21,v21),(22,v22)] ⟨A,false,X.set jb (.arr 5 0 [.agg [o,hh,.int .i64 (mb+r.m.b),.int .i64 (mr+r.m.r),.int .i64 (ml+r.m.l)]])⟩) :
 Ru (S Tb) (.seq Su (.seq Sv Sw)) k Q [(0,v0),(3,v3),(5,.ptr A.length jb 0 0 0),(7,v7),(10,.ptr A.length rx 0 0 0),(20,v20),(21,v21),(22,v22)] ⟨A,false,X⟩:=by
 have hlt:=(List.getElem?_eq_some_iff.1 h1).1;have h3:∀b,(X.set jb b)[rx]?=some (Blk.arr 5 0 [r.av]):=fun b=>by rw[jS hne];exact h2
 unfold Ro.av at h2 h3;repeat'(first|refine ZE Y h1 Y Y ?_|refine ZE Y h2 Y Y ?_|refine ruS Y ?_|refine isS Y ?_|refine ZV Y Y (by omega) ?_)
 refine Qn h1 Y Y Y Y Y ?_;repeat'(first|refine ZE Y (List.getElem?_set_self hlt) Y Y ?_|refine ZE Y (h3 _) Y Y ?_|refine ruS Y ?_|refine isS Y ?_|refine ZO ?_|refine ZV Y Y (by omega) ?_)
 refine Qn (List.getElem?_set_self hlt) Y Y Y Y Y ?_;rw[List.set_set];repeat'(first|refine ZE Y (List.getElem?_set_self hlt) Y Y ?_|refine ZE Y (h3 _) Y Y ?_|refine Qv ?_|refine isS Y ?_|refine ZO ?_|refine ZV Y Y (by omega) ?_)
 refine Qn (List.getElem?_set_self hlt) Y Y Y Y Y ?_;rw[List.set_set];refine Jg Y ?_;exact h
end Go.Q15
