/- A part of the proof: M12, M13, M16, M2b, M19, PB, M14, M20, M21, M15, MW, RA, W5, M1b, RB, W6, M42, M17, RC, RD, RE, RF, RG. No condition. -/
import Derived.Test.YtcdebbidfgmieaaGreatRsT6
set_option linter.unusedVariables false
set_option linter.unusedSimpArgs false
set_option maxHeartbeats 8000000
set_option maxRecDepth 100000
namespace Go.Q15
open Go Go.QAbs
variable {a cv td v v' vx z:AV}{agg ro:Bool}{e:Env}{A:List (Bool × List Blk)}{cls es ys:LV}{L':List Blk}{d g ib ip ix j jb jx n ob pl px vb ver w xb:Nat}{x:Opd}{O:Orc}{st:St}{t:Tr}{Q:YD}
section
variable {O:Orc}{k:List Fr}{Q:YD}{e:Env}{A:List (Bool × List Blk)}{L:List Blk}{keep:List Nat}{is:List PI}{d:Nat}
theorem ZE0{a b:Opd}{i o:Nat}{x:AV}(ha:Zc e a=some (.ptr A.length ix ver i o))(hb:Zc e b=some (.ptr A.length jx vb ib ob))(hne:Nat.beq ix jx=false)
 (hg:L[ix]?=some (Blk.arr w ver es)) (hx:es[i]?=some x) (hv:JU x agg o n=some v) (h:Is O is keep k Q ((d,v)::e) ⟨A,false,L⟩):Is O (⟨some d,none,false,.w (.hide [b]) (.ld agg n a)⟩::is) keep k Q e ⟨A,false,L⟩:=by
 refine Zif ?_ h
 have hp:Y2 (XH e [b]) A.length ix=false:=by
  have hxy:ix≠jx:=fun q=>by subst q;simp at hne
  simp[Y2,XH,ZF hb,ZAe,hxy]
 have hgt:(St.hide (Y2 (XH e [b])) ⟨A,false,L⟩).get A.length ix=some (Blk.arr w ver es):=by
  rw[ZAJ,hp,St.get_cur,hg];rfl
 simp only[QC,PO.reads,if_true,evalPO,ZF ha,loadP,hgt,ZEM,hx,hv,oS,Qf,QV]
theorem ZDJ{a:Opd}{i o:Nat}{y:AV}(hg:L[ix]?=some (Blk.arr w ver es))(ha:Zc e a=some (.ptr A.length ix ver i o))(hx:Zc e x=some v)(hy:es[i]?=some y)(him:imm 6 v=true)
 (hs:ZY QD (A.length+1) ⟨A,false,L⟩ v=some (v,⟨A,false,L⟩)) (hv:(JQ w y o n v).bind Yd=some v') (h:Is O is keep k Q e ⟨A,false,L.set ix (Blk.arr w ver (es.set i v'))⟩):Is O (⟨none,none,false,.w (.plain a) (.st n a x)⟩::is) keep k Q e ⟨A,false,L⟩:=by
 have hlt:ix<L.length:=by
  rw[List.getElem?_eq_some_iff]at hg;exact hg.1
 have hv':JQ w y o n v=some v':=by
  simp only[oB]at hv;obtain⟨u,h1,h2⟩:=hv;rw[h1,X9 h2]
 refine Z3 (od:=none) (v:=.undef) (st':=⟨A,false,L.set ix (Blk.arr w ver (es.set i v'))⟩) ?_ h
 have hsb:ZLo (.ptr A.length ix ver i o) (.ptr A.length ix ver i o)=true:=by simp[ZLo]
 simp only[Zg,QC,ZO7,ZF ha,ZF hx,hsb,him,and_self,if_true];simp only[evalPO,ZF ha,ZF hx,ZBP,hs,oS,ZE7,St.get_cur,hg,vis,Xr,if_true,hy,hv',St.put,if_false,jB,if_pos hlt,ZA9]
end
theorem ZF8{L:List Blk}{x:Ex}{b b2 c ix2 ver2 w2:Nat}{t2:Tr}{k:IntKind}{n:Int}{u:AV}(hA:A=st.A++[(st.ro,st.L)])(hx:x=.norm\/x=.ret)(ht:J1 e b=some (.ptr A.length ix ver 0 0))(hg:L[ix]?=some (.arr w ver [t.av]))
 (ht2:J1 e b2=some (.ptr A.length ix2 ver2 0 0)) (hg2:L[ix2]?=some (.arr w2 ver2 [t2.av])) (hc:J1 e c=some (.int k n)) (hu:.tup [t.av,t2.av,.int k n]=u):JD false [.c b true 7,.c b2 true 7,.s c] (x,e,⟨A,false,L⟩)=some (u,st):=by
 subst hu;refine ZEB (v:=.tup [t.av,t2.av,.int k n]) (ro:=false) (L':=L) hA hx ?_ ?_ Y
 ·simp only[QW,ZD9,ZJG ht hg,ZJG ht2 hg2,oS]
  simp only[ZBQ,QL hc,oS,Option.map_some,ZGI]
 ·show (mapSt (ZY 5 A.length) _ _).bind ZdU=_
  rw[mapSt,ZOY 3,oS,mapSt,ZOY 3];rfl
theorem Zpz{N:ZJ}(hN:GoodN N):∀(n:Nat) {st:St} {lv ix:Nat} (hr:Rd st lv ix N) {t:Tr} (ht:VE N t) (hn:t.h=n) (a:Int) (h0:0<=a) (h1:a<=t.bytes) (hb:t.bytes<=65536),
 S Tb ZAs [.ptr lv ix 0 0 0,t.av,.int .i64 a] st=some (.tup [(cutF N n t a).1.av,(cutF N n t a).2.av,.int .i64 0],st):=by
 intro n
 induction n with
 | zero =>
  intro st lv ix hr t ht hn a h0 h1 hb
  refine QN Y (fun A hA=>?_)
  have hrp:=fun L=>hr.push hA (ro:=false) (L:=L)
  have hB:=fun st=>ZBw t ht.pos.1 (by omega) st
  rw[cutF]
  by_cases ha:a=0
  ·rw[if_pos ha]
   repeat'(first|refine ZE ?_|refine ZD ?_|refine ZG Y ?_|refine ZB Y ?_|refine ZC ?_|(refine cm0 Y Y Y ?_ ?_<;>intro _<;>try omega)|refine ZQ Y ?_|refine Zx Y Y Y ?_|refine Zi Y Y Y ?_|refine Zv Y Y Y (QQ _ _ _) (Qw _ _) Y ?_|refine Z1 Y (Z4 _) (QG _) ?_|refine ZE0 Y Y Y Y Y (Zo _) ?_|refine ZDJ Y Y Y Y Y Y Y ?_|refine ZP ?_|refine ZO ?_|refine Zd ?_)
   all_goals try omega
   exact ZF8 (t:=.zero) hA (.inr Y) Y Y Y Y Y Y
  ·rw[if_neg ha]
   by_cases ha2:a=t.bytes
   ·rw[if_pos ha2]
    repeat'(first|refine ZE ?_|refine ZD ?_|refine ZG Y ?_|refine ZB Y ?_|refine ZC ?_|(refine cm0 Y Y Y ?_ ?_<;>intro _<;>try omega)|refine ZQ Y ?_|refine ZH Y ?_|refine Zx Y Y Y ?_|refine Zi Y Y Y ?_|refine Zv Y Y Y Y Y Y ?_|refine ZU Y Y Y (Zo _) ?_|refine Zv Y Y Y (QQ _ _ _) (Qw _ _) Y ?_|refine Z1 Y (Z4 _) (QG _) ?_|refine ZA Y Y (by first|rfl|(simp only[lE,lN,lC,Ze,ZW,ZX];first|done|rfl)) (hB _) ?_|refine ZI ?_|refine ZP ?_|refine ZO ?_|refine Zd ?_)
    all_goals try omega
    exact ZF8 (t2:=.zero) hA (.inr Y) Y Y Y Y Y Y
   ·rw[if_neg ha2]
    have hv:=ht.val (by omega)
    have hl:=hv.line hn
    have hL:=fun L=>ZfP (hrp L) hv
    have hC:=fun st=>ZrM (Qe N t) a st
    rw[<- Zjp hl.2 (by omega)]at hC
    generalize Qe N t=s at *
    repeat'(first|refine ZE ?_|refine ZD ?_|refine ZG Y ?_|refine ZV Y Y ?_|refine Zw Y Y ?_|refine ZB Y ?_|refine ZC ?_|(refine cm0 Y Y Y ?_ ?_<;>intro _<;>try omega)|(refine cm0 Y Y Y ?_ ?_<;>intro _<;>try omega)|refine ZQ Y ?_|refine ZH Y ?_|refine Zx Y Y Y ?_|refine Zi Y Y Y ?_|refine Zv Y Y Y Y Y Y ?_|refine ZU Y Y Y (Zo _) ?_|refine Z1 Y (Z4 _) (QG _) ?_|refine ZU Y Y Y (XE _) ?_|refine ZA Y Y (by first|rfl|(simp only[lE,lN,lC,Ze,ZW,ZX];first|done|rfl)) (hB _) ?_|refine ZA Y Y (by first|rfl|(simp only[lE,lN,lC,Ze,ZW,ZX];first|done|rfl)) (hL _) ?_|refine ZA Y Y (by first|rfl|(simp only[lE,lN,lC,Ze,ZW,ZX];first|done|rfl)) (hC _) ?_|refine ZI ?_|refine ZP ?_|refine ZO ?_|refine Zd ?_)
    all_goals try omega
    exact ZF8 (t:=J2 (s.take a.toNat)) (t2:=J2 (s.drop a.toNat)) hA (.inr Y) Y Y Y Y Y Y
 | succ n ih =>
  intro st lv ix hr t ht hn a h0 h1 hb
  refine QN Y (fun A hA=>?_)
  have hrp:=fun L=>hr.push hA (ro:=false) (L:=L)
  have hB:=fun st=>ZBw t ht.pos.1 (by omega) st
  rw[cutF]
  by_cases ha:a=0
  ·rw[if_pos ha]
   repeat'(first|refine ZE ?_|refine ZD ?_|refine ZG Y ?_|refine ZB Y ?_|refine ZC ?_|(refine cm0 Y Y Y ?_ ?_<;>intro _<;>try omega)|refine ZQ Y ?_|refine Zx Y Y Y ?_|refine Zi Y Y Y ?_|refine Zv Y Y Y (QQ _ _ _) (Qw _ _) Y ?_|refine Z1 Y (Z4 _) (QG _) ?_|refine ZE0 Y Y Y Y Y (Zo _) ?_|refine ZDJ Y Y Y Y Y Y Y ?_|refine ZP ?_|refine ZO ?_|refine Zd ?_)
   all_goals try omega
   exact ZF8 (t:=.zero) hA (.inr Y) Y Y Y Y Y Y
  ·rw[if_neg ha]
   by_cases ha2:a=t.bytes
   ·rw[if_pos ha2]
    repeat'(first|refine ZE ?_|refine ZD ?_|refine ZG Y ?_|refine ZB Y ?_|refine ZC ?_|(refine cm0 Y Y Y ?_ ?_<;>intro _<;>try omega)|refine ZQ Y ?_|refine ZH Y ?_|refine Zx Y Y Y ?_|refine Zi Y Y Y ?_|refine Zv Y Y Y Y Y Y ?_|refine ZU Y Y Y (Zo _) ?_|refine Zv Y Y Y (QQ _ _ _) (Qw _ _) Y ?_|refine Z1 Y (Z4 _) (QG _) ?_|refine ZA Y Y (by first|rfl|(simp only[lE,lN,lC,Ze,ZW,ZX];first|done|rfl)) (hB _) ?_|refine ZI ?_|refine ZP ?_|refine ZO ?_|refine Zd ?_)
    all_goals try omega
    exact ZF8 (t2:=.zero) hA (.inr Y) Y Y Y Y Y Y
   ·rw[if_neg ha2]
    have vt:=ht.val (by omega)
    have h16:=vt.h16
    obtain⟨c1,c2,c3,c4⟩:=Jt hN vt (by omega)
    have hC:=fun L=>ZAv (hrp L) vt (by omega)
    generalize childs N t=l at *
    have hl:∀u∈l,Val N u/\u.h=n/\Big u:=fun u hu=>⟨(c1 u hu).1,by have:=(c1 u hu).2.1;omega,(c1 u hu).2.2⟩
    have hpos:∀u∈l,0<=u.bytes:=fun u hu=>by have:=(hl u hu).1.pos.2;omega
    obtain⟨s1,s2,s3,s4⟩:=ZZi l a (by omega) hpos h0 (by omega)
    have key:∀k Q p6 p7 L,
     (Rk (S Tb) k Q (.ex 0) [(0,.ptr lv ix 0 0 0),(2,.int .i64 (Q0 l a).2),(6,.ptr A.length p6 0 0 0),(7,.ptr A.length p7 0 0 0),(13,.lit (l.map Tr.av)),(14,.int .i64 (Q0 l a).1),(77,.bool false)] ⟨A,false,L⟩) ->
     Ru (S Tb) (.loop ZJ9) k Q [(0,.ptr lv ix 0 0 0),(2,.int .i64 a),(6,.ptr A.length p6 0 0 0),(7,.ptr A.length p7 0 0 0),(13,.lit (l.map Tr.av)),(14,.int .i64 0)] ⟨A,false,L⟩:=by
     intro k Q p6 p7 L hex
     refine Zy (α:=Nat × Int) (fun p=>[(0,.ptr lv ix 0 0 0),(2,.int .i64 p.2),(6,.ptr A.length p6 0 0 0),(7,.ptr A.length p7 0 0 0),(13,.lit (l.map Tr.av)),(14,.int .i64 p.1)]) (fun p=>⟨A,false,L⟩)
      (fun p=>p.1<l.length/\0<=p.2/\p.2<=a/\(Q0 l a).1=p.1+(Q0 (l.drop p.1) p.2).1/\(Q0 l a).2=(Q0 (l.drop p.1) p.2).2) (fun p=>l.length-p.1) (0,a) rfl rfl ⟨by simp only;omega,h0,Int.le_refl _,by simp,by simp⟩ ?_
     rintro⟨i,b⟩ ⟨i1,i2,i3,i4,i5⟩
     simp only at i1 i2 i3 i4 i5 ⊢
     have hu:l[i]?=some l[i]:=by simp[i1]
     generalize l[i]=u at hu;have hum:=jM hu;have hub:=hpos u hum
     have hu16:u.bytes<=65536:=by
      have e:=hu
      have e2:Tr.bytesL l=Tr.bytesL (l.take i)+(u.bytes+Tr.bytesL (l.drop (i+1))):=by
       conv=>lhs;rw[<- List.take_append_drop (i+1) l,ZZ hu,Tr.bytesL_append,Tr.bytesL_append]
       simp[Tr.bytesL];omega
      have:=Tr.bytesL_nonneg (l:=l.take i) (fun w hw=>hpos w (List.mem_of_mem_take hw))
      have:=Tr.bytesL_nonneg (l:=l.drop (i+1)) (fun w hw=>hpos w (List.mem_of_mem_drop hw))
      omega
     have hBu:∀w,l[((i:Nat):Int).toNat]?=some w->∀st,S Tb Qq [w.av] st=some (.int .i64 u.bytes,st):=by
      intro w hw st;have hw2:l[i]?=some w:=hw;rw[hu]at hw2
      have:=Option.some.inj hw2
      subst this
      exact ZBw u (hl u hum).1.pos.1 (by omega) st
     have hd:l.drop i=u::l.drop (i+1):=by
      rw[List.drop_eq_getElem_cons i1]
      congr 1
      rw[jE i1]at hu;exact Option.some.inj hu
     repeat'(first|refine ZE ?_|refine ZD ?_|refine ZG Y ?_|refine QK Y ?_|refine JZ Y Y ?_|refine Zr Y Y Y Y ?_|refine ZB Y ?_|refine ZC ?_|refine QH Y ?_|(refine cm0 Y Y Y ?_ ?_<;>intro _<;>try omega)|(refine cm0 Y Y Y ?_ ?_<;>intro _<;>try omega)|refine ZQ Y ?_|refine ZH Y ?_|refine Zh Y Y (by omega) ?_|refine Yc Y Y (by omega) ?_|refine YE Y Y (by omega) Z4 (fun _ _=>?_)|refine QA Y (Zo _) ?_|refine ZA Y Y (by first|rfl|(simp only[lE,lN,lC,Ze,ZW,ZX];first|done|rfl)) (hBu _ (by assumption) _) ?_|refine ZI ?_|refine Zq ?_|refine ZL ?_|refine Zb ?_|refine Z0 ?_|refine Z8 ?_|refine Zn ?_)
     all_goals try omega
     ·rename_i g1 g2 g3 g4 g5 g6
      have hne:l.drop (i+1)≠[]:=by
       intro q
       have:=congrArg List.length q
       rw[List.length_drop]at this
       simp at this;omega
      have hsk:Q0 (l.drop i) b=((Q0 (l.drop (i+1)) (b-u.bytes)).1+1,(Q0 (l.drop (i+1)) (b-u.bytes)).2):=by
       rw[hd]
       cases hq:l.drop (i+1) with
       | nil=>exact absurd hq hne
       | cons v r=>rw[Q0,if_pos (by omega)]
      refine⟨(i+1,b-u.bytes),⟨rfl,rfl⟩,⟨by simp only;omega,by simp only;omega,by simp only;omega,?_,?_⟩,by simp only;omega⟩
      ·simp only[i4,hsk];omega
      ·simp only[i5,hsk]
     ·have hsk : Q0 (l.drop i) b = (0, b) := by
       rw[hd]
       cases hq:l.drop (i+1) with
       | nil=>rfl
       | cons v r=>rw[Q0,if_neg (by omega)]
      rw[i4,i5,hsk]at hex;exact hex
     ·have hq:l.drop (i+1)=[]:=List.drop_of_length_le (by omega)
      have hsk:Q0 (l.drop i) b=(0,b):=by rw[hd,hq];rfl
      rw[i4,i5,hsk]at hex;exact hex
    repeat'(first|refine ZE ?_|refine ZD ?_|refine ZG Y ?_|refine ZV Y Y ?_|refine Zw Y Y ?_|refine ZB Y ?_|refine ZC ?_|(refine cm0 Y Y Y ?_ ?_<;>intro _<;>try omega)|(refine cm0 Y Y Y ?_ ?_<;>intro _<;>try omega)|refine ZH Y ?_|refine Zi Y Y Y ?_|refine ZU Y Y Y (Zo _) ?_|refine Z1 Y (Z4 _) (QG _) ?_|refine ZU Y Y Y (XE _) ?_|refine ZA Y Y (by first|rfl|(simp only[lE,lN,lC,Ze,ZW,ZX];first|done|rfl)) (hB _) ?_|refine ZA Y Y (by first|rfl|(simp only[lE,lN,lC,Ze,ZW,ZX];first|done|rfl)) (hC _) ?_|refine ZI ?_|refine ZL ?_)
    all_goals try omega
    refine key _ _ _ _ _ ?_
    generalize hk:(Q0 l a).1=k at *
    generalize hb2:(Q0 l a).2=b at *
    have hlm:(l.map Tr.av).length=l.length:=by simp
    have hh1:∀u∈l.take k,u.h<=65536:=fun u hu=>by have:=(hl u (List.mem_of_mem_take hu)).2.1;omega
    have hh2:∀u∈l.drop k,u.h<=65536:=fun u hu=>by have:=(hl u (List.mem_of_mem_drop hu)).2.1;omega
    have hh3:∀u∈l.drop (k+1),u.h<=65536:=fun u hu=>by have:=(hl u (List.mem_of_mem_drop hu)).2.1;omega
    have hG1:∀st,S Tb QP [.lit ((l.map Tr.av).take ((k:Nat):Int).toNat)] st=some ((grp (l.take k)).av,st):=fun st=>Xp (by rw[List.length_take];omega) hh1 (by rw[Int.toNat_natCast,<- List.map_take];exact .lit _)
    have hG2:∀st,S Tb QP [.lit ((l.map Tr.av).drop ((k:Nat):Int).toNat)] st=some ((grp (l.drop k)).av,st):=fun st=>Xp (by rw[List.length_drop];omega) hh2 (by rw[Int.toNat_natCast,<- List.map_drop];exact .lit _)
    have hG3:∀st,S Tb QP [.lit ((l.map Tr.av).drop (((k:Nat):Int)+1).toNat)] st=some ((grp (l.drop (k+1))).av,st):=fun st=>Xp (by rw[List.length_drop];omega) hh3 (by rw[show (((k:Nat):Int)+1).toNat=k+1 by omega,<- List.map_drop];exact .lit _)
    by_cases hz:b=0
    ·rw[if_pos hz]
     generalize grp (l.take k)=g1 at *
     generalize grp (l.drop k)=g2 at *
     repeat'(first|refine ZE ?_|refine ZD ?_|refine ZG Y ?_|refine ZB Y ?_|refine ZC ?_|(refine cm0 Y Y Y ?_ ?_<;>intro _<;>try omega)|refine ZQ Y ?_|refine Zv Y Y Y (QQ _ _ _) (Qw _ _) Y ?_|refine ZFH Y Y (by omega) (Yp _) ?_|refine ZKY Y Y (by omega) (Yp _) ?_|refine JX Y Y Y (hG1 _) ?_|refine ZA Y Y (by first|rfl|(simp only[lE,lN,lC,Ze,ZW,ZX];first|done|rfl)) (hG2 _) ?_|refine ZP ?_|refine ZO ?_|refine Zd ?_|refine Za Y ?_)
     all_goals try omega
     exact ZF8 hA (.inr Y) Y Y Y Y Y Y
    ·rw[if_neg hz]
     obtain⟨u,hu⟩:∃u,l[k]?=some u:=⟨l[k],by simp[s1]⟩
     rw[hu];simp only[Option.getD_some];obtain⟨u1,u2,u3⟩:=hl u (jM hu);have hub:=s4 u hu
     have hsum:Tr.bytesL l=Tr.bytesL (l.take k)+(u.bytes+Tr.bytesL (l.drop (k+1))):=by
      conv=>lhs;rw[<- List.take_append_drop (k+1) l,ZZ hu,Tr.bytesL_append,Tr.bytesL_append]
      simp[Tr.bytesL];omega
     have p1:=Tr.bytesL_nonneg (l:=l.take k) (fun w hw=>hpos w (List.mem_of_mem_take hw))
     have p2:=Tr.bytesL_nonneg (l:=l.drop (k+1)) (fun w hw=>hpos w (List.mem_of_mem_drop hw))
     have hc:=ZOb hN n u b (.inr u1) u2 s2 (by omega) (by omega)
     have hcut:∀w,l[((k:Nat):Int).toNat]?=some w->∀L,S Tb ZAs [.ptr lv ix 0 0 0,w.av,.int .i64 b] ⟨A,false,L⟩=some (.tup [(cutF N n u b).1.av,(cutF N n u b).2.av,.int .i64 0],⟨A,false,L⟩):=by
      intro w hw L;have hw2:l[k]?=some w:=hw;rw[hu]at hw2
      have:=Option.some.inj hw2
      subst this
      exact ih (hrp L) (.inr u1) u2 b s2 (by omega) (by omega)
     have a1:=(ZLc (N:=N) (l:=l.take k) (by rw[List.length_take];omega) (show n+1<=16 by omega) (fun u hu=>hl u (List.mem_of_mem_take hu))).1
     have d1:=(ZLc (N:=N) (l:=l.drop (k+1)) (by rw[List.length_drop];omega) (show n+1<=16 by omega) (fun u hu=>hl u (List.mem_of_mem_drop hu))).1
     have hcl:=hc.l;have hcr:=hc.r
     have hK1:=fun L=>ZOc hN (hrp L) a1 hcl
     have hK2:=fun L=>ZOc hN (hrp L) hcr d1
     generalize cutF N n u b=r at *
     obtain⟨r1,r2⟩:=r
     simp only at *
     generalize grp (l.take k)=g1 at *
     generalize grp (l.drop (k+1))=g3 at *
     generalize concM N g1 r1=z1 at *
     generalize concM N r2 g3=z2 at *
     repeat'(first|refine ZE ?_|refine ZD ?_|refine ZG Y ?_|refine Zw Y Y ?_|refine ZB Y ?_|refine ZC ?_|(refine cm0 Y Y Y ?_ ?_<;>intro _<;>try omega)|(refine cm0 Y Y Y ?_ ?_<;>intro _<;>try omega)|refine ZH Y ?_|refine Zh Y Y (by omega) ?_|refine Zi Y Y Y ?_|refine YE Y Y (by omega) Z4 (fun _ _=>?_)|refine QA Y (Zo _) ?_|refine ZU Y Y Y (Zo _) ?_|refine Zv Y Y Y (QQ _ _ _) (Qw _ _) Y ?_|refine ZFH Y Y (by omega) (Yp _) ?_|refine ZKY Y Y (by omega) (Yp _) ?_|refine JX Y Y Y (hG1 _) ?_|refine JX Y Y Y (hG3 _) ?_|refine ZA Y Y (by first|rfl|(simp only[lE,lN,lC,Ze,ZW,ZX];first|done|rfl)) (hcut _ (by assumption) _) ?_|refine ZA Y Y (by first|rfl|(simp only[lE,lN,lC,Ze,ZW,ZX];first|done|rfl)) (hK1 _) ?_|refine ZA Y Y (by first|rfl|(simp only[lE,lN,lC,Ze,ZW,ZX];first|done|rfl)) (hK2 _) ?_|refine ZE0 Y Y Y Y Y (Zo _) ?_|refine ZDJ Y Y Y Y (Zim 4 _) (QQ _ _ _) (Qw _ _) ?_|refine ZI ?_|refine ZP ?_|refine ZO ?_|refine Za Y ?_)
     all_goals try omega
     exact ZF8 hA (.inr Y) Y Y Y Y Y Y
theorem ZZk{lv:Nat}{N:ZJ}(hr:Rd st lv ix N)(ht:VE N t)(hb:t.bytes<=65536):S Tb YA [.ptr lv ix 0 0 0,t.av] st=some (.int .i64 0,st):=by
 rcases ht with h|h
 ·exact ZSh h
 ·exact ZR0 hr h hb
structure Out(st:St)(lv jb jx:Nat)(ver:Nat)(s:B8):Prop where
 wr:st.wr lv
 box:st.get lv jb=some (.arr 1 0 [.ref lv jx ver 0 s.length])
 blk:st.get lv jx=some (.arr 1 ver (QU s))
 ne:jx≠jb
def Q4(st:St)(lv jb jx ver:Nat)(s:B8):St:=(st.upd lv jx (.arr 1 ver (QU s))).upd lv jb (.arr 1 0 [.ref lv jx ver 0 s.length])
theorem Ziq(s:B8):Q7 1 (QU s)=true:=by
 induction s with
 | nil=>rfl
 | cons b s ih=>rw[QU,jC,Q7,List.all_cons];exact Bool.and_eq_true_iff.2 ⟨rfl,ih⟩
theorem Zir(b:Nat)(st:St)(s:B8):mapSt (ZY QD b) st (QU s)=some (QU s,st):=by
 induction s with
 | nil=>rfl
 | cons x s ih =>
  show mapSt (ZY QD b) st (AV.int .u8 x.toNat::QU s)=_
  rw[mapSt]
  show ((some (AV.int .u8 x.toNat,st)).bind fun r=>(mapSt (ZY QD b) r.2 (QU s)).bind (Y1 r.1))=_
  rw[oS,ih];rfl
theorem ZZl(s t:B8):QU (s++t)=QU s++QU t:=by simp[QU]
theorem ZIu(s:B8):(QU s).length=s.length:=by simp[QU]
theorem ZJL{v:Nat}:vis (some (Blk.arr w v es))=some (Blk.arr w v es):=rfl
theorem Out.put{lv:Nat}{s:B8}(h:Out st lv jb jx ver s)(ver':Nat)(t:B8):Out (Q4 st lv jb jx ver' t) lv jb jx ver' t:=by
 have g1:∀l' i',(st.upd lv jx (.arr 1 ver' (QU t))).get l' i'=if l'=lv/\i'=jx then some (.arr 1 ver' (QU t)) else st.get l' i':=fun l' i'=>St.get_upd h.blk ZJL
 have b1:(st.upd lv jx (.arr 1 ver' (QU t))).get lv jb=some (.arr 1 0 [.ref lv jx ver 0 s.length]):=by rw[g1,if_neg (fun q=>h.ne q.2.symm)];exact h.box
 have g2:∀l' i',(Q4 st lv jb jx ver' t).get l' i'=if l'=lv/\i'=jb then some (.arr 1 0 [.ref lv jx ver' 0 t.length]) else (st.upd lv jx (.arr 1 ver' (QU t))).get l' i':=fun l' i'=>St.get_upd b1 ZJL
 refine⟨St.wr_upd (St.wr_upd h.wr h.wr) (St.wr_upd h.wr h.wr),by rw[g2,if_pos ⟨rfl,rfl⟩],?_,h.ne⟩
 rw[g2,if_neg (fun q=>h.ne q.2),g1,if_pos ⟨rfl,rfl⟩]
theorem ZF9{lv:Nat}{s:B8}(h:Out st lv jb jx ver s)(ver':Nat)(t:B8){l' i':Nat}(hn:¬ (l'=lv/\(i'=jx\/i'=jb))):(Q4 st lv jb jx ver' t).get l' i'=st.get l' i':=by
 have b1:(st.upd lv jx (.arr 1 ver' (QU t))).get lv jb=some (.arr 1 0 [.ref lv jx ver 0 s.length]):=by
  rw[St.get_upd h.blk ZJL,if_neg (fun q=>h.ne q.2.symm)];exact h.box
 rw[Q4,St.get_upd b1 ZJL,if_neg (fun q=>hn ⟨q.1,.inr q.2⟩),St.get_upd h.blk ZJL,if_neg (fun q=>hn ⟨q.1,.inl q.2⟩)]
theorem ZOd{lv:Nat}{b c:Blk}:(st.upd lv ix b).upd lv ix c=st.upd lv ix c:=by
 unfold St.upd
 by_cases h:lv=st.A.length
 ·simp only[if_pos h,List.set_set]
 ·simp only[if_neg h,List.length_set]
  rcases Nat.lt_or_ge lv st.A.length with q|q
  ·simp only[List.set_set,List.getElem?_set,if_true,if_pos q,Option.getD_some,ZWg]
  ·simp only[List.set_eq_of_length_le q]
theorem ZOe{lv:Nat}{b c:Blk}(h:ix≠jx):(st.upd lv ix b).upd lv jx c=(st.upd lv jx c).upd lv ix b:=by
 unfold St.upd
 by_cases hl:lv=st.A.length
 ·simp only[if_pos hl]
  rw[List.set_comm _ _ h]
 ·simp only[if_neg hl,List.length_set]
  rcases Nat.lt_or_ge lv st.A.length with q|q
  ·simp only[List.set_set,List.getElem?_set,if_true,if_pos q,Option.getD_some,ZWg]
   rw[List.set_comm _ _ h]
  ·simp only[List.set_eq_of_length_le q]
theorem Zis{lv v1 v2:Nat}{s t:B8}(h:jx≠jb):Q4 (Q4 st lv jb jx v1 s) lv jb jx v2 t=Q4 st lv jb jx v2 t:=by
 unfold Q4
 rw[ZOe (st:=st.upd lv jx _) (fun q=>h q.symm),ZOd,ZOd]
theorem Zg5{L:List Blk}(hA:A=st.A++[(st.ro,st.L)]){lv:Nat}{s:B8}(hl:lv<=st.A.length):
 Q4 ⟨A,ro,L⟩ lv jb jx ver s=⟨(Q4 st lv jb jx ver s).A++[((Q4 st lv jb jx ver s).ro,(Q4 st lv jb jx ver s).L)],ro,L⟩:=by
 unfold Q4;rw[Ji hA hl]
 exact Ji Y (by rw[St.upd_A];exact hl)
section
variable {O:Orc}{k:List Fr}{Q:YD}{e:Env}{A:List (Bool × List Blk)}{L:List Blk}{keep:List Nat}{is:List PI}{d:Nat}
theorem Zky{s:Opd}{lv:Nat}{t u:B8}(hA:A=st.A++[(st.ro,st.L)])(ho:Out st lv jb jx ver t)(hs:Zc e s=some (.ref lv jx ver 0 t.length))(hx:Zc e x=some (.str u))(hl:t.length+u.length<4294967296)
 (h:∀A',A'=(st.upd lv jx (.arr 1 (ver+1) (QU (t++u)))).A++[((st.upd lv jx (.arr 1 (ver+1) (QU (t++u)))).ro,(st.upd lv jx (.arr 1 (ver+1) (QU (t++u)))).L)]->Is O is keep k Q ((d,.ref lv jx (ver+1) 0 (t.length+u.length))::e) ⟨A',false,L⟩) :
 Is O (⟨some d,none,false,.app 1 1 s x⟩::is) keep k Q e ⟨A,false,L⟩:=by
 have hlv:=St.get_le ho.blk;refine Z3 (v:=.ref lv jx (ver+1) 0 (t.length+u.length)) (st':=St.upd ⟨A,false,L⟩ lv jx (.arr 1 (ver+1) (QU (t++u)))) ?_ ?_
 ·have hg:=ZS hA (ro:=false) (L:=L) ho.blk
  have hw:=XK hA hlv ho.wr (ro:=false) (L:=L)
  simp only[Zg,evalPO,ZF hs,ZF hx,elems,oS,JR,ZIu,Ziq,if_true,Zir,ZdX,hg,ZKM,true_and,if_pos (show 0+t.length<=t.length/\t.length+u.length<4294967296/\1<=4096 by omega),List.drop_zero]
  rw[List.take_of_length_le (by rw[ZIu];omega),<- ZZl,St.put_upd hw hg]
  rfl
 ·rw[Ji hA hlv]
  exact h _ Y
end
theorem Rd.out{lv:Nat}{s:B8}{N:ZJ}(hr:Rd st pl px N)(ho:Out st lv jb jx ver s)(hne:pl≠lv)(v:Nat)(t:B8):Rd (Q4 st lv jb jx v t) pl px N:=by
 obtain⟨a0,a1,im,a3,a4,a5,h1,h2⟩:=hr
 exact⟨a0,a1,im,a3,a4,a5,by rw[ZF9 ho _ _ (fun q=>hne q.1)];exact h1,by rw[ZF9 ho _ _ (fun q=>hne q.1)];exact h2⟩
structure WalkAt(st:St)(lv ab ob xb wb pl px:Nat)(N:ZJ):Prop where
 rd:Rd st pl px N
 lt:pl≠lv
 a:st.get lv ab=some (.arr 1 0 [.ptr pl px 0 0 0])
 w:st.get lv wb=some (.arr 1 0 [.func (.func Yq) [] [.ptr lv ab 0 0 0,.ptr lv ob 0 0 0,.ptr lv wb 0 0 0]])
 na:ab≠xb/\ab≠ob
 nw:wb≠xb/\wb≠ob
theorem WalkAt.put{lv ab wb:Nat}{N:ZJ}{s:B8}(h:WalkAt st lv ab ob xb wb pl px N)(ho:Out st lv ob xb ver s)(v:Nat)(t:B8):WalkAt (Q4 st lv ob xb v t) lv ab ob xb wb pl px N :=
 ⟨h.rd.out ho h.lt v t,h.lt,by rw[ZF9 ho _ _ (fun q=>by rcases q.2 with w|w;exact h.na.1 w;exact h.na.2 w)];exact h.a,by rw[ZF9 ho _ _ (fun q=>by rcases q.2 with w|w;exact h.nw.1 w;exact h.nw.2 w)];exact h.w,h.na,h.nw⟩
theorem Zg6{o:Option Blk}{b:Blk}(h:vis o=some b):o=some b:=by
 cases o with
 | none=>simp[vis]at h
 | some c=>cases c<;>simp[vis]at h<;>exact congrArg some h
theorem ZZm{α:Type}{l:List α}{i:Nat}{b:α}(h:l[i]?=some b):l.set i b=l:=by
 obtain⟨h1,h2⟩:=List.getElem?_eq_some_iff.1 h;subst h2;exact List.set_getElem_self h1
theorem upd_same{lv:Nat}{b:Blk}(h:st.get lv ix=some b):st.upd lv ix b=st:=by
 unfold St.upd
 by_cases q:lv=st.A.length
 ·rw[if_pos q]
  rw[St.get,if_pos q]at h;have h2:=Zg6 h;rw[ZZm h2]
 ·rw[if_neg q]
  rw[St.get,if_neg q]at h
  cases hr:st.A[lv]? with
  | none=>rw[hr]at h;simp at h
  | some r =>
   rw[hr]at h;have h2:=Zg6 h;have e1:r.2.set ix b=r.2:=ZZm h2;simp only[Option.getD_some,ZWg,e1]
   rw[show (r.1,r.2)=r from rfl]
   rw[ZZm hr]
theorem Out.same{lv:Nat}{s:B8}(h:Out st lv jb jx ver s):Q4 st lv jb jx ver s=st:=by
 rw[Q4,upd_same h.blk,upd_same h.box]
theorem Out.push{L:List Blk}(hA:A=st.A++[(st.ro,st.L)]){lv:Nat}{s:B8}(h:Out st lv jb jx ver s):Out ⟨A,ro,L⟩ lv jb jx ver s :=
 ⟨XK hA (St.get_le h.blk) h.wr,ZS hA h.box,ZS hA h.blk,h.ne⟩
theorem WalkAt.push{L:List Blk}(hA:A=st.A++[(st.ro,st.L)]){lv ab wb:Nat}{N:ZJ}(h:WalkAt st lv ab ob xb wb pl px N):WalkAt ⟨A,ro,L⟩ lv ab ob xb wb pl px N :=
 ⟨h.rd.push hA,h.lt,ZS hA h.a,ZS hA h.w,h.na,h.nw⟩
theorem wk4(t:Tr)(a b c:AV)(ha:weak a=a)(hb:weak b=b)(hc:weak c=c):ZX (Ze ([]++[t.av]++[a,b,c]))=some [t.av,a,b,c]:=by
 simp only[lE,lC,Ze,ZW,ha,hb,hc,ZX]
theorem ZqS{N:ZJ}(hN:GoodN N):∀(n:Nat) (t:Tr),Val N t->t.h=n->t.bytes<=65536->∀ {st:St} {lv ab ob xb wb pl px ver:Nat} {s:B8},WalkAt st lv ab ob xb wb pl px N->Out st lv ob xb ver s->s.length+t.bytes<4294967296 ->
 Sp Tb Yq [t.av,.ptr lv ab 0 0 0,.ptr lv ob 0 0 0,.ptr lv wb 0 0 0] st fun v st'=>v=.int .i64 0/\∃ver',st'=Q4 st lv ob xb ver' (s++t.txt N):=by
 intro n
 induction n with
 | zero =>
  intro t hv hh hb st lv ab ob xb wb pl px ver s hw ho hl;refine ZmS Y ?_;obtain⟨A,hA⟩:∃A,A=st.A++[(st.ro,st.L)]:=⟨_,rfl⟩;rw[<- hA]
  have hL:=fun L=>ZfP (hw.rd.push hA (ro:=false) (L:=L)) hv
  have hln:=hv.line hh;have htx:=ZIt hv hh;rw[htx]
  have hg1:=fun L=>ZS hA (ro:=false) (L:=L) hw.a
  have hg2:=fun L=>ZS hA (ro:=false) (L:=L) ho.box
  generalize Qe N t=u at *
  repeat'(first|refine ZE ?_|refine ZD ?_|refine ZG Y ?_|refine ZV Y Y ?_|refine Zw Y Y ?_|refine ZB Y ?_|refine ZC ?_|(refine cm0 Y Y Y ?_ ?_<;>intro _<;>try omega)|refine ZQ Y ?_|refine Qv Y Y (Zo _) ?_|refine Z1 Y (Z4 _) (QG _) ?_|refine ZU Y Y Y (XE _) ?_|refine QB Y (hg1 _) Y Y ?_|refine ZA Y Y (by first|rfl|(simp only[lE,lN,lC,Ze,ZW,ZX];first|done|rfl)) (hL _) ?_|refine QB Y (hg2 _) Y Y ?_)
  all_goals try omega
  refine Zky hA ho Y Y (by omega) (fun A' hA'=>?_)
  have hgo:(st.upd lv xb (.arr 1 (ver+1) (QU (s++u)))).get lv ob=some (.arr 1 0 [.ref lv xb ver 0 s.length]):=by
   rw[St.get_upd ho.blk ZJL,if_neg (fun q=>ho.ne q.2.symm)];exact ho.box
  refine is_stP hA' Y Y (St.wr_upd ho.wr ho.wr) hgo Y (Ja _ (Nat.lt_succ_self _)) Y (fun A2 hA2=>?_)
  repeat'(first|refine ZE ?_|refine ZD ?_|refine ZG Y ?_|refine ZB Y ?_|refine ZC ?_|refine ZP ?_|refine ZO ?_|refine Zd ?_)
  refine⟨_,_,Zj hA2 (.inr Y) Y Y Y Y Y,rfl,ver+1,?_⟩;unfold Q4;rw[lL];rfl
 | succ n ih =>
  intro t hv hh hb st lv ab ob xb wb pl px ver s hw ho hl;refine ZmS Y ?_;obtain⟨A,hA⟩:∃A,A=st.A++[(st.ro,st.L)]:=⟨_,rfl⟩;rw[<- hA]
  obtain⟨c1,c2,c3,c4⟩:=Jt hN hv (by omega)
  have hC:=fun L=>ZAv (hw.rd.push hA (ro:=false) (L:=L)) hv (by omega)
  have htx:=ZAw hN hv (by omega)
  have hg1:=fun L=>ZS hA (ro:=false) (L:=L) hw.a
  rw[htx];rw[<- c4]at hl hb
  generalize childs N t=l at *
  have hpos:∀u∈l,1<=u.bytes:=fun u hu=>(c1 u hu).1.pos.2
  repeat'(first|refine ZE ?_|refine ZD ?_|refine ZG Y ?_|refine ZV Y Y ?_|refine Zw Y Y ?_|refine ZB Y ?_|refine ZC ?_|refine QH Y ?_|(refine cm0 Y Y Y ?_ ?_<;>intro _<;>try omega)|(refine cm0 Y Y Y ?_ ?_<;>intro _<;>try omega)|refine ZH Y ?_|refine Qv Y Y (Zo _) ?_|refine Z1 Y (Z4 _) (QG _) ?_|refine ZU Y Y Y (XE _) ?_|refine QB Y (hg1 _) Y Y ?_|refine ZA Y Y (by first|rfl|(simp only[lE,lN,lC,Ze,ZW,ZX];first|done|rfl)) (hC _) ?_|refine ZI ?_|refine ZL ?_)
  all_goals try omega
  have hst:st=Q4 st lv ob xb ver s:=ho.same.symm
  refine Zy (α:=Nat × List Blk × Nat) (fun p=>[(3,.ptr lv wb 0 0 0),(35,.lit (l.map Tr.av)),(36,.int .i64 l.length),(37,.int .i64 p.1)])
   (fun p=>⟨(Q4 st lv ob xb p.2.2 (s++Tr.txtL N (l.take p.1))).A++[((Q4 st lv ob xb p.2.2 (s++Tr.txtL N (l.take p.1))).ro,(Q4 st lv ob xb p.2.2 (s++Tr.txtL N (l.take p.1))).L)],false,p.2.1⟩)
   (fun p=>p.1<=l.length) (fun p=>l.length-p.1) (0,[Blk.arr 7 0 [t.av]],ver) rfl ?_ (by simp) ?_
  ·simp only[List.take_zero,Tr.txtL,lN,<- hst,<- hA]
   rfl
  rintro⟨i,G,ver⟩ hi
  simp only at hi ⊢
  have hw2:=hw.put ho ver (s++Tr.txtL N (l.take i));have ho2:=ho.put ver (s++Tr.txtL N (l.take i))
  have hpp:∀v2 t2,Q4 (Q4 st lv ob xb ver (s++Tr.txtL N (l.take i))) lv ob xb v2 t2=Q4 st lv ob xb v2 t2:=fun v2 t2=>Zis ho.ne
  generalize hs1:Q4 st lv ob xb ver (s++Tr.txtL N (l.take i))=st1 at *
  obtain⟨A1,hA1⟩:∃A1,A1=st1.A++[(st1.ro,st1.L)]:=⟨_,rfl⟩;rw[<- hA1]
  have hgw:=fun L=>ZS hA1 (ro:=false) (L:=L) hw2.w
  repeat'(first|refine ZE ?_|refine ZD ?_|refine ZG Y ?_|refine ZB Y ?_|refine ZC ?_|(refine cm0 Y Y Y ?_ ?_<;>intro _<;>try omega)|refine ZQ Y ?_|refine ZH Y ?_|refine Z1 Y Y Y ?_|refine YE Y Y (by omega) Z4 (fun _ _=>?_)|refine QA Y (Zo _) ?_|refine YQ Y Y Y (QQ _ _ _) (Qw _ _) Y ?_|refine ZI ?_|refine ZP ?_|refine Zq ?_|refine ZL ?_|refine ZO ?_|refine Zb ?_|refine Za Y ?_|refine Zn ?_)
  ·rename_i u hu
   have hu2:l[i]?=some u:=hu;have hum:=jM hu2
   have hsum:Tr.bytesL l=Tr.bytesL (l.take i)+(u.bytes+Tr.bytesL (l.drop (i+1))):=by
    conv=>lhs;rw[<- List.take_append_drop (i+1) l,ZZ hu2,Tr.bytesL_append,Tr.bytesL_append]
    simp[Tr.bytesL];omega
   have p1:=ZLd hN (l:=l.take i) (fun w hw=>(c1 w (List.mem_of_mem_take hw)).1)
   have p2:=Tr.bytesL_nonneg (l:=l.drop (i+1)) (fun w hw=>by have:=hpos w (List.mem_of_mem_drop hw);omega)
   have p3:=Tr.bytesL_nonneg (l:=l.take i) (fun w hw=>by have:=hpos w (List.mem_of_mem_take hw);omega)
   have hle:lv<=st1.A.length:=St.get_le ho2.blk
   have htx2:s++Tr.txtL N (l.take (i+1))=s++Tr.txtL N (l.take i)++u.txt N:=by
    rw[ZZ hu2,Tr.txtL_append,List.append_assoc];simp[Tr.txtL]
   have ihu:=fun L=>ih u (c1 u hum).1 (by have:=(c1 u hum).2.1;omega) (by omega) (hw2.push hA1 (ro:=false) (L:=L)) (ho2.push hA1 (ro:=false) (L:=L)) (by rw[lL];omega)
   refine QB Y (hgw _) Y Y ?_
   repeat'(refine Qv Y Y (Zo _) ?_)
   refine ZVk Y Y (wk4 _ _ _ _ Y Y Y) (ihu _) ?_
   rintro v st' ⟨rfl,v2,rfl⟩
   rw[Zg5 hA1 hle,hpp,<- htx2]
   repeat'(first|refine ZE ?_|refine ZD ?_|refine ZG Y ?_|refine ZB Y ?_|refine ZC ?_|(refine cm0 Y Y Y ?_ ?_<;>intro _<;>try omega)|refine ZH Y ?_|refine Zh Y Y (by omega) ?_|refine ZI ?_|refine Z0 ?_|refine Z8 ?_)
   exact⟨(i+1,_,v2),⟨rfl,rfl⟩,by simp only;omega,by simp only;omega⟩
  ·have hi':i=l.length:=by omega
   subst hi'
   rw[List.take_length]at *
   refine⟨_,_,Zj hA1 (.inr Y) Y Y Y Y Y,rfl,ver,?_⟩;exact hs1.symm
structure AR where
 blk:List Int
 n:Nat
 ver:Nat
 states:List Int
 gens:List Int
 most:Int
 nodes:ZJ
 slots:Int
 allocs:Int
 frees:Int
 stale:Int
namespace AR
def b0(r:AR):Blk:=.arr 1 0 (r.states.map (.int .u8))
def b1(r:AR):Blk:=.arr 1 r.ver (r.blk.map (.int .i64))
def b2(r:AR):Blk:=.arr 1 0 (r.gens.map (.int .u64))
def b3(r:AR)(lv b:Nat):Blk:=.arr 4 0 [.agg [.ref lv (b+1) r.ver 0 r.n,.ref lv b 0 0 r.states.length,.ref lv (b+2) 0 0 r.gens.length,.int .u64 r.most]]
def b4(r:AR):Blk:=.map (r.nodes.map nodeAV)
def b5(r:AR)(lv b:Nat):Blk:=.arr 6 0 [.agg [.int .i64 r.slots,.ptr lv (b+3) 0 0 0,.map lv (b+4),.int .i64 r.allocs,.int .i64 r.frees,.int .i64 r.stale]]
end AR
structure Has(st:St)(lv b:Nat)(r:AR):Prop where
 wr:st.wr lv
 h0:st.get lv b=some r.b0
 h1:st.get lv (b+1)=some r.b1
 h2:st.get lv (b+2)=some r.b2
 h3:st.get lv (b+3)=some (r.b3 lv b)
 h4:st.get lv (b+4)=some r.b4
 h5:st.get lv (b+5)=some (r.b5 lv b)
theorem ZBe{T:Tab}{f:FuncId}{body:PC}{res:List RV}{args:LV}{st2:St}(hT:T f=some (.pf ⟨false,body,res⟩))
 (h:∀A,A=st.A++[(st.ro,st.L)]->Ru (S T) body [] (fun x e st'=>JD false res (x,e,st')=some (v,st2)) (Qc 0 args) ⟨A,false,[]⟩):S T f args st=some (v,st2):=by
 obtain⟨⟨x,e',st',h1,h2⟩⟩:=h _ rfl;refine Zli hT ?_;simp only[Jv,jB,if_false,St.push,h1,oS];exact h2
def AR.take(r:AR)(s:Nat):AR:={ r with n:=r.n-1,states:=r.states.set s 1 }
def Qp(st:St)(lv b:Nat)(r:AR)(s:Nat):St:=(st.upd lv (b+3) ((r.take s).b3 lv b)).upd lv b (r.take s).b0
theorem ZE1{lv b:Nat}{r:AR}(h:Has st lv b r)(s:Nat)(l' i':Nat):(Qp st lv b r s).get l' i'=if l'=lv/\i'=b then some (r.take s).b0 else if l'=lv/\i'=b+3 then some ((r.take s).b3 lv b) else st.get l' i':=by
 have g1:∀l' i',(st.upd lv (b+3) ((r.take s).b3 lv b)).get l' i'=if l'=lv/\i'=b+3 then some ((r.take s).b3 lv b) else st.get l' i':=fun l' i'=>St.get_upd h.h3 rfl
 have b1:(st.upd lv (b+3) ((r.take s).b3 lv b)).get lv b=some r.b0:=by rw[g1,if_neg (by omega)];exact h.h0
 rw[Qp,St.get_upd b1 rfl,g1]
theorem Has.take{lv b:Nat}{r:AR}(h:Has st lv b r)(s:Nat):Has (Qp st lv b r s) lv b (r.take s):=by
 refine⟨St.wr_upd (St.wr_upd h.wr h.wr) (St.wr_upd h.wr h.wr),?_,?_,?_,?_,?_,?_⟩
 ·rw[ZE1 h,if_pos ⟨rfl,rfl⟩]
 ·rw[ZE1 h,if_neg (by omega),if_neg (by omega)];exact h.h1
 ·rw[ZE1 h,if_neg (by omega),if_neg (by omega)];exact h.h2
 ·rw[ZE1 h,if_neg (by omega),if_pos ⟨rfl,rfl⟩]
 ·rw[ZE1 h,if_neg (by omega),if_neg (by omega)];exact h.h4
 ·rw[ZE1 h,if_neg (by omega),if_neg (by omega)];exact h.h5
theorem Zml{lv b:Nat}{r:AR}(h:Has st lv b r){k s:Nat}(hn:r.n=k+1)(hk:r.blk[k]?=some (s:Int))(hs:s<r.states.length)(hs2:s<16384)(hg:r.gens[s]?=some (g:Int))(hg1:1<=g/\g<=4294967295)(hbig:r.n<65536):
 S Tb XD [.ptr lv (b+3) 0 0 0] st=some (.tup [.int .u64 ((g*65536+s:Nat):Int),.int .i64 0],Qp st lv b r s):=by
 refine ZBe Y (fun A hA=>?_)
 have g1:=fun L=>ZS hA (ro:=false) (L:=L) h.h1
 have g3:=fun L=>ZS hA (ro:=false) (L:=L) h.h3
 unfold AR.b1 at g1;unfold AR.b3 at g3;rw[hn]at g3
 have hM:=fun st=>Zjl s g hs2 hg1 st
 repeat'(first|refine ZE ?_|refine ZD ?_|refine ZG Y ?_|refine ZV Y Y ?_|refine ZB Y ?_|refine ZC ?_|refine Z7 Y Y ?_|refine Jp Y ?_|(refine cm0 Y Y Y ?_ ?_<;>intro _<;>try omega)|refine ZH Y ?_|refine Yc Y Y (by omega) ?_|refine JN Y Y Y Y ?_|refine QB Y (g3 _) Y Y ?_|refine ZI ?_)
 all_goals try omega
 have hw1:∀L,wIs 1 r.ver (St.get ⟨A,false,L⟩ lv (b+1))=true:=fun L=>by rw[g1];simp[wIs]
 refine ZBT Y Y (by omega) (hw1 _) ?_
 refine QB (x:=.int .i64 s) Y (g1 _) (by rw[show 0+(((k+1:Nat):Int)-1).toNat=k by omega,jG,hk];rfl) rfl ?_
 repeat'(first|refine ZE ?_|refine ZD ?_|refine ZG Y ?_|refine ZV Y Y ?_|refine ZB Y ?_|refine ZC ?_|refine Z7 Y Y ?_|refine Jp Y ?_|refine Yc Y Y (by omega) ?_|refine QB Y (g3 _) Y Y ?_)
 refine ZKZ Y Y (by omega) (hw1 _) ?_
 repeat'(first|refine ZV Y Y ?_|refine Z7 Y Y ?_)
 have hle:=St.get_le h.h3;have h3':=h.h3;unfold AR.b3 at h3';rw[hn]at h3'
 refine is_stP hA Y Y h.wr h3' Y (Ja _ (Nat.lt_succ_self _)) Y (fun A1 hA1=>?_)
 have e1:(((k+1:Nat):Int)-1).toNat=k:=by omega
 have eB:Blk.arr 4 0 ([AV.agg [.ref lv (b+1) r.ver 0 (k+1),.ref lv b 0 0 r.states.length,.ref lv (b+2) 0 0 r.gens.length,.int .u64 r.most]].set 0 (.agg [.ref lv (b+1) r.ver 0 (((k+1:Nat):Int)-1).toNat,.ref lv b 0 0 r.states.length,.ref lv (b+2) 0 0 r.gens.length,.int .u64 r.most]))=(r.take s).b3 lv b:=by
  simp[AR.b3,AR.take,hn]
 rw[eB]at hA1
 have q1:∀l' i',(st.upd lv (b+3) ((r.take s).b3 lv b)).get l' i'=if l'=lv/\i'=b+3 then some ((r.take s).b3 lv b) else st.get l' i':=fun l' i'=>St.get_upd h.h3 rfl
 have hw:=St.wr_upd (b:=(r.take s).b3 lv b) (ix:=b+3) h.wr h.wr
 have k0:(st.upd lv (b+3) ((r.take s).b3 lv b)).get lv b=some r.b0:=by rw[q1,if_neg (by omega)];exact h.h0
 have k2:(st.upd lv (b+3) ((r.take s).b3 lv b)).get lv (b+2)=some r.b2:=by rw[q1,if_neg (by omega)];exact h.h2
 have k3:(st.upd lv (b+3) ((r.take s).b3 lv b)).get lv (b+3)=some ((r.take s).b3 lv b):=by rw[q1,if_pos ⟨rfl,rfl⟩]
 have et:Qp st lv b r s=(st.upd lv (b+3) ((r.take s).b3 lv b)).upd lv b (r.take s).b0:=rfl;rw[et]
 generalize st.upd lv (b+3) ((r.take s).b3 lv b)=st1 at *
 unfold AR.b0 at k0;unfold AR.b3 AR.take at k3;simp only[List.length_set]at k3
 have m0:=fun L=>ZS hA1 (ro:=false) (L:=L) k0
 have m3:=fun L=>ZS hA1 (ro:=false) (L:=L) k3
 have hw0:∀L,wIs 1 0 (St.get ⟨A1,false,L⟩ lv b)=true:=fun L=>by rw[m0];simp[wIs]
 repeat'(first|refine ZE ?_|refine ZD ?_|refine ZG Y ?_|refine ZV Y Y ?_|refine ZB Y ?_|refine ZC ?_|refine Z7 Y Y ?_|refine QB Y (m3 _) Y Y ?_|refine ZBT Y Y (by omega) (hw0 _) ?_)
 refine is_stP hA1 (y:=.int .u8 (r.states[s]'hs)) Y Y hw k0 ?_ Y Y (fun A2 hA2=>?_)
 ·rw[show 0+((s:Nat):Int).toNat=s by omega,jG,jE hs];rfl
 have eS:Blk.arr 1 0 ((r.states.map (AV.int .u8)).set (0+((s:Nat):Int).toNat) (.int .u8 1))=(r.take s).b0:=by
  rw[show 0+((s:Nat):Int).toNat=s by omega]
  unfold AR.b0 AR.take;simp only[List.map_set]
 rw[eS]at hA2
 have q2:∀l' i',(st1.upd lv b (r.take s).b0).get l' i'=if l'=lv/\i'=b then some (r.take s).b0 else st1.get l' i':=fun l' i'=>St.get_upd k0 rfl
 have n2:(st1.upd lv b (r.take s).b0).get lv (b+2)=some r.b2:=by rw[q2,if_neg (by omega)];exact k2
 have n3:(st1.upd lv b (r.take s).b0).get lv (b+3)=some (.arr 4 0 [.agg [.ref lv (b+1) r.ver 0 (r.n-1),.ref lv b 0 0 r.states.length,.ref lv (b+2) 0 0 r.gens.length,.int .u64 r.most]]):=by rw[q2,if_neg (by omega)];exact k3
 generalize st1.upd lv b (r.take s).b0=st2 at *
 unfold AR.b2 at n2
 have o2:=fun L=>ZS hA2 (ro:=false) (L:=L) n2
 have o3:=fun L=>ZS hA2 (ro:=false) (L:=L) n3
 have hw2:∀L,wIs 1 0 (St.get ⟨A2,false,L⟩ lv (b+2))=true:=fun L=>by rw[o2];simp[wIs]
 have hsg:s<r.gens.length:=(List.getElem?_eq_some_iff.1 hg).1
 repeat'(first|refine ZE ?_|refine ZD ?_|refine ZG Y ?_|refine ZV Y Y ?_|refine ZB Y ?_|refine ZC ?_|refine Z7 Y Y ?_|refine QB Y (o3 _) Y Y ?_|refine ZBT Y Y (by omega) (hw2 _) ?_)
 refine QB (x:=.int .u64 g) Y (o2 _) (by rw[show 0+((s:Nat):Int).toNat=s by omega,jG,hg];rfl) rfl ?_
 repeat'(first|refine ZG Y ?_|refine Zw Y Y ?_|refine ZB Y ?_|refine ZC ?_|refine ZA Y Y Y (hM _) ?_|refine ZP ?_|refine ZO ?_)
 refine Zj hA2 (.inr Y) Y Y Y Y ?_;rfl
def ZBf{α:Type}(l:List α)(g:Int)(i:Nat):List α:=(l.drop (ZDo l.length g i).toNat).take (Yw l.length g i).toNat
def ZBg(row:List Tr):List Tr:=(List.range (Zl row.length 4).toNat).map fun i=>grp (ZBf row (Zl row.length 4) i)
def ZAY:Nat->List Tr->List Tr
 | 0,row=>row
 | n+1,row=>if row.length<=1 then row else ZAY n (ZBg row)
noncomputable def Qx(s:B8):Tr:=grp (ZAY s.length ((Yk s).map J2))
theorem Zg7(s:B8)(g:Int)(i:Nat):ZR1 s g i=ZBf s g i:=rfl
theorem ZZn{α:Type}(l:List α){g:Int}(hg:1<=g):∀k:Nat,k<=g.toNat->((List.range k).map (ZBf l g)).flatten=l.take (ZDo l.length g k).toNat
 | 0,_=>by rw[ZJI l.length g (by omega)];simp
 | k+1,h=>by
  rw[List.range_succ,List.map_append,List.flatten_append,ZZn l hg k (by omega),ZEz]
  have h1:=ZBJ (n:=l.length) (g:=g) (by omega) (by omega) (i:=k) (by omega)
  have h2:=ZAX (n:=l.length) (g:=g) (by omega) (by omega) k
  simp only[jC,List.map_nil,List.flatten_cons,List.flatten_nil,lN,ZBf];rw[Int.toNat_add h1.1 h2,List.take_add]
theorem Zc5{α:Type}(l:List α){g:Int}(hg:1<=g):((List.range g.toNat).map (ZBf l g)).flatten=l:=by
 rw[ZZn l hg g.toNat (Nat.le_refl _),Zg1 l.length g (by omega)]
 simp
theorem ZZo{α:Type}(l:List α){g:Int}(hg:1<=g){i:Nat}(hi:i<g.toNat):((ZBf l g i).length:Int)=Yw l.length g i:=by
 have h1:=ZBJ (n:=l.length) (g:=g) (by omega) (by omega) (i:=i+1) (by omega)
 have h0:=ZBJ (n:=l.length) (g:=g) (by omega) (by omega) (i:=i) (by omega)
 have h2:=ZAX (n:=l.length) (g:=g) (by omega) (by omega) i
 rw[ZEz]at h1;rw[ZBf,List.length_take,List.length_drop];omega
theorem ZSk{n m:Int}(hm:1<=m)(hn:1<=n){i:Nat}:Yw n (Zl n m) i<=m/\n / Zl n m<=Yw n (Zl n m) i:=by
 have hg:=XF hn hm;have e1:Zl n m*(n / Zl n m)+n % Zl n m=n:=Int.mul_ediv_add_emod n (Zl n m)
 have e2:=Int.emod_nonneg n (show Zl n m≠0 by omega)
 have e3:n<=m*Zl n m:=by
  have a1:m*((n-1) / m)+(n-1) % m=n-1:=Int.mul_ediv_add_emod (n-1) m
  have a2:=Int.emod_lt_of_pos (n-1) (show 0<m by omega)
  unfold Zl;rw[Int.mul_add];omega
 refine⟨?_,by unfold Yw;split<;>omega⟩
 have e4:n / Zl n m<=m:=by
  apply Int.ediv_le_of_le_mul (by omega)
  exact e3
 unfold Yw
 split
 ·rename_i h
  rcases Int.lt_or_le (n / Zl n m) m with q|q
  ·omega
  ·have:n / Zl n m=m:=by omega
   rw[this]at e1
   have:Zl n m*m=m*Zl n m:=Int.mul_comm _ _
   omega
 ·omega
structure Row(N:ZJ)(row:List Tr)(h:Nat)(s:B8):Prop where
 val:∀t∈row,Val N t/\t.h=h
 big:2<=row.length->∀t∈row,Big t
 txt:Tr.txtL N row=s
theorem Zkz(N:ZJ)(ls:List (List Tr))(h:∀l∈ls,2<=l.length):Tr.txtL N (ls.map grp)=Tr.txtL N ls.flatten:=by
 induction ls with
 | nil=>rfl
 | cons a r ih =>
  rw[jC,Tr.txtL,List.flatten_cons,Tr.txtL_append,ZF7 N (h a (by simp)),ih (fun l hl=>h l (by simp[hl]))]
theorem Zg8{N:ZJ}{row:List Tr}{h:Nat}{s:B8}(hr:Row N row h s)(h2:2<=row.length)(hh:h+1<=16):Row N (ZBg row) (h+1) s/\(ZBg row).length<row.length/\1<=(ZBg row).length:=by
 have hg:=XF (n:=row.length) (most:=4) (by omega) (by omega)
 have hg4:Zl row.length 4=((row.length:Int)-1) / 4+1:=rfl
 have hlen:(ZBg row).length=(Zl row.length 4).toNat:=by unfold ZBg;simp
 have hsz:∀i,i<(Zl row.length 4).toNat->2<=(ZBf row (Zl row.length 4) i).length/\(ZBf row (Zl row.length 4) i).length<=4:=by
  intro i hi;have h1:=ZZo row hg.1 hi
  have h3:=ZSk (n:=row.length) (m:=4) (by omega) (by omega) (i:=i)
  have h4:2<=(row.length:Int) / Zl row.length 4:=by
   apply (Int.le_ediv_iff_mul_le (by omega)).2
   omega
  omega
 refine⟨⟨?_,?_,?_⟩,by omega,by omega⟩
 ·intro t ht
  unfold ZBg at ht;obtain⟨i,hi,rfl⟩:=List.mem_map.1 ht;rw[List.mem_range]at hi;obtain⟨a,b⟩:=hsz i hi
  obtain⟨g1,g2,g3⟩:=ZBx (N:=N) (h:=h) a b hh (fun u hu=>by
   have hm:u∈row:=List.mem_of_mem_drop (List.mem_of_mem_take hu)
   exact⟨(hr.val u hm).1,(hr.val u hm).2,hr.big h2 u hm⟩)
  exact⟨g1,g2⟩
 ·intro _ t ht
  unfold ZBg at ht;obtain⟨i,hi,rfl⟩:=List.mem_map.1 ht;rw[List.mem_range]at hi;obtain⟨a,b⟩:=hsz i hi;rw[ZF6 a];intro q;simp[Tr.h]at q
 ·have e:ZBg row=((List.range (Zl row.length 4).toNat).map (ZBf row (Zl row.length 4))).map grp:=by unfold ZBg;rw[List.map_map];rfl
  rw[e,Zkz N _ (fun l hl=>by
   obtain⟨i,hi,rfl⟩:=List.mem_map.1 hl;rw[List.mem_range]at hi
   exact (hsz i hi).1),Zc5 row hg.1,hr.txt]
theorem ZR2{N:ZJ}(hN:GoodN N):∀(n:Nat) (row:List Tr) (h:Nat) (s:B8),Row N row h s->row.length<=n+1->s.length<=65536->∃h',Row N (ZAY n row) h' s/\(ZAY n row).length<=1/\(1<=row.length->1<=(ZAY n row).length)
 | 0,row,h,s,hr,hl,hs=>⟨h,hr,by rw[ZAY];omega,fun q=>q⟩
 | n+1,row,h,s,hr,hl,hs=>by
  rw[ZAY]
  split
  ·exact⟨h,hr,by assumption,fun q=>q⟩
  ·rename_i h2
   have hh:h+1<=16:=by
    match row,h2,hr with
    | t::r,h2,hr =>
     have h1:=(hr.val t (by simp))
     have h3:=ZJK hN h1.1
     have h4:(t.txt N).length<=s.length:=by rw[<- hr.txt,Tr.txtL,lL];omega
     have:=h1.1.height hN (by omega)
     omega
    | [],h2,_=>simp at h2
   obtain⟨a,b,c⟩:=Zg8 hr (by omega) hh
   obtain⟨h',d,e,f⟩:=ZR2 hN n (ZBg row) (h+1) s a (by omega) hs
   exact⟨h',d,e,fun _=>f c⟩
theorem ZLe{N:ZJ}(s:B8):Row N ((Yk s).map J2) 0 s/\((Yk s).map J2).length<=s.length/\(s≠[]->1<=((Yk s).map J2).length):=by
 unfold Yk
 split
 ·rename_i h
  have:s=[]:=List.length_eq_zero_iff.1 h
  subst this
  exact⟨⟨fun t ht=>by simp at ht,fun h=>by simp at h,rfl⟩,by simp,fun q=>absurd rfl q⟩
 ·rename_i h
  have hg:=XF (n:=s.length) (most:=16) (by omega) (by omega)
  have hsz:∀i,i<(Zl s.length 16).toNat->1<=(ZBf s (Zl s.length 16) i).length/\(ZBf s (Zl s.length 16) i).length<=16/\(2<=Zl s.length 16->8<=(ZBf s (Zl s.length 16) i).length):=by
   intro i hi;have h1:=ZZo s hg.1 hi
   have h3:=ZSk (n:=s.length) (m:=16) (by omega) (by omega) (i:=i)
   have h4:1<=(s.length:Int) / Zl s.length 16:=by
    apply (Int.le_ediv_iff_mul_le (by omega)).2
    omega
   refine⟨by omega,by omega,fun h2=>?_⟩
   have hg4:Zl s.length 16=((s.length:Int)-1) / 16+1:=rfl
   have h5:8<=(s.length:Int) / Zl s.length 16:=by
    apply (Int.le_ediv_iff_mul_le (by omega)).2
    omega
   omega
  have hlen:(((List.range (Zl s.length 16).toNat).map (ZR1 s (Zl s.length 16))).map J2).length=(Zl s.length 16).toNat:=by simp
  refine⟨⟨?_,?_,?_⟩,by omega,fun _=>by omega⟩
  ·intro t ht
   obtain⟨c,hc,rfl⟩:=List.mem_map.1 ht;obtain⟨i,hi,rfl⟩:=List.mem_map.1 hc;rw[List.mem_range]at hi
   have:=hsz i hi
   exact⟨ZOZ ⟨this.1,this.2.1⟩,rfl⟩
  ·intro h2 t ht
   obtain⟨c,hc,rfl⟩:=List.mem_map.1 ht;obtain⟨i,hi,rfl⟩:=List.mem_map.1 hc;rw[List.mem_range]at hi
   have:=(hsz i hi).2.2 (by omega)
   intro _;rw[ZAx,Zg7];omega
  ·have hf : ∀l : List B8, Tr.txtL N (l.map J2) = l.flatten := by
    intro l
    induction l with
    | nil=>rfl
    | cons a l ih=>rw[jC,Tr.txtL,ih,ZOa,List.flatten_cons]
   rw[hf];exact Zc5 s hg.1
theorem ZAE{N:ZJ}(hN:GoodN N){s:B8}(hs:s.length<=65536):VE N (Qx s)/\(Qx s).txt N=s/\(Qx s).bytes=s.length:=by
 obtain⟨a,b,c⟩:=ZLe (N:=N) s
 obtain⟨h',d,e,f⟩:=ZR2 hN s.length _ 0 s a (by omega) hs
 unfold Qx
 generalize ZAY s.length ((Yk s).map J2)=row at *
 match row,e,d with
 | [],_,d =>
  have:s=[]:=d.txt.symm
  subst this;exact⟨.inl zero_empty,rfl,rfl⟩
 | [t],_,d =>
  have h1:=(d.val t (by simp)).1
  have h2:=d.txt;simp only[Tr.txtL,lN]at h2;refine⟨.inr h1,h2,?_⟩
  have:=ZJK hN h1
  rw[h2]at this;exact this.symm
theorem ZR3{α:Type}(G:List α)(a:α)(r:List α):(G++a::r)[G.length]?=some a:=by
 rw[List.getElem?_append_right (Nat.le_refl _)];simp
theorem ZpE{α:Type}(G:List α)(a b:α)(r:List α):(G++a::b::r)[G.length+1]?=some b:=by
 rw[List.getElem?_append_right (by omega)];simp
theorem ZpF{α:Type}(G:List α)(a b c:α)(r:List α):(G++a::b::r).set (G.length+1) c=G++a::c::r:=by
 rw[List.set_append_right _ _ (by omega)];simp
theorem Zmm{k:List Fr}{L:List Blk}{keep:List Nat}{is:List PI}{s:Opd}{l:List Tr}(hs:Zc e s=some (.ref A.length ix ver 0 n))(hx:Zc e x=some (.lit ([t].map Tr.av)))(hg:L[ix]?=some (Blk.arr 7 ver (l.map Tr.av)))(hb:n=l.length)
 (hl:l.length+1<4294967296) (h:Is O is keep k Q ((d,.ref A.length ix (ver+1) 0 (n+1))::e) ⟨A,false,L.set ix (Blk.arr 7 (ver+1) ((l++[t]).map Tr.av))⟩):Is O (⟨some d,none,false,.app 7 80 s x⟩::is) keep k Q e ⟨A,false,L⟩:=by
 subst hb
 refine ZJH hs hg Y hx (.lit _) (by simp;omega) ?_
 simpa using h
theorem Zg9{k:List Fr}{L:List Blk}{keep:List Nat}{is:List PI}(h:Is O is keep k Q ((d,.ref A.length L.length 0 0 0)::e) ⟨A,false,L++[Blk.arr w 0 []]⟩):Is O (⟨some d,none,false,.onil w⟩::is) keep k Q e ⟨A,false,L⟩ :=
 Z3 (v:=.ref A.length L.length 0 0 0) (st':=⟨A,false,L++[Blk.arr w 0 []]⟩) (by simp only[Zg,evalPO,oS,St.new_cur,Jm]) h
theorem Zk0{N:ZJ}(hN:GoodN N){k:List Fr}{s:B8}(hs:s.length<=65536)(B:Blk)(row:List Tr)(n:Nat)(r:List Tr)(hrow:Row N row 0 s)(hn:row.length<=n+1)(h64:row.length<=65536)(hr:ZAY n row=r)
 (hex:∀(G:List Blk) (ver:Nat),Rk (S Tb) k Q (.ex 2) [(2,.ptr A.length 0 0 0 0),(4,.ref A.length (B::G).length ver 0 r.length),(31,.bool false)] ⟨A,false,B::G++[.arr 7 ver (r.map Tr.av)]⟩) (ver:Nat) (ex:Env) :
 Ru (S Tb) (.loop ZGN) k Q ((2,.ptr A.length 0 0 0 0)::(4,.ref A.length 1 ver 0 row.length)::ex) ⟨A,false,[B,.arr 7 ver (row.map Tr.av)]⟩:=by
 refine Zy (α:=List Tr × List Blk × Nat × Env) (fun p=>(2,.ptr A.length 0 0 0 0)::(4,.ref A.length (B::p.2.1).length p.2.2.1 0 p.1.length)::p.2.2.2) (fun p=>⟨A,false,B::p.2.1++[.arr 7 p.2.2.1 (p.1.map Tr.av)]⟩)
  (fun p=>p.1.length<=65536/\∃k h,p.1.length<=k+1/\Row N p.1 h s/\ZAY k p.1=r) (fun p=>p.1.length) (row,[],ver,ex) rfl rfl ⟨h64,n,0,hn,hrow,hr⟩ ?_
 rintro⟨row,G,ver,ex⟩ ⟨h64,kk,h,hk,hR,hb⟩
 simp only at h64 hk hR hb ⊢
 repeat'(first|refine ZE ?_|refine ZD ?_|refine ZG Y ?_|refine ZB Y ?_|refine ZC ?_|refine Jp Y ?_|(refine cm0 Y Y Y ?_ ?_<;>intro _<;>try omega)|refine ZQ Y ?_|refine ZH Y ?_|refine ZI ?_|refine Zq ?_|refine ZL ?_|refine Zb ?_|refine Zn ?_)
 ·rename_i hgt
  have hgt2:2<=row.length:=by omega
  obtain⟨kk,rfl⟩:∃j,kk=j+1:=⟨kk-1,by omega⟩
  rw[ZAY,if_neg (by omega)]at hb
  have hh:h+1<=16:=by
   match row,hgt2,hR with
   | t::r,_,hR =>
    have h1:=(hR.val t (by simp))
    have h3:=ZJK hN h1.1
    have h4:(t.txt N).length<=s.length:=by rw[<- hR.txt,Tr.txtL,lL];omega
    have:=h1.1.height hN (by omega)
    omega
  obtain⟨u1,u2,u3⟩:=Zg8 hR hgt2 hh
  refine ZA Y Y Y (ZpA row.length 4 _ (by omega)) ?_
  have hg:=XF (n:=row.length) (most:=4) (by omega) (by omega)
  have hget:=fun i hi=>ZZf (n:=row.length) (m:=4) (by omega) (i:=i) hi
  have hlen:=ZZg (n:=row.length) (m:=4) (by omega)
  have hpb:=fun (i:Nat) hi=>ZBJ (n:=row.length) (g:=Zl row.length 4) (by omega) (by omega) (i:=i) hi
  have hps:=ZEz row.length (Zl row.length 4)
  have hp0:=ZJI row.length (Zl row.length 4) (by omega)
  have hsn:=ZAX (n:=row.length) (g:=Zl row.length 4) (by omega) (by omega)
  have hrl:(ZBg row).length=(Zl row.length 4).toNat:=by unfold ZBg;simp
  have hrg:∀i,i<(Zl row.length 4).toNat->(ZBg row)[i]?=some (grp (ZBf row (Zl row.length 4) i)):=by
   intro i hi;unfold ZBg;rw[jG,List.getElem?_range hi];rfl
  have hpl:=fun i hi=>ZZo row (g:=Zl row.length 4) hg.1 (i:=i) hi
  have hpe:∀i,ZBf row (Zl row.length 4) i=(row.drop (ZDo row.length (Zl row.length 4) i).toNat).take (Yw row.length (Zl row.length 4) i).toNat:=fun _=>rfl
  generalize ZAu (row.length:Int) 4=z at *
  generalize Zl (row.length:Int) 4=g at *
  generalize ZBg row=up at *
  have hh2:∀u∈row,u.h<=65536:=fun u hu=>by have:=(hR.val u hu).1.h16;omega
  repeat'(first|refine ZE ?_|refine ZD ?_|refine ZG Y ?_|refine Zw Y Y ?_|refine ZB Y ?_|refine ZC ?_|refine QH Y ?_|(refine cm0 Y Y Y ?_ ?_<;>intro _<;>try omega)|refine ZH Y ?_|refine Zg9 ?_|refine ZI ?_|refine ZL ?_)
  all_goals try omega
  refine Zy (α:=Nat) (fun i=>[(2,.ptr A.length 0 0 0 0),(4,.ref A.length (B::G).length ver (ZDo row.length g i).toNat (row.length-(ZDo row.length g i).toNat)),(9,.ref A.length ((B::G).length+1) i 0 i),(42,ZSi z),(43,.int .i64 z.length),(44,.int .i64 i)])
   (fun i=>⟨A,false,B::G++[.arr 7 ver (row.map Tr.av),.arr 7 i ((up.take i).map Tr.av)]⟩) (fun i=>i<=z.length) (fun i=>z.length-i) 0 ?_ ?_ (Nat.zero_le _) ?_
  ·simp[hp0]
  ·simp
  intro i hi
  repeat'(first|refine ZE ?_|refine ZD ?_|refine ZG Y ?_|refine ZB Y ?_|refine ZC ?_|refine QA Y Y ?_|refine YE Y Y (by omega) (fun _=>rfl) (fun _ _=>?_)|(refine cm0 Y Y Y ?_ ?_<;>intro _<;>try omega)|refine ZQ Y ?_|refine ZH Y ?_|refine ZI ?_|refine Zq ?_|refine ZL ?_|refine Zb ?_|refine Z0 ?_|refine Za Y ?_|refine Z8 ?_|refine Zn ?_)
  ·rename_i hlt x hx
   have hi2:i<g.toNat:=by omega
   have hx2:z[i]?=some x:=hx;rw[hget i hi2]at hx2;have hx3:=Option.some.inj hx2;subst hx3
   have hb0:=hpb i (by omega)
   have hb1:=hpb (i+1) (by omega)
   rw[hps i]at hb1;have hs0:=hsn i;have hpl2:=hpl i hi2;have hrg2:=hrg i hi2;have hpe2:=hpe i;have hps2:=hps i
   generalize ZDo (row.length:Int) g i=p at *
   generalize Yw (row.length:Int) g i=q at *
   generalize ZBf row g i=part at *
   have hgetL:∀b:Blk,(B::G++[.arr 7 ver (row.map Tr.av),b])[(B::G).length]?=some (.arr 7 ver (row.map Tr.av)):=fun b=>ZR3 _ _ _
   have hwi:wIs 7 ver (St.get ⟨A,false,B::G++[.arr 7 ver (row.map Tr.av),.arr 7 i ((up.take i).map Tr.av)]⟩ A.length (B::G).length)=true:=by
    rw[St.get_cur,hgetL];simp[vis,wIs]
   refine ZKZ Y Y (by omega) hwi ?_
   have hSl:Sl ⟨A,false,B::G++[.arr 7 ver (row.map Tr.av),.arr 7 i ((up.take i).map Tr.av)]⟩ (.ref A.length (B::G).length ver p.toNat q.toNat) part:=by
    refine .ref (es:=row.map Tr.av) (by rw[St.get_cur,hgetL];rfl) (by omega) (by rw[List.length_map];omega) ?_
    rw[hpe2,<- List.map_drop,<- List.map_take]
   refine ZA Y Y Y (Xp (by omega) (fun u hu=>hh2 u (by rw[hpe2]at hu;exact List.mem_of_mem_drop (List.mem_of_mem_take hu))) hSl) ?_
   have hti:(up.take i).length=i:=by rw[List.length_take];omega
   refine ZB5 Y ?_
   refine Zmm Y Y (ZpE _ _ _ _) hti.symm (by omega) ?_
   rw[ZpF];have htk:=ZZ hrg2;rw[<- htk]
   repeat'(first|refine ZD ?_|refine ZG Y ?_|refine ZB Y ?_|refine ZC ?_)
   have hwi2:wIs 7 ver (St.get ⟨A,false,B::G++[.arr 7 ver (row.map Tr.av),.arr 7 (i+1) ((up.take (i+1)).map Tr.av)]⟩ A.length (B::G).length)=true:=by
    rw[St.get_cur,hgetL];simp[vis,wIs]
   refine ZKa Y Y (by omega) hwi2 ?_
   repeat'(first|refine ZD ?_|refine ZG Y ?_|refine ZB Y ?_|refine ZC ?_|refine Zh Y Y (by omega) ?_|refine Z0 ?_|refine Z8 ?_)
   refine⟨i+1,⟨?_,rfl⟩,by omega,by omega⟩
   rw[show p.toNat+q.toNat=(p+q).toNat by omega,show row.length-p.toNat-q.toNat=row.length-(p+q).toNat by omega]
   simp only[hps2];rfl
  ·have hi2:i=up.length:=by omega
   subst hi2;rw[List.take_length]
   refine⟨(up,G++[.arr 7 ver (row.map Tr.av)],up.length,[]),⟨?_,?_⟩,⟨by simp only;omega,kk,h+1,by simp only;omega,u1,hb⟩,by simp only;omega⟩
   ·simp
   ·simp
 ·have hrr : ZAY kk row = row := by
   cases kk with
   | zero=>rfl
   | succ j=>rw[ZAY,if_pos (by omega)]
  rw[hrr]at hb;subst hb;exact hex G ver
theorem ZhA(s:B8):(Yk s).length<=s.length:=by
 have:=(ZLe (N:=[]) s).2.1
 simpa using this
theorem ZfR{N:ZJ}(hN:GoodN N)(s:B8)(hs:s.length<=65536)(st:St):S Tb ZAN [.str s] st=some (.tup [(Qx s).av,.int .i64 0],st):=by
 refine QN Y (fun A hA=>?_)
 have hcl:=ZhA s
 have hch:=fun st=>Zmg s st (by omega)
 obtain⟨ra,rb,rc⟩:=ZLe (N:=N) s
 obtain⟨h',rd,re,rf⟩:=ZR2 hN s.length _ 0 s ra (by omega) hs
 unfold Qx
 generalize hres:ZAY s.length ((Yk s).map J2)=r at *
 have hG:=fun {v:AV} {st:St} (hv:Sl st v r)=>Xp (by omega) (fun u hu=>by have:=(rd.val u hu).1.h16;omega) hv
 have hlen:((Yk s).map J2).length=(Yk s).length:=by simp
 generalize hc:Yk s=c at *
 unfold Zg0 at hch
 repeat'(first|refine ZE ?_|refine ZD ?_|refine ZG Y ?_|refine ZB Y ?_|refine ZC ?_|refine YK Y ?_|refine QH Y ?_|(refine cm0 Y Y Y ?_ ?_<;>intro _<;>try omega)|refine ZH Y ?_|refine Zi Y Y Y ?_|refine ZAK Y ?_|refine ZA Y Y (by first|rfl|(simp only[lE,lN,lC,Ze,ZW,ZX];first|done|rfl)) (hch _) ?_|refine ZI ?_|refine ZL ?_)
 all_goals try omega
 refine Zy (α:=Nat) (fun i=>[(2,.ptr A.length 0 0 0 0),(4,.ref A.length 1 i 0 i),(17,.lit (c.map .str)),(18,.int .i64 c.length),(19,.int .i64 i)])
  (fun i=>⟨A,false,[.arr 7 0 [trZ],.arr 7 i ((c.take i).map fun s=>(J2 s).av)]⟩) (fun i=>i<=c.length) (fun i=>c.length-i) 0 rfl rfl (by simp) ?_
 rintro i hi
 repeat'(first|refine ZE ?_|refine ZD ?_|refine ZG Y ?_|refine ZB Y ?_|refine ZC ?_|refine QA Y Y ?_|refine YE Y Y (by omega) (fun _=>rfl) (fun _ _=>?_)|(refine cm0 Y Y Y ?_ ?_<;>intro _<;>try omega)|refine ZQ Y ?_|refine ZH Y ?_|refine Zh Y Y (by omega) ?_|refine Zx Y Y Y ?_|refine QM Y Y Y Y ?_|refine Zd0 Y Y Y (by first|rfl|(simp;done)|(simp;omega)) (by first|omega|(simp<;>omega)) (by decide) rfl rfl rfl ?_|refine ZI ?_|refine Zq ?_|refine ZL ?_|refine Zb ?_|refine Z0 ?_|refine Za Y ?_|refine Z8 ?_|refine Zn ?_)
 ·rename_i x hx
  have hx2:c[i]?=some x:=hx
  refine⟨i+1,⟨rfl,?_⟩,by omega,by omega⟩
  simp only[ZZ hx2,List.map_append,jC,List.map_nil];rfl
 ·have hi':i=c.length:=by omega
  subst hi';rw[List.take_length]
  have:=Zk0 hN hs (A:=A) (.arr 7 0 [trZ]) (c.map J2) s.length r ra (by omega) (by omega) hres (k:=[.blk 2,.seq (.seq ZGO .ret)]) (Q:=fun x e st'=>JD false [.c 2 true 7,.s 3] (x,e,st')=some (.tup [(grp r).av,.int .i64 0],st)) (fun G ver=>?_) c.length [(17,.lit (c.map .str)),(18,.int .i64 c.length),(19,.int .i64 c.length),(20,.bool false)]
  ·rw[List.map_map,List.length_map]at this
   exact this
  ·repeat'(first|refine ZE ?_|refine ZD ?_|refine ZG Y ?_|refine ZB Y ?_|refine ZC ?_|refine JG Y Y Y Y (QQ _ _ _) (Qw _ _) ?_|refine ZA Y Y (by first|rfl|(simp only[lE,lN,lC,Ze,ZW,ZX];first|done|rfl)) (hG (Sl.cur (ZR3 _ _ _) rfl)) ?_|refine ZP ?_|refine ZO ?_|refine Za Y ?_)
   exact ZD3 hA (.inr Y) Y Y Y Y
theorem ZhB:∀ {N:ZJ} {h:Nat} {x:Nd},lk N h=none->ZBh (.int .u64 h) x.av (N.map nodeAV)=some ((N++[(h,x)]).map nodeAV)
 | [],h,x,_=>rfl
 | p::N,h,x,hn=>by
  rw[lk]at hn
  by_cases q:p.1=h
  ·rw[if_pos q]at hn;simp at hn
  ·rw[if_neg q]at hn
   rw[jC,ZBh]
   show (Option.bind (if IntKind.u64=IntKind.u64 then some ((h:Int) == (p.1:Int)) else none) fun b=>if b=true then some ((AV.int .u64 h,x.av)::N.map nodeAV) else (ZBh (.int .u64 h) x.av (N.map nodeAV)).map (nodeAV p::·))=_
   rw[if_pos rfl,oS,if_neg (by simp;omega),ZhB hn]
   rfl
section
variable {O:Orc}{k:List Fr}{Q:YD}{e:Env}{A:List (Bool × List Blk)}{L:List Blk}{keep:List Nat}{is:List PI}{d:Nat}
theorem ZhC{i v:Opd}{lv h:Nat}{w:AV}{es es':List (AV × AV)}(hA:A=st.A++[(st.ro,st.L)])(hx:Zc e x=some (.map lv ix))(hi:Zc e i=some (.int .u64 h))(hv:Zc e v=some w)(hw:st.wr lv)(hg:st.get lv ix=some (.map es))
 (hs:ZY QD (lv+1) ⟨A,false,L⟩ w=some (w,⟨A,false,L⟩)) (hp:ZBh (.int .u64 h) w es=some es')
 (hh:∀A',A'=(st.upd lv ix (.map es')).A++[((st.upd lv ix (.map es')).ro,(st.upd lv ix (.map es')).L)]->Is O is keep k Q e ⟨A',false,L⟩):Is O (⟨none,none,false,.mupd 0 x i v⟩::is) keep k Q e ⟨A,false,L⟩:=by
 have hl:=St.get_le hg;refine Z3 (od:=none) (v:=.undef) (st':=St.upd ⟨A,false,L⟩ lv ix (.map es')) ?_ ?_
 ·simp only[Zg,evalPO,ZF hx,ZF hi,ZF hv,ZHZ,YG,if_true,hs,oS,ZJw,ZS hA hg,ZBi,hp,St.put_upd (XK hA hl hw) (ZS hA hg),ZA9]
 ·rw[Ji hA hl]
  exact hh _ Y
end
def AR.alloc(r:AR)(s g:Nat)(x:Nd):AR:={ r.take s with nodes:=r.nodes++[(g*65536+s,x.copy)],allocs:=r.allocs+1 }
def ZAZ(st:St)(lv b:Nat)(r:AR)(s g:Nat)(x:Nd):St:=((Qp st lv b r s).upd lv (b+4) (r.alloc s g x).b4).upd lv (b+5) ((r.alloc s g x).b5 lv b)
theorem Zc6{L:List Blk}(hA:A=st.A++[(st.ro,st.L)]){lv b s:Nat}{r:AR}(hl:lv<=st.A.length):
 Qp ⟨A,ro,L⟩ lv b r s=⟨(Qp st lv b r s).A++[((Qp st lv b r s).ro,(Qp st lv b r s).L)],ro,L⟩:=by
 unfold Qp;rw[Ji hA hl]
 exact Ji Y (by rw[St.upd_A];exact hl)
theorem Zmn(st:St)(lv b s:Nat)(r:AR):(Qp st lv b r s).A.length=st.A.length:=by
 unfold Qp;rw[St.upd_A,St.upd_A]
structure CanTake(r:AR)(k s g:Nat):Prop where
 n:r.n=k+1
 blk:r.blk[k]?=some (s:Int)
 st:s<r.states.length
 s16:s<16384
 gen:r.gens[s]?=some (g:Int)
 g1:1<=g
 g2:g<=4294967295
 big:r.n<65536
 new:lk r.nodes (g*65536+s)=none
 al:0<=r.allocs/\r.allocs<1000000
theorem Zc7{lv b:Nat}{r:AR}(h:Has st lv b r){k s:Nat}(hc:CanTake r k s g)(x:Nd)(v:AV)(hone:v.one=true)
 (A:List (Bool × List Blk)) (G:List Blk) (hA:A=(Qp st lv b r s).A++[((Qp st lv b r s).ro,(Qp st lv b r s).L)]) (hC:∀L,S Tb Z9 [weak v] ⟨A,false,L⟩=some (.lit (x.ks.map Kid.av),⟨A,false,L⟩)) :
 Ru (S Tb) (.seq ZAS (.seq ZAT (.seq ZAU (.seq ZAV .ret)))) [] (fun x' e st' =>
  JD false [RV.s 4,RV.s 5] (x',e,st')=some (.tup [.int .u64 ((g*65536+s:Nat):Int),.int .i64 0],ZAZ st lv b r s g x))
  [(0,.ptr lv (b+5) 0 0 0),(3,.ptr A.length 0 0 0 0),(13,.int .u64 ((g*65536+s:Nat):Int)),(14,.int .i64 0),(72,.bool false)] ⟨A,false,.arr 3 0 [.agg [.int .i64 x.h,.str x.text,v]]::G⟩:=by
 have ht:=h.take s
 have g5:=fun L=>ZS hA (ro:=false) (L:=L) ht.h5
 unfold AR.b5 at g5;have hal:=hc.al;have hpv:JU (.agg [.int .i64 x.h,.str x.text,v]) false 2 1=some v:=rfl
 repeat'(first|refine ZE ?_|refine ZD ?_|refine ZV Y Y ?_|refine ZU Y Y Y Y ?_)
 refine ZA Y Y Y (hC _) ?_;have hstv:(JQ 3 (.agg [.int .i64 x.h,.str x.text,v]) 2 1 (.lit (x.ks.map Kid.av))).bind Yd=some x.copy.av:=rfl
 repeat'(first|refine ZE ?_|refine ZD ?_|refine ZG Y ?_|refine ZV Y Y ?_|refine ZU Y Y Y Y ?_|refine ZB Y ?_|refine ZC ?_|refine Z7 Y Y ?_|refine JG Y Y Y Y Y Y ?_|refine QB Y (g5 _) Y Y ?_)
 have hp:=ZhB (N:=r.nodes) (x:=x.copy) hc.new
 refine ZhC (w:=x.copy.av) hA Y Y Y ht.wr ht.h4 Y hp (fun A1 hA1=>?_)
 have eM:Blk.map ((r.nodes++[(g*65536+s,x.copy)]).map nodeAV)=(r.alloc s g x).b4:=rfl;rw[eM]at hA1
 have q1:∀l' i',((Qp st lv b r s).upd lv (b+4) (r.alloc s g x).b4).get l' i'=if l'=lv/\i'=b+4 then some (r.alloc s g x).b4 else (Qp st lv b r s).get l' i':=fun l' i'=>St.get_upd ht.h4 rfl
 have k5:((Qp st lv b r s).upd lv (b+4) (r.alloc s g x).b4).get lv (b+5)=some ((r.take s).b5 lv b):=by rw[q1,if_neg (by omega)];exact ht.h5
 have hw1:=St.wr_upd (b:=(r.alloc s g x).b4) (ix:=b+4) ht.wr ht.wr;have eA:ZAZ st lv b r s g x=((Qp st lv b r s).upd lv (b+4) (r.alloc s g x).b4).upd lv (b+5) ((r.alloc s g x).b5 lv b):=rfl;rw[eA]
 generalize (Qp st lv b r s).upd lv (b+4) (r.alloc s g x).b4=st1 at *
 unfold AR.b5 at k5
 have m5:=fun L=>ZS hA1 (ro:=false) (L:=L) k5
 have hat:(r.take s).allocs=r.allocs:=rfl;rw[hat]at k5 m5
 repeat'(first|refine ZE ?_|refine ZD ?_|refine ZG Y ?_|refine ZV Y Y ?_|refine ZB Y ?_|refine ZC ?_|refine Z7 Y Y ?_|refine Zh Y Y (by omega) ?_|refine QB Y (m5 _) Y Y ?_)
 refine is_stP hA1 Y Y hw1 k5 Y Y Y (fun A2 hA2=>?_)
 have eB:Blk.arr 6 0 ([AV.agg [.int .i64 (r.take s).slots,.ptr lv (b+3) 0 0 0,.map lv (b+4),.int .i64 r.allocs,.int .i64 (r.take s).frees,.int .i64 (r.take s).stale]].set 0 (.agg [.int .i64 (r.take s).slots,.ptr lv (b+3) 0 0 0,.map lv (b+4),.int .i64 (r.allocs+1),.int .i64 (r.take s).frees,.int .i64 (r.take s).stale]))=(r.alloc s g x).b5 lv b:=rfl;rw[eB]at hA2
 repeat'(first|refine ZE ?_|refine ZD ?_|refine ZG Y ?_|refine ZB Y ?_|refine ZC ?_|refine ZP ?_|refine ZO ?_)
 refine Zj hA2 (.inr Y) Y Y Y Y ?_;rfl
theorem Zit{lv b:Nat}{r:AR}(h:Has st lv b r){k s:Nat}(hc:CanTake r k s g)(text:B8)(ht:ZBd text):
 S Tb Jj [.ptr lv (b+5) 0 0 0,.agg [.int .i64 (0:Nat),.str text,.nils]] st=some (.tup [.int .u64 ((g*65536+s:Nat):Int),.int .i64 0],ZAZ st lv b r s g ⟨0,text,none⟩):=by
 refine ZBe Y (fun A hA=>?_)
 have hN:=fun st=>ZZc ⟨0,text,none⟩ (.inl ⟨rfl,ht.1,ht.2,rfl⟩) st
 simp only[Nd.av,slV]at hN
 have g5:=fun L=>ZS hA (ro:=false) (L:=L) h.h5
 unfold AR.b5 at g5
 repeat'(first|refine ZE ?_|refine ZD ?_|refine ZG Y ?_|refine ZV Y Y ?_|refine ZU Y Y Y Y ?_|refine ZB Y ?_|refine ZC ?_|refine Z7 Y Y ?_|refine J8 Y ?_|(refine cm0 Y Y Y ?_ ?_<;>intro _<;>try omega)|refine ZH Y ?_|refine JN Y Y Y Y ?_|refine Zi Y Y Y ?_|refine ZA Y Y Y (hN _) ?_|refine Qz ?_|refine QB Y (g5 _) Y Y ?_|refine ZI ?_|refine Zq ?_|refine ZL ?_|refine Zb ?_|refine Za Y ?_)
 all_goals try omega
 have hle:=St.get_le h.h3
 have hTk:=fun L=>Zml (st:=⟨A,false,L⟩) ⟨XK hA hle h.wr,ZS hA h.h0,ZS hA h.h1,ZS hA h.h2,ZS hA h.h3,ZS hA h.h4,ZS hA h.h5⟩ hc.n hc.blk hc.st hc.s16 hc.gen ⟨hc.g1,hc.g2⟩ hc.big
 refine ZA Y Y Y (hTk _) ?_;rw[Zc6 hA hle];obtain⟨A1,hA1⟩:∃A1,A1=(Qp st lv b r s).A++[((Qp st lv b r s).ro,(Qp st lv b r s).L)]:=⟨_,rfl⟩;rw[<- hA1]
 have hlen:A.length=A1.length:=by rw[hA,hA1,lL,lL,Zmn];rfl
 rw[hlen];refine ZG Y ?_;refine Zw Y Y ?_;refine Zw Y Y ?_;refine ZG Y ?_;refine ZG Y ?_;refine ZB Y ?_;refine ZC ?_;refine ZE ?_;refine ZE ?_;refine ZD ?_;refine ZG Y ?_
 refine Zk Y Y (fun q=>absurd Y q) (fun _=>?_)
 refine ZB Y ?_;refine ZC ?_;refine ZH Y ?_;refine ZI ?_;refine ZC ?_
 have:=Zc7 h hc ⟨0,text,none⟩ .nils rfl A1 [] hA1 (fun L=>Zo6 _)
 exact this
section
variable {O:Orc}{k:List Fr}{Q:YD}{e:Env}{A:List (Bool × List Blk)}{L:List Blk}{keep:List Nat}{is:List PI}{d:Nat}
theorem ZqT{a:Opd}{i o:Nat}{x:AV}{c:Blk}(ha:Zc e a=some (.ptr A.length L.length ver i o))(hx:es[i]?=some x)(hv:JU x agg o n=some v)
 (h:Is O is keep k Q ((d,v)::e) ⟨A,false,L++[Blk.arr w ver es]++[c]⟩):Is O (⟨some d,none,false,.ld agg n a⟩::is) keep k Q e ⟨A,false,L++[Blk.arr w ver es]++[c]⟩ :=
 ZU (w:=w) ha (by rw[List.append_assoc];exact ZR3 L _ _) hx hv h
theorem ZqU{a:Opd}{i o:Nat}{x:AV}{c c2:Blk}(ha:Zc e a=some (.ptr A.length L.length ver i o))(hx:es[i]?=some x)(hv:JU x agg o n=some v)
 (h:Is O is keep k Q ((d,v)::e) ⟨A,false,L++[Blk.arr w ver es]++[c]++[c2]⟩):Is O (⟨some d,none,false,.ld agg n a⟩::is) keep k Q e ⟨A,false,L++[Blk.arr w ver es]++[c]++[c2]⟩ :=
 ZU (w:=w) ha (by rw[List.append_assoc,List.append_assoc];exact ZR3 L _ _) hx hv h
end
def Zmo(N:ZJ)(n:Nat)(ks:List Kid):Prop:=∀k∈ks,∃y,lk N k.at_=some y/\NdOk y/\y.h=n/\y.mea=k.m
theorem Zc8{j i:Nat}:∀ {L0 T:List Blk},findH j T=some i->findH j (L0++T)=some (L0.length+i)
 | [],T,h=>by simpa using h
 | b::L0,T,h=>by
  have:=Zc8 (L0:=L0) h
  unfold findH;rw[lC];simp only[this,List.length_cons]
  congr 1;omega
theorem ZOf:∀ {L0 T:List Blk} {i:Nat} {b:Blk},(L0++T).set (L0.length+i) b=L0++T.set i b
 | [],T,i,b=>by simp
 | c::L0,T,i,b=>by
  rw[lC,List.length_cons,show L0.length+1+i=(L0.length+i)+1 by omega,List.set_cons_succ,ZOf];rfl
theorem Qj:∀ {L0 T:List Blk} {i:Nat},(L0++T)[L0.length+i]?=T[i]?
 | [],T,i=>by simp
 | c::L0,T,i=>by
  rw[lC,List.length_cons,show L0.length+1+i=(L0.length+i)+1 by omega,List.getElem?_cons_succ,Qj]
section
variable {O:Orc}{k:List Fr}{Q:YD}{e:Env}{A:List (Bool × List Blk)}{L L0 T T':List Blk}{keep:List Nat}{is:List PI}{d:Nat}
theorem ZpG{js:List Nat}(h:Is O is keep k Q e ⟨A,false,L++js.map Blk.hole⟩):Ru O (.regH js keep is) k Q e ⟨A,false,L⟩:=by
 obtain⟨e',st',h1,h2⟩:=h.h;refine⟨⟨.norm,Xk keep e',st',?_,h2⟩⟩;simp only[exec,Zh3,jB,if_false,oS,h1,ZSp]
theorem ZpH{i bytes:Nat}{l c:Opd}{n:Int}(hl:Zc e l=some (.int .i64 n))(hc:Zc e c=some (.int .i64 n))(hn:0<=n/\n<4294967296)(hb:bytes<=4096)(hf:findH j T=some i)
 (hL:YC (T.set i (Blk.arr w 0 (List.replicate n.toNat z)))=some T') (h:Is O is keep k Q ((d,.ref A.length (L0.length+i) 0 0 n.toNat)::e) ⟨A,false,L0++T'⟩):Is O (⟨some d,none,false,.w (.here j) (.mkslice w bytes z l c)⟩::is) keep k Q e ⟨A,false,L0++T⟩:=by
 rw[<- Qy hL,<- ZOf]at h;refine Z3 (v:=.ref A.length (L0.length+i) 0 0 n.toNat) (st':=⟨A,false,(L0++T).set (L0.length+i) (Blk.arr w 0 (List.replicate n.toNat z))⟩) ?_ h
 simp only[Zg,QC,newOf,ZF hl,ZF hc,mkslB,if_pos (show 0<=n/\n<=n/\n<4294967296/\bytes<=4096 by omega),oS,ZcX,Zh1,and_self,if_true,Zc8 hf,ZcW]
theorem YO{m:Nat}(hx:Zc e x=some v)(hw:v.wide=some w)(hv:Yd v=some v')(hm:ZaL T=some m)(hL:YC (T++[Blk.arr w 0 [v']])=some T')(h:Is O is keep k Q ((d,.ptr A.length (L0.length+m) 0 0 0)::e) ⟨A,false,L0++T'⟩):Is O (⟨some d,none,false,.box x⟩::is) keep k Q e ⟨A,false,L0++T⟩:=by
 rw[<- Qy hL,<- ZAr hm,<- List.append_assoc,<- lL]at h;exact Z1 hx hw hv h
theorem Zk1{m:Nat}(hm:ZaL T=some m)(hL:YC (T++[Blk.map []])=some T')(h:Is O is keep k Q ((d,.map A.length (L0.length+m))::e) ⟨A,false,L0++T'⟩):Is O (⟨some d,none,false,.mkmap⟩::is) keep k Q e ⟨A,false,L0++T⟩:=by
 rw[<- Qy hL,<- ZAr hm,<- List.append_assoc,<- lL]at h
 exact Z3 (v:=.map A.length (L0++T).length) (st':=⟨A,false,L0++T++[Blk.map []]⟩) (by simp only[Zg,evalPO,oS,St.new_cur,ZI3]) h
theorem Xb{a:Opd}{i o:Nat}{x:AV}(ha:Zc e a=some (.ptr A.length (L0.length+ix) ver i o))(hg:T[ix]?=some (Blk.arr w ver es))(hx:es[i]?=some x)(hv:JU x agg o n=some v)
 (h:Is O is keep k Q ((d,v)::e) ⟨A,false,L0++T⟩):Is O (⟨some d,none,false,.ld agg n a⟩::is) keep k Q e ⟨A,false,L0++T⟩ :=
 ZU ha (by rw[Qj];exact hg) hx hv h
theorem Zjr{i:Opd}{s m:Nat}{n:Int}(hx:Zc e x=some (.ref A.length (L0.length+ix) ver s m))(hi:Zc e i=some (.int .i64 n))(hn:0<=n/\n<m)(hg:T[ix]?=some (Blk.arr w ver es))(h:Is O is keep k Q ((d,.ptr A.length (L0.length+ix) ver (s+n.toNat) 0)::e) ⟨A,false,L0++T⟩):Is O (⟨some d,none,false,.ixS w x i⟩::is) keep k Q e ⟨A,false,L0++T⟩ :=
 ZL9 hx hi hn (by rw[Qj];exact hg) h
theorem ZDK{a:Opd}{i o:Nat}{y:AV}(ha:Zc e a=some (.ptr A.length (L0.length+ix) ver i o))(hx:Zc e x=some v)(hg:T[ix]?=some (Blk.arr w ver es))(hy:es[i]?=some y)
 (hs:ZY QD (A.length+1) ⟨A,false,L0++T⟩ v=some (v,⟨A,false,L0++T⟩)) (hv:(JQ w y o n v).bind Yd=some v') (hL:YC (T.set ix (Blk.arr w ver (es.set i v')))=some T') (h:Is O is keep k Q e ⟨A,false,L0++T'⟩):Is O (⟨none,none,false,.st n a x⟩::is) keep k Q e ⟨A,false,L0++T⟩:=by
 rw[<- Qy hL,<- ZOf]at h
 exact JG (by rw[Qj];exact hg) ha hx hy hs hv h
end
def JF(n g:Nat):AR:=⟨(List.range n).map fun (j:Nat)=>(n:Int)-1-j,n,0,List.replicate n 0,List.replicate n 1,g,[],n,0,0,0⟩
theorem ZKH{i:Nat}{k:IntKind}{f:Nat->Int}{z:Int}(hi:i<n):((List.range n).map fun j=>AV.int k (if j<i then f j else z)).set i (.int k (f i))=(List.range n).map fun j=>AV.int k (if j<i+1 then f j else z):=by
 apply List.ext_getElem
 ·simp
 ·intro j hj hj'
  simp only[List.getElem_set,List.getElem_map,List.getElem_range]
  by_cases q:i=j
  ·subst q;simp
  ·rw[if_neg q]
   have:j<i+1↔j<i:=by omega
   simp only[this]
theorem ZpI(n g:Nat)(hn:1<=n/\n<=16384)(hg:1<=g/\g<=4294967295)(A:List (Bool × List Blk))(L0:List Blk):
 S Tb ZCR [.int .i64 n,.int .u64 g] ⟨A,false,L0⟩=some (.tup [.ptr A.length (L0.length+3) 0 0 0,.int .i64 0],⟨A,false,L0++[(JF n g).b0,(JF n g).b1,(JF n g).b2,(JF n g).b3 A.length L0.length]⟩):=by
 refine Xv Y ?_
 have hmap:∀(k:IntKind) (z:Int),List.replicate n (AV.int k z)=(List.range n).map fun (j:Nat)=>AV.int k (if j<0 then (fun (j:Nat)=>(n:Int)-1-j) j else z):=by
  intro k z;simp only[Nat.not_lt_zero,if_false,List.map_const',List.length_range]
 have hmap1:List.replicate n (AV.int .u64 0)=(List.range n).map fun j=>AV.int .u64 (if j<0 then (fun _=>(1:Int)) j else 0):=by
  simp only[Nat.not_lt_zero,if_false,List.map_const',List.length_range]
 repeat'(first|refine ZE ?_|refine ZD ?_|refine ZG Y ?_|refine QK Y ?_|refine Zr Y Y Y Y ?_|refine ZB Y ?_|refine ZC ?_|(refine cm0 Y Y Y ?_ ?_<;>intro _<;>try omega)|refine ZH Y ?_|refine Zx Y Y Y ?_|refine Z1 Y Y Y ?_|refine ZpG ?_|refine ZpH Y Y (by omega) (by decide) Y Y ?_|refine ZI ?_|refine ZL ?_)
 simp only[lL,List.length_cons,List.length_nil,List.append_assoc,lC,lE,Int.toNat_natCast,Nat.zero_add];rw[hmap .i64 0,hmap1]
 refine Zy (α:=Nat) (fun i=>[(0,.int .i64 n),(6,.ptr A.length (L0.length+3) 0 0 0),(31,.int .i64 n),(32,.int .i64 i)])
  (fun i=>⟨A,false,L0++[.arr 1 0 (List.replicate n (.int .u8 0)),.arr 1 0 ((List.range n).map fun (j:Nat)=>.int .i64 (if j<i then (fun (j:Nat)=>(n:Int)-1-j) j else 0)),.arr 1 0 ((List.range n).map fun (j:Nat)=>.int .u64 (if j<i then (fun _=>(1:Int)) j else 0)),.arr 4 0 [.agg [.ref A.length (L0.length+1) 0 0 n,.ref A.length (L0.length+0) 0 0 n,.ref A.length (L0.length+2) 0 0 n,.int .u64 g]]]⟩)
  (fun i=>i<=n) (fun i=>n-i) 0 rfl rfl (Nat.zero_le _) ?_
 intro i hi
 repeat'(first|refine ZE ?_|refine ZD ?_|refine ZG Y ?_|refine ZV Y Y ?_|refine ZB Y ?_|refine ZC ?_|refine Z7 Y Y ?_|(refine cm0 Y Y Y ?_ ?_<;>intro _<;>try omega)|refine ZQ Y ?_|refine ZH Y ?_|refine Yc Y Y (by omega) ?_|refine Xb Y Y Y Y ?_|refine Zjr Y Y (by omega) Y ?_|refine ZI ?_|refine ZP ?_|refine Zq ?_|refine ZL ?_|refine ZO ?_|refine Zb ?_|refine Za Y ?_|refine Zn ?_)
 ·simp only[Nat.zero_add,Int.toNat_natCast]
  refine ZDK (y:=.int .i64 0) Y Y Y ?_ Y Y Y ?_
  ·rw[jG,List.getElem?_range (by omega)];simp
  rw[ZKH (f:=fun (j:Nat)=>(n:Int)-1-j) (by omega)]
  repeat'(first|refine ZD ?_|refine ZG Y ?_|refine ZV Y Y ?_|refine ZB Y ?_|refine ZC ?_|refine Z7 Y Y ?_|refine Xb Y Y Y Y ?_|refine Zjr Y Y (by omega) Y ?_)
  simp only[Nat.zero_add,Int.toNat_natCast];refine ZDK (y:=.int .u64 0) Y Y Y ?_ Y Y Y ?_
  ·rw[jG,List.getElem?_range (by omega)];simp
  rw[ZKH (f:=fun (j:Nat)=>(1:Int)) (by omega)]
  repeat'(first|refine ZD ?_|refine ZG Y ?_|refine ZB Y ?_|refine ZC ?_|refine Zh Y Y (by omega) ?_|refine Z0 ?_|refine Z8 ?_)
  exact⟨i+1,⟨rfl,rfl⟩,by omega,by omega⟩
 ·obtain rfl:i=n:=by omega
  have e1:∀(k:IntKind) (f:Nat->Int),((List.range i).map fun (j:Nat)=>AV.int k (if j<i then f j else 0))=(List.range i).map fun j=>.int k (f j):=by
   intro k f
   apply List.map_congr_left
   intro j hj;rw[List.mem_range]at hj;rw[if_pos hj]
  simp only[e1,AR.b0,AR.b1,AR.b2,AR.b3,JF,List.map_replicate,List.map_map,List.length_replicate];simp only[List.map_const',List.length_range];rfl
theorem Zjs(n g:Nat)(hn:1<=n/\n<=16384)(hg:1<=g/\g<=4294967295)(A:List (Bool × List Blk))(L0:List Blk):
 S Tb ZDt [.int .i64 n,.int .u64 g] ⟨A,false,L0⟩=some (.tup [.ptr A.length (L0.length+5) 0 0 0,.int .i64 0],⟨A,false,L0++[(JF n g).b0,(JF n g).b1,(JF n g).b2,(JF n g).b3 A.length L0.length,(JF n g).b4,(JF n g).b5 A.length L0.length]⟩):=by
 refine Xv Y ?_
 repeat'(first|refine ZE ?_|refine ZD ?_|refine ZG Y ?_|refine Zw Y Y ?_|refine ZB Y ?_|refine ZC ?_|(refine cm0 Y Y Y ?_ ?_<;>intro _<;>try omega)|refine ZH Y ?_|refine Zx Y Y Y ?_|refine Z1 Y Y Y ?_|refine ZA Y Y Y (ZpI n g hn hg A L0) ?_|refine Zk1 Y Y ?_|refine ZI ?_|refine ZP ?_|refine ZO ?_)
 simp only[lL,List.append_assoc,lC,lE];rfl
noncomputable def ZGY(N:ZJ)(t:Tr)(a n:Int)(s:B8):Tr :=
 if n=0/\s=[] then t
 else concM N (concM N (cutF N t.h t a).1 (Qx s)) (cutF N (cutF N t.h t a).2.h (cutF N t.h t a).2 n).2
structure ReplOk(N:ZJ)(t:Tr)(a n:Int)(s:B8)(r:Tr):Prop where
 ve:VE N r
 txt:r.txt N=(t.txt N).take a.toNat++s++(t.txt N).drop (a+n).toNat
 bytes:r.bytes=t.bytes-n+s.length
theorem ZOg{N:ZJ}(hN:GoodN N)(ht:VE N t){a n:Int}{s:B8}(h0:0<=a)(h1:0<=n)(h2:a+n<=t.bytes)(hb:t.bytes<=65536)(hs:t.bytes-n+s.length<=65536):ReplOk N t a n s (ZGY N t a n s):=by
 unfold ZGY
 split
 ·rename_i h
  obtain⟨rfl,rfl⟩:=h
  exact⟨ht,by simp,by simp⟩
 ·have c1:=ZOb hN t.h t a ht rfl h0 (by omega) hb
  generalize cutF N t.h t a=q at *
  obtain⟨l,m⟩:=q
  simp only at *
  have hm:=c1.rb;have hl:=c1.lb
  simp only at hm hl
  have c2:=ZOb hN m.h m n c1.r rfl h1 (by omega) (by omega)
  generalize cutF N m.h m n=q at *
  obtain⟨d,r⟩:=q
  simp only at *
  have hr:=c2.rb
  simp only at hr
  obtain⟨b1,b2,b3⟩:=ZAE hN (s:=s) (by omega)
  have k1:=ZDI hN c1.l b1 (by rw[b3];simp only;omega)
  have k2:=ZDI hN k1.ve c2.r (by rw[k1.bytes,b3];simp only;omega)
  refine⟨k2.ve,?_,by rw[k2.bytes,k1.bytes,b3];simp only;omega⟩
  rw[k2.txt,k1.txt,b2];have e1:=c1.lt;have e2:=c1.rt;have e3:=c2.rt
  simp only at e1 e2 e3 ⊢
  rw[e1,e3,e2,List.drop_drop,show a.toNat+n.toNat=(a+n).toNat by omega]
theorem Zc9{N:ZJ}(hN:GoodN N){lv:Nat}(hr:Rd st lv ix N)(ht:VE N t){a n:Int}{s:B8}(h0:0<=a)(h1:0<=n)(h2:a+n<=t.bytes)(hb:t.bytes<=65536)(hs:t.bytes-n+s.length<=65536):
 S Tb ZAO [.ptr lv ix 0 0 0,t.av,.int .i64 a,.int .i64 n,.str s] st=some (.tup [(ZGY N t a n s).own.av,.int .i64 0],st):=by
 refine QN Y (fun A hA=>?_)
 have hrp:=fun L=>hr.push hA (ro:=false) (L:=L)
 have hC:=fun L=>ZZk (hrp L) ht hb
 have hB:=fun st=>ZBw t ht.pos.1 (by omega) st
 have hpos:=ht.pos.2
 by_cases hz:n=0/\s=[]
 ·have he:ZGY N t a n s=t:=by unfold ZGY;rw[if_pos hz]
  rw[he];obtain⟨rfl,rfl⟩:=hz
  have hO:=fun st=>Zpy t ht.pos.1 st
  generalize t.own=o at *
  repeat'(first|refine ZE ?_|refine ZD ?_|refine ZG Y ?_|refine QK Y ?_|refine JZ Y Y ?_|refine Zr Y Y Y Y ?_|refine ZB Y ?_|refine ZC ?_|refine ZmU Y Y ?_|(refine cm0 Y Y Y ?_ ?_<;>intro _<;>try omega)|(refine cm0 Y Y Y ?_ ?_<;>intro _<;>try omega)|(refine cm0 Y Y Y ?_ ?_<;>intro _<;>try omega)|(refine cm0 Y Y Y ?_ ?_<;>intro _<;>try omega)|(refine Xl Y Y (fun _=>?_) (fun _=>?_)<;>try contradiction)|refine ZQ Y ?_|refine ZH Y ?_|refine Yc Y Y (by omega) ?_|refine Zx Y Y Y ?_|refine Zi Y Y Y ?_|refine Zv Y Y Y Y Y Y ?_|refine ZU Y Y Y (Zo _) ?_|refine Zv Y Y Y (QQ _ _ _) (Qw _ _) Y ?_|refine Z1 Y (Z4 _) (QG _) ?_|refine ZA Y Y (by first|rfl|(simp only[lE,lN,lC,Ze,ZW,ZX];first|done|rfl)) (hC _) ?_|refine ZA Y Y (by first|rfl|(simp only[lE,lN,lC,Ze,ZW,ZX];first|done|rfl)) (hB _) ?_|refine ZA Y Y (by first|rfl|(simp only[lE,lN,lC,Ze,ZW,ZX];first|done|rfl)) (hO _) ?_|refine Zdv Y Y ?_|refine ZI ?_|refine ZP ?_|refine ZO ?_|refine Zd ?_)
  all_goals try (simp only[jB,if_false]at *)
  all_goals try omega
  all_goals first|(exact ZD3 hA (.inr Y) Y Y Y Y)|(exact absurd ⟨by assumption,by assumption⟩ hz)
 ·have hK1:=fun L=>Zpz hN t.h (hrp L) ht rfl a h0 (by omega) hb
  have c1:=ZOb hN t.h t a ht rfl h0 (by omega) hb
  have hrm:ZGY N t a n s=concM N (concM N (cutF N t.h t a).1 (Qx s)) (cutF N (cutF N t.h t a).2.h (cutF N t.h t a).2 n).2:=by unfold ZGY;rw[if_neg hz]
  have hO0:=(ZOg hN ht h0 h1 h2 hb hs).ve.pos.1
  generalize cutF N t.h t a=q at *
  obtain⟨l,m⟩:=q
  simp only at *
  have hm:=c1.rb;have hl:=c1.lb;have vl:=c1.l;have vm:=c1.r
  simp only at hm hl vl vm
  have hK2:=fun L=>Zpz hN m.h (hrp L) vm rfl n h1 (by omega) (by omega)
  have c2:=ZOb hN m.h m n vm rfl h1 (by omega) (by omega)
  generalize cutF N m.h m n=q at *
  obtain⟨d,r⟩:=q
  simp only at *
  have vr:=c2.r;have hrb:=c2.rb
  simp only at vr hrb
  obtain⟨b1,b2,b3⟩:=ZAE hN (s:=s) (by omega)
  have hBu:=fun st=>ZfR hN s (by omega) st
  generalize Qx s=b at *
  have hc1:=fun L=>ZOc hN (hrp L) vl b1
  have k1:=(ZDI hN vl b1 (by omega)).ve
  generalize concM N l b=z1 at *
  have hc2:=fun L=>ZOc hN (hrp L) k1 vr
  generalize concM N z1 r=z2 at *
  rw[hrm]at hO0 ⊢
  have hO:=fun st=>Zpy z2 hO0 st
  generalize z2.own=zo at *
  have hmin:∀x:Int,min x 65536<=x/\min x 65536<=65536/\(min x 65536=x\/min x 65536=65536):=fun x=>by omega
  have hmin2:=hmin s.length
  repeat'(first|refine ZE ?_|refine ZD ?_|refine ZG Y ?_|refine QK Y ?_|refine JZ Y Y ?_|refine Zr Y Y Y Y ?_|refine Zw Y Y ?_|refine ZB Y ?_|refine ZC ?_|refine YK Y ?_|(refine cm0 Y Y Y ?_ ?_<;>intro _<;>try omega)|(refine cm0 Y Y Y ?_ ?_<;>intro _<;>try omega)|(refine cm0 Y Y Y ?_ ?_<;>intro _<;>try omega)|(refine cm0 Y Y Y ?_ ?_<;>intro _<;>try omega)|(refine Xl Y Y (fun _=>?_) (fun _=>?_)<;>try contradiction)|refine ZQ Y ?_|refine ZH Y ?_|refine Yc Y Y (by omega) ?_|refine Zx Y Y Y ?_|refine Zi Y Y Y ?_|refine Zv Y Y Y Y Y Y ?_|refine ZU Y Y Y (Zo _) ?_|refine Zv Y Y Y (QQ _ _ _) (Qw _ _) Y ?_|refine Z1 Y (Z4 _) (QG _) ?_|refine ZA Y Y (by first|rfl|(simp only[lE,lN,lC,Ze,ZW,ZX];first|done|rfl)) (hC _) ?_|refine ZA Y Y (by first|rfl|(simp only[lE,lN,lC,Ze,ZW,ZX];first|done|rfl)) (hB _) ?_|refine ZA Y Y (by first|rfl|(simp only[lE,lN,lC,Ze,ZW,ZX];first|done|rfl)) (hK1 _) ?_|refine ZA Y Y (by first|rfl|(simp only[lE,lN,lC,Ze,ZW,ZX];first|done|rfl)) (hK2 _) ?_|refine ZA Y Y (by first|rfl|(simp only[lE,lN,lC,Ze,ZW,ZX];first|done|rfl)) (hBu _) ?_|refine ZA Y Y (by first|rfl|(simp only[lE,lN,lC,Ze,ZW,ZX];first|done|rfl)) (hc1 _) ?_|refine ZA Y Y (by first|rfl|(simp only[lE,lN,lC,Ze,ZW,ZX];first|done|rfl)) (hc2 _) ?_|refine ZA Y Y (by first|rfl|(simp only[lE,lN,lC,Ze,ZW,ZX];first|done|rfl)) (hO _) ?_|refine Zdv Y Y ?_|refine ZI ?_|refine ZP ?_|refine ZO ?_|refine Zd ?_)
  all_goals try (simp only[jB,if_false]at *)
  all_goals try omega
  all_goals first|(exact ZD3 hA (.inr Y) Y Y Y Y)|(exact absurd ⟨by assumption,by assumption⟩ hz)
def hd(N:ZJ):Nat:=1*65536+N.length
theorem ZZp:∀ {N M:ZJ} {o:Nat},lk (N++M) o=(lk N o).or (lk M o)
 | [],M,o=>by simp[lk]
 | p::N,M,o=>by
  rw[lC,lk,lk]
  by_cases c:p.1=o
  ·rw[if_pos c,if_pos c];rfl
  ·rw[if_neg c,if_neg c,ZZp]
theorem ZOh:GoodN []:=fun o x h=>by simp[lk]at h
theorem ZOi(s:B8):s.countP ZRz<=s.countP ZD2:=by
 refine List.countP_mono_left (fun b _ h=>?_)
 unfold ZRz at h;unfold ZD2
 simp at h ⊢
 omega
theorem NdOk.kid{y:Nd}(h:NdOk y)(hl:(leastB y.h:Int)<=y.mea.b){a:Nat}(ha:ZBv a):KidOk y.h ⟨a,y.mea⟩:=by
 rcases h with h|⟨n,ks,h⟩
 ·have hm:y.mea=Yj y.text:=by unfold Nd.mea;rw[if_pos h.h]
  have h1:=h.hi;have h2:=ZOi y.text;have h3:=List.countP_le_length (p:=ZD2) (l:=y.text);refine⟨ha,hl,?_,?_,?_,?_,?_⟩
  all_goals simp only[hm,Yj,h.h,mostB]
  all_goals omega
 ·have e:=h.eq
  subst e;have hms:Nd.mea ⟨n+1,[],some ks⟩=QF (ks.map Kid.m):=rfl;have hs:=h.sum;have hhi:=h.hi;have hk:=h.kid
  have key:∀(l:List Kid),(∀k∈l,KidOk n k)->(QF (l.map Kid.m)).b<=l.length*(mostB n:Int)/\0<=(QF (l.map Kid.m)).r/\(QF (l.map Kid.m)).r<=(QF (l.map Kid.m)).b/\0<=(QF (l.map Kid.m)).l/\(QF (l.map Kid.m)).l<=(QF (l.map Kid.m)).r:=by
   intro l
   induction l with
   | nil=>intro _;simp[QF,Mea.zero]
   | cons k l ih =>
    intro hk
    obtain⟨i1,i2,i3,i4,i5⟩:=ih (fun k hk'=>hk k (by simp[hk']))
    have hk1:=hk k (by simp)
    have a1:=hk1.hi;have a2:=hk1.r0;have a3:=hk1.rb;have a4:=hk1.l0;have a5:=hk1.lr;simp only[jC,QF,Mea.add,List.length_cons]
    have:((l.length+1:Nat):Int)*(mostB n:Int)=l.length*(mostB n:Int)+mostB n:=by
     rw[Int.natCast_add,Int.add_mul];simp
    refine⟨?_,?_,?_,?_,?_⟩<;>omega
  obtain⟨k1,k2,k3,k4,k5⟩:=key ks hk
  have h4:(ks.length:Int)*(mostB n:Int)<=4*(mostB n:Int):=Int.mul_le_mul_of_nonneg_right (by omega) (by omega)
  have hm:=ZOX n;refine⟨ha,hl,?_,?_,?_,?_,?_⟩
  all_goals simp only[hms,mostB]
  all_goals omega
def arK(lv b:Nat):List (Nat × Nat):=[(lv,b),(lv,b+1),(lv,b+2),(lv,b+3),(lv,b+4),(lv,b+5)]
def arB(lv b:Nat)(r:AR):List Blk:=[r.b0,r.b1,r.b2,r.b3 lv b,r.b4,r.b5 lv b]
def Qg(st:St)(lv b:Nat)(r:AR):St:=Jh st (arK lv b) (arB lv b r)
theorem ZR4(lv b:Nat):(arK lv b).Nodup:=by simp[arK]
section
variable {st:St}{lv b:Nat}{r:AR}
theorem Has.cl(h:Has st lv b r):Cl st (arK lv b) (arB lv b r):=by
 refine⟨ZR4 lv b,rfl,fun k hk=>?_,fun j l i c h1 h2=>?_⟩
 ·simp only[arK,List.mem_cons,List.not_mem_nil,or_false]at hk
  rcases hk with rfl|rfl|rfl|rfl|rfl|rfl<;>exact h.wr
 ·match j,h1,h2 with
  | 0,h1,h2=>obtain⟨rfl,rfl⟩:=Prod.mk.inj (Option.some.inj h1);obtain rfl:=Option.some.inj h2;exact h.h0
  | 1,h1,h2=>obtain⟨rfl,rfl⟩:=Prod.mk.inj (Option.some.inj h1);obtain rfl:=Option.some.inj h2;exact h.h1
  | 2,h1,h2=>obtain⟨rfl,rfl⟩:=Prod.mk.inj (Option.some.inj h1);obtain rfl:=Option.some.inj h2;exact h.h2
  | 3,h1,h2=>obtain⟨rfl,rfl⟩:=Prod.mk.inj (Option.some.inj h1);obtain rfl:=Option.some.inj h2;exact h.h3
  | 4,h1,h2=>obtain⟨rfl,rfl⟩:=Prod.mk.inj (Option.some.inj h1);obtain rfl:=Option.some.inj h2;exact h.h4
  | 5,h1,h2=>obtain⟨rfl,rfl⟩:=Prod.mk.inj (Option.some.inj h1);obtain rfl:=Option.some.inj h2;exact h.h5
  | n+6,h1,h2=>simp[arK]at h1
theorem Has.of_cl(h:Cl st (arK lv b) (arB lv b r)):Has st lv b r :=
 ⟨h.wr (lv,b) (by simp[arK]),h.get 0 _ _ _ rfl rfl,h.get 1 _ _ _ rfl rfl,h.get 2 _ _ _ rfl rfl,h.get 3 _ _ _ rfl rfl,h.get 4 _ _ _ rfl rfl,h.get 5 _ _ _ rfl rfl⟩
theorem Has.same(h:Has st lv b r):Qg st lv b r=st:=h.cl.same
theorem Has.put(h:Has st lv b r)(r':AR):Has (Qg st lv b r') lv b r':=.of_cl (h.cl.put rfl rfl)
theorem Zk2{r1 r2:AR}:Qg (Qg st lv b r1) lv b r2=Qg st lv b r2:=Zc0 (ZR4 lv b) rfl rfl
theorem Has.out(h:Has st lv b r)(r':AR){l i:Nat}(hn:¬ (l=lv/\b<=i/\i<=b+5)):(Qg st lv b r').get l i=st.get l i:=by
 refine h.cl.out Y Y (fun q=>hn ?_)
 simp only[arK,List.mem_cons,jP,List.not_mem_nil,or_false]at q;omega
theorem ZGA(r':AR):(Qg st lv b r').A.length=st.A.length:=ZZZ _ _ _
theorem Has.le(h:Has st lv b r):lv<=st.A.length:=St.get_le h.h5
theorem Has.push(h:Has st lv b r){L:List Blk}(hA:A=st.ps):Has ⟨A,ro,L⟩ lv b r:=.of_cl (h.cl.push hA)
theorem ZAy{L:List Blk}(hA:A=st.ps)(hl:lv<=st.A.length){r':AR}:Qg ⟨A,ro,L⟩ lv b r'=⟨(Qg st lv b r').ps,ro,L⟩:=by
 refine Zc1 hA (fun k hk=>?_)
 simp only[arK,List.mem_cons,List.not_mem_nil,or_false]at hk
 rcases hk with rfl|rfl|rfl|rfl|rfl|rfl<;>exact hl
theorem Ziu(h:Has st lv b r)(s g:Nat)(x:Nd):ZAZ st lv b r s g x=Qg st lv b (r.alloc s g x):=by
 have e:∀X Y',ZAZ X lv b r s g x=Y'->X=st->ZAZ st lv b r s g x=Y':=fun X Y' h1 h2=>by rw[<- h2];exact h1
 refine e (Qg st lv b r) _ ?_ h.same;unfold ZAZ Qp Qg;rw[ZBI (j:=3) (ZR4 lv b) rfl rfl,ZBI (j:=0) (ZR4 lv b) rfl rfl,ZBI (j:=4) (ZR4 lv b) rfl rfl,ZBI (j:=5) (ZR4 lv b) rfl rfl];rfl
end
theorem QX{k:List Fr}{keep:List Nat}{is:List PI}{α:Type}{f:α->AV}{l:List α}{i:Opd}{n:Int}{a:α}(hx:Zc e x=some (.lit (l.map f)))(hi:Zc e i=some (.int .i64 n))(ha:0<=n/\l[n.toNat]?=some a)(hw:∀a,(f a).wide=some w)
 (h:Is O is keep k Q ((d,.lptr (f a) 0)::e) st):Is O (⟨some d,none,false,.ixS w x i⟩::is) keep k Q e st:=by
 have hlt:=(List.getElem?_eq_some_iff.1 ha.2).1
 refine YE hx hi (by omega) hw (fun b hb=>?_)
 rw[ha.2]at hb;rw[<- Option.some.inj hb];exact h
theorem Zk3{lv b:Nat}{r:AR}(h:Has st lv b r){k s:Nat}(hc:CanTake r k s g)(n:Nat)(ks:List Kid)(hx:NdOk ⟨n+1,[],some ks⟩)(hL:Zmo r.nodes n ks):
 S Tb Jj [.ptr lv (b+5) 0 0 0,Nd.av ⟨n+1,[],some ks⟩] st=some (.tup [.int .u64 ((g*65536+s:Nat):Int),.int .i64 0],ZAZ st lv b r s g ⟨n+1,[],some ks⟩):=by
 refine ZBe Y (fun A hA=>?_)
 have hN:=fun st=>ZZc ⟨n+1,[],some ks⟩ hx st
 have hk4:ks.length<=4:=hx.len
 have hn15:n<=15:=by
  rcases hx with hl|⟨m,l,hi⟩
  ·have:=hl.h;simp at this
  ·have h1:=hi.n15
   have h2:=congrArg Nd.h hi.eq
   simp only at h2
   omega
 simp only[Nd.av,slV]at hN ⊢
 have g5:=fun L=>ZS hA (ro:=false) (L:=L) h.h5
 have g4:=fun L=>ZS hA (ro:=false) (L:=L) h.h4
 unfold AR.b5 at g5;unfold AR.b4 at g4
 repeat'(first|refine ZE ?_|refine ZD ?_|refine ZG Y ?_|refine ZV Y Y ?_|refine ZU Y Y Y Y ?_|refine ZB Y ?_|refine ZC ?_|refine QH Y ?_|(refine cm0 Y Y Y ?_ ?_<;>intro _<;>try omega)|refine ZH Y ?_|refine JN Y Y Y Y ?_|refine Zi Y Y Y ?_|refine ZA Y Y Y (hN _) ?_|refine ZI ?_|refine ZL ?_)
 all_goals try omega
 have hle:=St.get_le h.h3
 refine Zy (α:=Nat × List Blk) (fun p=>[(0,.ptr lv (b+5) 0 0 0),(3,.ptr A.length 0 0 0 0),(23,.lit (ks.map Kid.av)),(24,.int .i64 ks.length),(25,.int .i64 p.1)]) (fun p=>⟨A,false,.arr 3 0 [.agg [.int .i64 ((n+1:Nat):Int),.str [],.lit (ks.map Kid.av)]]::p.2⟩) (fun p=>p.1<=ks.length) (fun p=>ks.length-p.1) (0,[]) Y Y (by simp) ?_
 rintro⟨i,G⟩ hi
 simp only at hi ⊢
 rcases Nat.lt_or_ge i ks.length with hlt|hge
 ·obtain⟨kd,hk'⟩:∃k,ks[i]?=some k:=⟨ks[i]'(by omega),by simp[hlt]⟩
  obtain⟨y,y1,y2,y3,y4⟩:=hL kd (jM hk')
  have hlk:=fun L z=>Zc2 (g4 L) y1 z
  have hMe:=fun st=>ZLZ y y2 st
  have hk1:0<=((i:Nat):Int)/\ks[((i:Nat):Int).toNat]?=some kd:=⟨by omega,by rw[show ((i:Nat):Int).toNat=i by omega];exact hk'⟩
  rw[y4]at hMe;obtain⟨yh,yt,yk⟩:=y
  simp only at y3
  subst y3
  cases yk
  all_goals simp only[Nd.av,slV,Mea.av]at *
  all_goals repeat'(first|refine QX Y Y hk1 (fun _=>rfl) ?_|refine ZE ?_|refine ZD ?_|refine ZG Y ?_|refine ZV Y Y ?_|refine ZU Y Y Y Y ?_|refine QK Y ?_|refine Zr Y Y Y Y ?_|refine Zw Y Y ?_|refine ZB Y ?_|refine ZC ?_|refine Z7 Y Y ?_|refine Qv Y Y Y ?_|refine QA Y Y ?_|(refine cm0 Y Y Y ?_ ?_<;>intro _<;>try omega)|refine ZQ Y ?_|refine ZH Y ?_|refine Jo Y Y ?_|refine Zh Y Y (by omega) ?_|refine Yc Y Y (by omega) ?_|refine Z1 Y Y Y ?_|refine YQ Y Y Y Y Y Y ?_|refine QB Y (g5 _) Y Y ?_|refine Jz Y Y (hlk _ _) ?_|refine ZA Y Y Y (hMe _) ?_|refine ZqT Y Y Y ?_|refine ZqU Y Y Y ?_|(refine ZJB Y Y (Zo3 _ _ _ _ _ _) (fun _=>?_) (fun _=>?_))|refine ZI ?_|refine ZP ?_|refine ZL ?_|refine ZO ?_|refine Zd ?_|refine Z0 ?_|refine Qu ?_|refine Z8 ?_|refine ZKV ?_)
  all_goals try omega
  all_goals first|exact⟨(i+1,G++[_]++[_]++[_]),⟨rfl,rfl⟩,by simp only;omega,by simp only;omega⟩|exact absurd ⟨rfl,rfl,rfl⟩ ‹_›
 ·obtain rfl:i=ks.length:=by omega
  have hTk:=fun L=>Zml (st:=⟨A,false,L⟩) ⟨XK hA hle h.wr,ZS hA h.h0,ZS hA h.h1,ZS hA h.h2,ZS hA h.h3,ZS hA h.h4,ZS hA h.h5⟩ hc.n hc.blk hc.st hc.s16 hc.gen ⟨hc.g1,hc.g2⟩ hc.big
  repeat'(first|refine ZE ?_|refine ZD ?_|refine ZG Y ?_|refine ZV Y Y ?_|refine ZB Y ?_|refine ZC ?_|refine Z7 Y Y ?_|(refine cm0 Y Y Y ?_ ?_<;>intro _<;>try omega)|refine ZH Y ?_|refine QB Y (g5 _) Y Y ?_|refine Zq ?_|refine Zb ?_|refine Za Y ?_|refine Zn ?_)
  all_goals try omega
  refine ZA Y Y Y (hTk _) ?_;rw[Zc6 hA hle];obtain⟨A1,hA1⟩:∃A1,A1=(Qp st lv b r s).A++[((Qp st lv b r s).ro,(Qp st lv b r s).L)]:=⟨_,rfl⟩;rw[<- hA1]
  have hlen:A.length=A1.length:=by rw[hA,hA1,lL,lL,Zmn];rfl
  rw[hlen];refine ZG Y ?_;refine Zw Y Y ?_;refine Zw Y Y ?_;refine ZG Y ?_;refine ZG Y ?_;refine ZB Y ?_;refine ZC ?_;refine ZE ?_;refine ZE ?_;refine ZD ?_;refine ZG Y ?_
  refine Zk Y Y (fun q=>absurd Y q) (fun _=>?_)
  refine ZB Y ?_;refine ZC ?_;refine ZH Y ?_;refine ZI ?_;refine ZC ?_
  have:=Zc7 h hc ⟨n+1,[],some ks⟩ (.lit (ks.map Kid.av)) rfl A1 G hA1 (fun L=>ZfO ks (by omega) _)
  exact this
structure AROk(r:AR):Prop where
 nb:r.n<=r.blk.length
 n16:r.states.length<=16384
 nn:r.n<=r.states.length
 gl:r.gens.length=r.states.length
 stk:∀i,i<r.n->∃s:Nat,r.blk[i]?=some (s:Int)/\s<r.states.length/\r.states[s]?=some 0
 nd:∀i j,i<r.n->j<r.n->r.blk[i]?=r.blk[j]?->i=j
 gen:∀s,s<r.states.length->∃g:Nat,r.gens[s]?=some (g:Int)/\1<=g/\(g:Int)<=r.most
 most:r.most<=4294967295
 key:∀h x,lk r.nodes h=some x->∃s g:Nat,h=g*65536+s/\s<r.states.length/\r.states[s]?=some 1/\r.gens[s]?=some (g:Int)
 al:0<=r.allocs/\r.allocs+r.n<=r.frees+r.slots
 fr:0<=r.frees/\r.frees<=900000
 sl:r.slots<=16384
def AR.slot(r:AR):Nat:=((r.blk[r.n-1]?).getD 0).toNat
def AR.gen1(r:AR):Nat:=((r.gens[r.slot]?).getD 0).toNat
def AR.next(r:AR):Nat:=r.gen1*65536+r.slot
def AR.add(r:AR)(x:Nd):AR:=r.alloc r.slot r.gen1 x
theorem AROk.top{r:AR}(h:AROk r)(hn:0<r.n):r.blk[r.n-1]?=some (r.slot:Int)/\r.slot<r.states.length/\r.states[r.slot]?=some 0/\r.gens[r.slot]?=some (r.gen1:Int)/\1<=r.gen1/\(r.gen1:Int)<=r.most:=by
 obtain⟨s,h1,h2,h3⟩:=h.stk (r.n-1) (by omega)
 have e1:r.slot=s:=by unfold AR.slot;rw[h1];simp
 obtain⟨g,g1,g2,g3⟩:=h.gen s h2
 have e2:r.gen1=g:=by unfold AR.gen1;rw[e1,g1];simp
 rw[e2,e1];exact⟨h1,h2,h3,g1,g2,g3⟩
theorem AROk.can{r:AR}(h:AROk r)(hn:0<r.n):CanTake r (r.n-1) r.slot r.gen1:=by
 obtain⟨h1,h2,h3,h4,h5,h6⟩:=h.top hn
 have:=h.n16
 have:=h.nn
 have:=h.most
 have:=h.al
 have:=h.fr
 have:=h.sl
 refine⟨by omega,h1,h2,by omega,h4,h5,by omega,by omega,?_,by omega⟩
 cases hk:lk r.nodes (r.gen1*65536+r.slot) with
 | none=>rfl
 | some x =>
  obtain⟨s,g,k1,k2,k3,k4⟩:=h.key _ _ hk
  have:s=r.slot:=by omega
  subst this;rw[h3]at k3
  simp at k3
theorem AROk.add{r:AR}(h:AROk r)(hn:0<r.n)(x:Nd):AROk (r.add x):=by
 obtain⟨h1,h2,h3,h4,h5,h6⟩:=h.top hn;have e1:(r.add x).n=r.n-1:=rfl;have e2:(r.add x).states=r.states.set r.slot 1:=rfl;have e3:(r.add x).nodes=r.nodes++[(r.gen1*65536+r.slot,x.copy)]:=rfl;have e4:(r.add x).blk=r.blk:=rfl;have e5:(r.add x).gens=r.gens:=rfl;have e6:(r.add x).most=r.most:=rfl;have e7:(r.add x).allocs=r.allocs+1:=rfl;have e8:(r.add x).frees=r.frees:=rfl;have e9:(r.add x).slots=r.slots:=rfl
 have hne:∀i,i<r.n-1->r.blk[i]?≠some (r.slot:Int):=fun i hi q=>by
  have:=h.nd i (r.n-1) (by omega) (by omega) (by rw[q,h1])
  omega
 refine⟨by rw[e1,e4];have:=h.nb;omega,by rw[e2,List.length_set];exact h.n16,by rw[e1,e2,List.length_set];have:=h.nn;omega,by rw[e5,e2,List.length_set];exact h.gl,?_,?_,?_,by rw[e6];exact h.most,?_,by rw[e7,e1,e8,e9];have:=h.al;omega,by rw[e8];exact h.fr,by rw[e9];exact h.sl⟩
 ·intro i hi
  rw[e1]at hi
  obtain⟨s,k1,k2,k3⟩:=h.stk i (by omega)
  have:s≠r.slot:=fun q=>hne i hi (by rw[k1,q])
  exact⟨s,k1,by rw[e2,List.length_set];exact k2,by rw[e2,jS (fun q=>this q.symm)];exact k3⟩
 ·intro i j hi hj hij
  rw[e1]at hi hj
  exact h.nd i j (by omega) (by omega) hij
 ·intro s hs
  rw[e2,List.length_set]at hs;exact h.gen s hs
 ·intro a y hy
  rw[e3,ZZp]at hy
  cases hk:lk r.nodes a with
  | some z =>
   obtain⟨s,g,k1,k2,k3,k4⟩:=h.key a z hk
   have:s≠r.slot:=fun q=>by subst q;rw[h3]at k3;simp at k3
   exact⟨s,g,k1,by rw[e2,List.length_set];exact k2,by rw[e2,jS (fun q=>this q.symm)];exact k3,by rw[e5];exact k4⟩
  | none =>
   rw[hk]at hy;simp only[Option.none_or,lk]at hy
   split at hy
   ·rename_i q
    exact⟨r.slot,r.gen1,q.symm,by rw[e2,List.length_set];exact h2,by rw[e2,List.getElem?_set_self h2],by rw[e5];exact h4⟩
   ·simp at hy
theorem AROk.new{r:AR}(h:AROk r)(hn:0<r.n):lk r.nodes r.next=none:=(h.can hn).new
theorem ZIv{r:AR}(h:AROk r)(hn:0<r.n)(x:Nd)(o:Nat):lk (r.add x).nodes o=if o=r.next then some x.copy else lk r.nodes o:=by
 have e3:(r.add x).nodes=r.nodes++[(r.next,x.copy)]:=rfl;rw[e3,ZZp]
 by_cases q:o=r.next
 ·rw[if_pos q,q,h.new hn];simp[lk]
 ·rw[if_neg q]
  cases lk r.nodes o with
  | some y=>rfl
  | none=>simp only[Option.none_or,lk];rw[if_neg (fun w=>q w.symm)]
theorem Zmp{lv b:Nat}{r:AR}(h:Has st lv b r)(ho:AROk r)(hn:0<r.n){x:Nd}(hx:NdOk x)(hxk:x.h=0->x.kids=none)(hL:∀k∈x.ks,∃y,lk r.nodes k.at_=some y/\NdOk y/\y.h+1=x.h/\y.mea=k.m):
 S Tb Jj [.ptr lv (b+5) 0 0 0,x.av] st=some (.tup [.int .u64 r.next,.int .i64 0],Qg st lv b (r.add x)):=by
 have hc:=ho.can hn;unfold AR.add AR.next;rw[<- Ziu h]
 rcases hx with hl|⟨n,ks,hi⟩
 ·obtain⟨xh,xt,xk⟩:=x
  have hh:xh=0:=hl.h;subst hh
  have:=hxk rfl
  simp only at this
  subst this;exact Zit h hc xt ⟨hl.lo,hl.hi⟩
 ·have e:=hi.eq
  subst e
  refine Zk3 h hc n ks (.inr ⟨n,ks,hi⟩) (fun k hk=>?_)
  obtain⟨y,y1,y2,y3,y4⟩:=hL k hk
  exact⟨y,y1,y2,by simpa using y3,y4⟩
end Go.Q15
namespace Go.QAbs
variable {a cv td v v' vx z:AV}{agg ro:Bool}{e:Env}{A:List (Bool × List Blk)}{cls es ys:LV}{L':List Blk}{d g ib ip ix j jb jx n ob pl px vb ver w xb:Nat}{x:Opd}{O:Orc}{st:St}{Q:YD}
theorem ZAF:∀l:List Blk,YC l=some l
 | []=>rfl
 | b::l=>by rw[YC,ZAF l]
theorem ZSl:∀l:LV,ZX l=some l
 | []=>rfl
 | b::l=>by rw[ZX,ZSl l]
theorem Zk4{k:IntKind}{α:Type}(f:α->Int)(l:List α):Q7 1 (l.map fun a=>AV.int k (f a))=true:=by
 induction l with
 | nil=>rfl
 | cons b s ih=>rw[jC,Q7,List.all_cons];exact Bool.and_eq_true_iff.2 ⟨rfl,ih⟩
theorem ZR5{k:IntKind}{α:Type}(f:α->Int)(n b:Nat)(st:St)(l:List α):mapSt (ZY (n+1) b) st (l.map fun a=>AV.int k (f a))=some (l.map fun a=>AV.int k (f a),st):=by
 induction l with
 | nil=>rfl
 | cons x s ih =>
  rw[jC,mapSt]
  show ((some (AV.int k (f x),st)).bind fun r=>(mapSt (ZY (n+1) b) r.2 (s.map fun a=>AV.int k (f a))).bind (Y1 r.1))=_
  rw[oS,ih];rfl
section
variable {O:Orc}{k:List Fr}{Q:YD}{e:Env}{A:List (Bool × List Blk)}{L:List Blk}{keep:List Nat}{is:List PI}{d:Nat}
theorem ZAa{bytes:Nat}{s:Opd}(hs:Zc e s=some (.ref A.length ix ver 0 n))(hx:Zc e x=some (.lit ys))(hg:L[ix]?=some (Blk.arr w ver es))(hn:n=es.length)(hw:Q7 w ys=true)
 (hm:mapSt (ZY QD (A.length+1)) ⟨A,false,L⟩ ys=some (ys,⟨A,false,L⟩)) (hl:es.length+ys.length<4294967296) (hb:bytes<=4096)
 (h:Is O is keep k Q ((d,.ref A.length ix (ver+1) 0 (n+ys.length))::e) ⟨A,false,L.set ix (.arr w (ver+1) (es++ys))⟩):Is O (⟨some d,none,false,.app w bytes s x⟩::is) keep k Q e ⟨A,false,L⟩ :=
 Zdz hs hx hg rfl hn hl hb hw hm (ZAF _) h
theorem ZhD{bytes:Nat}{s:Opd}{vj:Nat}(hs:Zc e s=some (.ref A.length ix ver 0 n))(hx:Zc e x=some (.ref A.length jx vj 0 ys.length))(hj:L[jx]?=some (Blk.arr w vj ys))(hg:L[ix]?=some (Blk.arr w ver es))(hn:n=es.length)(hw:Q7 w ys=true)
 (hm:mapSt (ZY QD (A.length+1)) ⟨A,false,L⟩ ys=some (ys,⟨A,false,L⟩)) (hl:es.length+ys.length<4294967296) (hb:bytes<=4096)
 (h:Is O is keep k Q ((d,.ref A.length ix (ver+1) 0 (n+ys.length))::e) ⟨A,false,L.set ix (.arr w (ver+1) (es++ys))⟩):Is O (⟨some d,none,false,.app w bytes s x⟩::is) keep k Q e ⟨A,false,L⟩:=by
 refine Zdz (ys:=ys) hs hx hg ?_ hn hl hb hw hm (ZAF _) h;simp only[elems,St.get_cur,hj,vis,ZDO,true_and,Nat.zero_add,Nat.le_refl,if_true,List.drop_zero,List.take_length]
theorem ZpJ{t:Opd}(ht:Zc e t=some (.ref A.length ix ver 0 n))(hx:Zc e x=some vx)(hy:elems ⟨A,false,L⟩ vx=some ys)(hg:L[ix]?=some (Blk.arr w ver es))(hn:n=es.length)(hl:ys.length=n)(hw:Q7 w ys=true)
 (hm:mapSt (ZY QD (A.length+1)) ⟨A,false,L⟩ ys=some (ys,⟨A,false,L⟩))
 (h:Is O is keep k Q ((d,.int .i64 ys.length)::e) ⟨A,false,L.set ix (.arr w ver ys)⟩):Is O (⟨some d,none,false,.cpy w t x⟩::is) keep k Q e ⟨A,false,L⟩:=by
 have hlt:ix<L.length:=(List.getElem?_eq_some_iff.1 hg).1;refine Z3 (v:=.int .i64 ys.length) (st':=⟨A,false,L.set ix (.arr w ver ys)⟩) ?_ h
 have e1:es.take 0++ys++es.drop (0+ys.length)=ys:=by rw[List.drop_of_length_le (by omega)];simp
 simp only[Zg,evalPO,ZF ht,ZF hx,hy,oS,Zh0,hw,if_true,hm,St.get_cur,hg,vis,ZdY,true_and,if_pos (show 0+n<=es.length/\ys.length<=n by omega),e1]
 simp only[St.put,if_true,jB,if_false,if_pos hlt,oS]
theorem Zk5{lv:Nat}{es:List (AV × AV)}(hx:Zc e x=some (.map lv ix))(hg:st.get lv ix=some (.map es))(h:Is O is keep k Q ((d,.int .i64 es.length)::e) st):Is O (⟨some d,none,false,.len 2 x⟩::is) keep k Q e st:=by
 refine Z3 (v:=.int .i64 es.length) (st':=st) ?_ h;simp only[Zg,evalPO,ZF hx,lenOf,hg,ZVw,oS]
end
end Go.QAbs
namespace Go.Q15
open Go Go.QAbs
variable {a cv td v v' vx z:AV}{agg ro:Bool}{e:Env}{A:List (Bool × List Blk)}{cls es ys:LV}{L':List Blk}{d g ib ip ix j jb jx n ob pl px vb ver w xb:Nat}{x:Opd}{O:Orc}{st:St}{t:Tr}{Q:YD}
structure HasR(st:St)(lv b:Nat)(r:AR):Prop where
 h0:st.get lv b=some r.b0
 h1:st.get lv (b+1)=some r.b1
 h2:st.get lv (b+2)=some r.b2
 h3:st.get lv (b+3)=some (r.b3 lv b)
 h4:st.get lv (b+4)=some r.b4
 h5:st.get lv (b+5)=some (r.b5 lv b)
theorem Has.r{lv b:Nat}{r:AR}(h:Has st lv b r):HasR st lv b r:=⟨h.h0,h.h1,h.h2,h.h3,h.h4,h.h5⟩
theorem HasR.push{lv b:Nat}{r:AR}{L:List Blk}(hA:A=st.A++[(st.ro,st.L)])(h:HasR st lv b r):HasR ⟨A,ro,L⟩ lv b r :=
 ⟨ZS hA h.h0,ZS hA h.h1,ZS hA h.h2,ZS hA h.h3,ZS hA h.h4,ZS hA h.h5⟩
theorem HasR.allRo{lv b:Nat}{r:AR}(h:HasR st lv b r):HasR st.allRo lv b r :=
 ⟨by rw[Qa];exact h.h0,by rw[Qa];exact h.h1,by rw[Qa];exact h.h2,by rw[Qa];exact h.h3,by rw[Qa];exact h.h4,by rw[Qa];exact h.h5⟩
theorem HasR.rd{lv b:Nat}{r:AR}(h:HasR st lv b r):Rd st lv (b+5) r.nodes:=⟨_,_,_,_,_,_,h.h5,h.h4⟩
theorem ZdA{i:Nat}(f:Nat->AV)(v:AV):((List.range n).map f).set i v=(List.range n).map fun j=>if j=i then v else f j:=by
 apply List.ext_getElem
 ·simp
 ·intro j hj hj'
  simp only[List.getElem_set,List.getElem_map,List.getElem_range]
  by_cases q:i=j
  ·subst q;simp
  ·rw[if_neg q,if_neg (fun w=>q w.symm)]
theorem ZdB{k:Nat}(f:Nat->AV)(h:k<n):((List.range n).map f)[0+((k:Nat):Int).toNat]?=some (f k):=by
 rw[show 0+((k:Nat):Int).toNat=k by omega]
 simp[h]
def ZBK(l:List Int)(i k:Nat):Int:=if k<i\/l.length<k+i+1 then (l[l.length-1-k]?).getD 0 else (l[k]?).getD 0
theorem ZqV(l:List Int):(List.range l.length).map (fun k=>AV.int .i64 (ZBK l 0 k))=l.map (.int .i64):=by
 apply List.ext_getElem
 ·simp
 ·intro k h1 h2
  simp only[List.length_map,List.length_range]at h1;simp only[List.getElem_map,List.getElem_range,ZBK,Nat.not_lt_zero,false_or]
  rw[if_neg (by omega),jE h1];rfl
theorem ZqW(l:List Int){i:Nat}(h:l.length<=2*i+1):(List.range l.length).map (fun k=>AV.int .i64 (ZBK l i k))=l.reverse.map (.int .i64):=by
 apply List.ext_getElem
 ·simp
 ·intro k h1 h2
  simp only[List.length_map,List.length_range]at h1;simp only[List.getElem_map,List.getElem_range,ZBK,List.getElem_reverse]
  split
  ·rw[jE (by omega)];rfl
  ·have:l.length-1-k=k:=by omega
   rw[jE h1];simp only[this,Option.getD_some]
theorem Zk6(l:List Int){i:Nat}(h:2*i+1<l.length):
 (((List.range l.length).map (fun k=>AV.int .i64 (ZBK l i k))).set i (.int .i64 (ZBK l i (l.length-1-i)))).set (l.length-1-i) (.int .i64 (ZBK l i i))=(List.range l.length).map (fun k=>AV.int .i64 (ZBK l (i+1) k)):=by
 rw[ZdA,ZdA]
 apply List.map_congr_left
 intro k hk;rw[List.mem_range]at hk
 by_cases q:k=l.length-1-i
 ·rw[if_pos q]
  simp only[ZBK]
  rw[if_neg (by omega),if_pos (by omega),q]
  rw[show l.length-1-(l.length-1-i)=i by omega]
 ·rw[if_neg q]
  by_cases q2:k=i
  ·rw[if_pos q2]
   simp only[ZBK]
   rw[if_neg (by omega),if_pos (by omega),q2]
  ·rw[if_neg q2]
   simp only[ZBK]
   by_cases q3:k<i\/l.length<k+i+1
   ·rw[if_pos q3,if_pos (by omega)]
   ·rw[if_neg q3,if_neg (by omega)]
def AR.free(r:AR):List Int:=(r.blk.take r.n).reverse
theorem AR.free_len{r:AR}(h:r.n<=r.blk.length):r.free.length=r.n:=by simp[AR.free];omega
theorem ZqX{lv b:Nat}{r:AR}(h:HasR st lv b r)(hn:r.n<=r.blk.length)(hb:r.n<65536):S Tb XB [.ptr lv (b+3) 0 0 0] st=some (.lit (r.free.map (.int .i64)),st):=by
 refine QN Y (fun A hA=>?_)
 have g3:=fun L=>ZS hA (ro:=false) (L:=L) h.h3
 have g1:=fun L=>ZS hA (ro:=false) (L:=L) h.h1
 unfold AR.b3 at g3;unfold AR.b1 at g1
 have hl:(r.blk.take r.n).length=r.n:=by simp;omega
 have hel:∀L,elems ⟨A,false,L⟩ (.ref lv (b+1) r.ver 0 r.n)=some ((r.blk.take r.n).map (.int .i64)):=fun L=>by
  simp only[elems,g1,ZDO,true_and,Nat.zero_add,List.length_map,if_pos hn,List.drop_zero,List.map_take]
 unfold AR.free
 generalize hz:r.blk.take r.n=l at *
 repeat'(first|refine ZE ?_|refine ZD ?_|refine ZG Y ?_|refine ZV Y Y ?_|refine ZB Y ?_|refine ZC ?_|refine Z7 Y Y ?_|refine Jp Y ?_|refine ZH Y ?_|refine Yc Y Y (by omega) ?_|refine JN Y Y Y Y ?_|refine ZKb Y Y (by omega) (by decide) Y ?_|refine QB Y (g3 _) Y Y ?_|refine ZpJ (ys:=l.map (.int .i64)) Y Y (hel _) Y (by simp) (by simp[hl]) (Zk4 _ _) (ZR5 _ _ _ _ _) ?_|refine ZI ?_|refine ZL ?_)
 refine Zy (α:=Nat) (fun i=>[(3,.ref A.length 0 0 0 r.n),(4,.int .i64 i),(5,.int .i64 ((l.length:Int)-1-i))]) (fun i=>⟨A,false,[.arr 1 0 ((List.range l.length).map fun k=>AV.int .i64 (ZBK l i k))]⟩) (fun i=>2*i<=l.length+1) (fun i=>l.length+1-2*i) 0 ?_ ?_ (by simp) ?_
 ·simp[hl]
 ·rw[ZqV];rfl
 intro i hi;replace hi:2*i<=l.length+1:=hi
 rcases Nat.lt_or_ge (2*i+1) l.length with hlt|hge
 ·have hj:(l.length:Int)-1-i=((l.length-1-i:Nat):Int):=by omega
  have q1:=ZdB (n:=l.length) (k:=i) (fun k=>AV.int .i64 (ZBK l i k)) (by omega)
  have q2:=ZdB (n:=l.length) (k:=l.length-1-i) (fun k=>AV.int .i64 (ZBK l i k)) (by omega)
  have q3:(((List.range l.length).map (fun k=>AV.int .i64 (ZBK l i k))).set (0+((i:Nat):Int).toNat) (.int .i64 (ZBK l i (l.length-1-i))))[0+((l.length-1-i:Nat):Int).toNat]?=some (.int .i64 (ZBK l i (l.length-1-i))):=by
   rw[jS (by omega)];exact q2
  rw[hj]
  repeat'(first|refine ZE ?_|refine ZD ?_|refine ZG Y ?_|refine ZB Y ?_|refine ZC ?_|(refine cm0 Y Y Y ?_ ?_<;>intro _<;>try omega)|refine ZQ Y ?_|refine Zh Y Y (by omega) ?_|refine Yc Y Y (by omega) ?_|refine ZL9 Y Y (by omega) Y ?_|refine ZU Y Y q2 Y ?_|refine ZU Y Y q1 Y ?_|refine JG Y Y Y q1 Y Y ?_|refine JG Y Y Y q3 Y Y ?_|refine ZI ?_|refine ZL ?_|refine Z0 ?_|refine Z8 ?_)
  refine⟨i+1,⟨?_,?_⟩,by omega,by omega⟩
  ·rw[show ((l.length-1-i:Nat):Int)-1=(l.length:Int)-1-((i+1:Nat):Int) by omega];rfl
  ·rw[<- Zk6 l hlt]
   rw[show 0+((i:Nat):Int).toNat=i by omega,show 0+((l.length-1-i:Nat):Int).toNat=l.length-1-i by omega]
   rfl
 ·repeat'(first|refine ZE ?_|refine ZD ?_|refine ZG Y ?_|refine ZB Y ?_|refine ZC ?_|(refine cm0 Y Y Y ?_ ?_<;>intro _<;>try omega)|refine ZH Y ?_|refine ZP ?_|refine Zq ?_|refine ZO ?_|refine Zb ?_|refine Za Y ?_|refine Zn ?_)
  all_goals try omega
  refine ZDr (es:=l.reverse.map (.int .i64)) hA (.inr Y) Y (by rw[ZqW l (by omega)];rfl) (by simp;omega) (by intro v hv;obtain⟨x,_,rfl⟩:=List.mem_map.1 hv;rfl) ?_
  rfl
def YP(l:List Int)(s:Int)(n:Nat):List Nat:=(List.range n).filter fun i=>l[i]? == some s
def ZAb(l:List Int)(s:Int):List Nat:=YP l s l.length
def ZSm(n:Nat):AV:=.int .i64 n
theorem ZfS(l:List Int)(s:Int)(n:Nat):YP l s (n+1)=YP l s n++if l[n]?=some s then [n] else []:=by
 rw[YP,List.range_succ,List.filter_append,<- YP]
 congr 1
 by_cases q:l[n]?=some s
 ·rw[if_pos q];simp[q]
 ·rw[if_neg q];simp[q]
theorem ZIw(l:List Int)(s:Int)(n:Nat):(YP l s n).length<=n:=by
 have:=List.length_filter_le (fun i=>l[i]? == some s) (List.range n)
 rw[List.length_range]at this;exact this
theorem Zjv{lv b:Nat}{r:AR}(h:HasR st lv b r)(hb:r.states.length<=16384)(s:Int):S Tb J0 [.ptr lv (b+3) 0 0 0,.int .u8 s] st=some (.lit ((ZAb r.states s).map ZSm),st):=by
 refine QN Y (fun A hA=>?_)
 have g3:=fun L=>ZS hA (ro:=false) (L:=L) h.h3
 have g0:=fun L=>ZS hA (ro:=false) (L:=L) h.h0
 unfold AR.b3 at g3;unfold AR.b0 at g0
 have hwi:∀L,wIs 1 0 (St.get ⟨A,false,L⟩ lv b)=true:=fun L=>by rw[g0];rfl
 repeat'(first|refine ZE ?_|refine ZD ?_|refine ZG Y ?_|refine ZV Y Y ?_|refine ZB Y ?_|refine ZC ?_|refine Z7 Y Y ?_|refine Jp Y ?_|refine ZH Y ?_|refine JN Y Y Y Y ?_|refine ZAK Y ?_|refine QB Y (g3 _) Y Y ?_|refine ZI ?_|refine ZL ?_)
 refine Zy (α:=Nat) (fun i=>[(1,.int .u8 s),(5,.ref A.length 0 (YP r.states s i).length 0 (YP r.states s i).length),(14,.ref lv b 0 0 r.states.length),(15,.int .i64 r.states.length),(16,.int .i64 i)]) (fun i=>⟨A,false,[.arr 1 (YP r.states s i).length ((YP r.states s i).map ZSm)]⟩) (fun i=>i<=r.states.length) (fun i=>r.states.length-i) 0 Y Y (by simp) ?_
 intro i hi;replace hi:i<=r.states.length:=hi
 rcases Nat.lt_or_ge i r.states.length with hlt|hge
 ·obtain⟨x,hx⟩:∃x,r.states[i]?=some x:=⟨r.states[i]'hlt,by simp[hlt]⟩
  have q1:(r.states.map (.int .u8))[0+((i:Nat):Int).toNat]?=some (AV.int .u8 x):=by
   rw[show 0+((i:Nat):Int).toNat=i by omega,jG,hx];rfl
  have hs:=ZfS r.states s i;have hl:=ZIw r.states s i;rw[hx]at hs
  have hl2:((YP r.states s i).map ZSm).length+[AV.int .i64 (i:Int)].length<4294967296:=by simp;omega
  have hl3:(YP r.states s i).length=((YP r.states s i).map ZSm).length:=by simp
  repeat'(first|refine ZAa Y Y Y hl3 Y Y hl2 (by decide) ?_|refine ZE ?_|refine ZD ?_|refine ZG Y ?_|refine ZB Y ?_|refine ZC ?_|(refine cm0 Y Y Y ?_ ?_<;>intro _<;>try omega)|refine ZQ Y ?_|refine ZH Y ?_|refine Zh Y Y (by omega) ?_|refine QM Y Y Y Y ?_|refine ZBT Y Y (by omega) (hwi _) ?_|refine QB Y (g0 _) q1 Y ?_|refine ZI ?_|refine ZL ?_|refine Z0 ?_|refine Z8 ?_)
  ·rename_i e
   subst e;rw[if_pos rfl]at hs
   refine⟨i+1,⟨?_,?_⟩,by omega,by omega⟩
   ·rw[hs,lL];rfl
   ·rw[hs,List.map_append,lL];rfl
  ·rename_i e
   rw[if_neg (by simpa using e),lN]at hs
   exact⟨i+1,⟨by rw[hs];rfl,by rw[hs]⟩,by omega,by omega⟩
 ·obtain rfl:i=r.states.length:=by omega
  repeat'(first|refine ZE ?_|refine ZD ?_|refine ZG Y ?_|refine ZB Y ?_|refine ZC ?_|(refine cm0 Y Y Y ?_ ?_<;>intro _<;>try omega)|refine ZH Y ?_|refine ZP ?_|refine Zq ?_|refine ZO ?_|refine Zb ?_|refine Za Y ?_|refine Zn ?_)
  refine ZDr (es:=(ZAb r.states s).map ZSm) hA (.inr Y) Y Y (by simp;rfl) (by intro v hv;obtain⟨x,_,rfl⟩:=List.mem_map.1 hv;rfl) ?_
  rfl
theorem ZhE{lv b:Nat}{r:AR}(h:HasR st lv b r)(hb:r.states.length<=16384):S Tb J3 [.ptr lv (b+3) 0 0 0] st=some (.lit ((ZAb r.states 2).map ZSm),st):=by
 refine QN Y (fun A hA=>?_)
 have hs:=fun L=>Zjv (h.push hA (ro:=false) (L:=L)) hb 2
 repeat'(first|refine ZE ?_|refine ZD ?_|refine ZG Y ?_|refine ZB Y ?_|refine ZC ?_|refine ZA Y Y Y (hs _) ?_|refine ZP ?_|refine ZO ?_)
 refine Zj hA (by simp) Y Y Y Y ?_
 rfl
def AR.statsAV(r:AR):AV:=.agg [.int .i64 r.slots,.int .i64 r.n,.int .i64 r.nodes.length,.int .i64 (ZAb r.states 2).length,.int .i64 r.allocs,.int .i64 r.frees,.int .i64 r.stale]
theorem ZfT{lv b:Nat}{r:AR}(h:HasR st lv b r)(hn:r.n<=r.blk.length)(hb:r.states.length<=16384)(h6:r.n<65536):S Tb XZ [.ptr lv (b+5) 0 0 0] st=some (r.statsAV,st):=by
 refine QN Y (fun A hA=>?_)
 have g5:=fun L=>ZS hA (ro:=false) (L:=L) h.h5
 have g4:=fun L=>ZS hA (ro:=false) (L:=L) h.h4
 unfold AR.b5 at g5;unfold AR.b4 at g4
 have hF:=fun L=>ZqX (h.push hA (ro:=false) (L:=L)).allRo hn h6
 have hW:=fun L=>ZhE (h.push hA (ro:=false) (L:=L)).allRo hb
 repeat'(first|refine ZE ?_|refine ZD ?_|refine ZG Y ?_|refine ZV Y Y ?_|refine ZB Y ?_|refine ZC ?_|refine Z7 Y Y ?_|refine QH Y ?_|refine ZH Y ?_|refine Zx Y Y Y ?_|refine JN Y Y Y Y ?_|refine Zi Y Y Y ?_|refine Zv Y Y Y Y Y Y ?_|refine QB Y (g5 _) Y Y ?_|refine Zk5 Y (g4 _) ?_|refine JX Y Y Y (hF _) ?_|refine JX Y Y Y (hW _) ?_|refine ZI ?_|refine ZP ?_|refine ZO ?_)
 refine ZAA hA (by simp) Y Y Y Y Y ?_
 unfold AR.statsAV
 have e2:(r.nodes.map nodeAV).length=r.nodes.length:=List.length_map ..
 rw[<- AR.free_len hn,<- e2]
end Go.Q15
namespace Go.QAbs
variable {a cv td v v' vx z:AV}{agg ro:Bool}{e:Env}{A:List (Bool × List Blk)}{cls es ys:LV}{L':List Blk}{d g ib ip ix j jb jx n ob pl px vb ver w xb:Nat}{x:Opd}{O:Orc}{st:St}{Q:YD}
section
variable {O:Orc}{k:List Fr}{Q:YD}{e:Env}{A:List (Bool × List Blk)}{L:List Blk}{keep:List Nat}{is:List PI}{d:Nat}{st:St}
theorem ZpK{od:Option Nat}{op op':PO}(he:Zg O e st op=Zg O e st op')(h:Is O (⟨od,none,false,op'⟩::is) keep k Q e st):Is O (⟨od,none,false,op⟩::is) keep k Q e st:=by
 obtain⟨⟨e',st2,h1,h2⟩⟩:=h;refine⟨⟨e',st2,?_,h2⟩⟩;rw[ZCG]at h1 ⊢
 have e1:Qs O e st ⟨od,none,false,op⟩=Qs O e st ⟨od,none,false,op'⟩:=by simp only[Qs,jB,if_false];exact he
 have e2:wantedV e none=some true:=rfl;simp only[e2,oS,Zca,e1]at h1 ⊢;exact h1
theorem Zjw{od:Option Nat}{bytes:Nat}{s b:Opd}{vs vb:AV}(hs:Zc e s=some vs)(hx:Zc e x=some vx)(hb:Zc e b=some vb)(hy:elems st vx=some ys)(ha:ZV0 vb vs=true)(hg:ZVy vs (some ys)=true)
 (h:Is O (⟨od,none,false,.app w bytes s x⟩::is) keep k Q e st):Is O (⟨od,none,false,.w (.grow b) (.app w bytes s x)⟩::is) keep k Q e st:=by
 refine ZpK ?_ h;simp only[Zg,QC,ZcZ,ZF hs,ZF hx,ZF hb,hy,ha,hg,and_self,if_true]
theorem Zk7{a b:Opd}{i o:Nat}{x:AV}(ha:Zc e a=some (.ptr A.length ix ver i o))(hb:Zc e b=some (.ptr A.length ix vb ib ob))
 (hg:L[ix]?=some (Blk.arr w ver es)) (hx:es[i]?=some x) (hv:JU x agg o n=some v) (h:Is O is keep k Q ((d,v)::e) ⟨A,false,L⟩):Is O (⟨some d,none,false,.w (.only b) (.ld agg n a)⟩::is) keep k Q e ⟨A,false,L⟩:=by
 refine Z3 (v:=v) (st':=⟨A,false,L⟩) ?_ h
 have hgt:(St.hide (fun lv ix=>!ZAe lv ix (b.get e)) ⟨A,false,L⟩).get A.length ix=some (Blk.arr w ver es):=by
  rw[ZAJ,St.get_cur,hg,ZF hb]
  simp[ZAe,vis]
 simp only[Zg,QC,PO.reads,if_true,evalPO,ZF ha,loadP,hgt,ZEM,hx,hv,oS,Qf,QV]
theorem Zjx{o:Opd}(ho:Zc e o=some v)(hw:v.wide=some w)(h:Is O is keep k Q ((d,.ref A.length L.length 0 0 1)::e) ⟨A,false,L++[Blk.arr w 0 [v]]⟩):Is O (⟨some d,none,false,.bslice true w [z] [(0,o)]⟩::is) keep k Q e ⟨A,false,L⟩:=by
 refine ZmV (qs:=[(0,v)]) (es:=[v]) (es':=[v]) ?_ ?_ (ZSl _) (ZAF _) h
 ·simp only[ZFK,ho]
 ·simp only[fillE,hw,List.length_singleton,true_and,Nat.lt_one_iff,if_true,List.set_cons_zero]
theorem ZfU{o:Opd}(ho:Zc e o=some v)(hw:v.wide=some w)(hi:imm 6 v=true)(h:Is O is keep k Q ((d,.lit [v])::e) st):Is O (⟨some d,none,false,.w .imm (.bslice false w [z] [(0,o)])⟩::is) keep k Q e st:=by
 refine Z3 (od:=some d) (v:=.lit [v]) (st':=st) ?_ h;simp only[Zg,QC,Zfn,JV,ZF ho,fillE,hw,List.length_singleton,true_and,Nat.lt_one_iff,if_true,List.set_cons_zero,oS,ZVz,List.all_cons,List.all_nil,hi,Bool.and_self,List.isEmpty_cons,jB,if_false]
theorem ZLf(h:Is O is keep k Q ((d,.ptr A.length (L.length+1) 0 0 0)::e) ⟨A,false,L++[Blk.arr w 0 [],Blk.arr 1 0 [.ref A.length L.length 0 0 0]]⟩):Is O (⟨some d,none,false,.boxnil w⟩::is) keep k Q e ⟨A,false,L⟩ :=
 ZET (by rw[List.append_assoc];exact ZAF _) h
theorem ZGB{bytes:Nat}{s:Opd}(hs:Zc e s=some .nils)(hx:Zc e x=some vx)(hy:elems ⟨A,false,L⟩ vx=some ys)(hl:ys.length<4294967296)(hb:bytes<=4096)(hw:Q7 w ys=true)
 (h:Is O is keep k Q ((d,.ref A.length L.length 0 0 ys.length)::e) ⟨A,false,L++[Blk.arr w 0 ys]⟩):Is O (⟨some d,none,false,.app w bytes s x⟩::is) keep k Q e ⟨A,false,L⟩:=by
 refine Z3 (od:=some d) (v:=.ref A.length L.length 0 0 ys.length) (st':=⟨A,false,L++[Blk.arr w 0 ys]⟩) ?_ h;simp only[Zg,evalPO,ZF hs,ZF hx,hy,oS,JR,hl,hb,hw,and_self,if_true,St.new_cur,Jm]
end
end Go.QAbs
namespace Go.Q15
open Go Go.QAbs
variable {a cv td v v' vx z:AV}{agg ro:Bool}{e:Env}{A:List (Bool × List Blk)}{cls es ys:LV}{L':List Blk}{d g ib ip ix j jb jx n ob pl px vb ver w xb:Nat}{x:Opd}{O:Orc}{st:St}{t:Tr}{Q:YD}
namespace Tr
mutual
def cnt:Tr->Nat
 | .mk o _ _ _ k=>(if o=0 then 1 else 0)+cntO k
def cntO:Option (List Tr)->Nat
 | none=>0
 | some l=>cntL l
def cntL:List Tr->Nat
 | []=>0
 | t::l=>t.cnt+cntL l
end
theorem cntL_append:∀a b,cntL (a++b)=cntL a+cntL b
 | [],b=>by simp[cntL]
 | t::a,b=>by rw[lC,cntL,cntL,cntL_append a b];omega
theorem cntO_getD(k:Option (List Tr)):cntO k=cntL (k.getD []):=by cases k<;>rfl
end Tr
theorem ZR6{t:Tr}{c:Int}(hk:t.ks=[])(hK:∀st,S Tb Ql [t.av] st=some (.int .i64 c,st))(st:St):S Tb ZAt [t.av] st=some (.int .i64 (if c=3\/c=4 then 1 else 0),st):=by
 obtain⟨o,h,m,s,k⟩:=t
 obtain⟨ka,hka,hka2⟩:∃ka,Tr.avO k=ka/\(ka=.nils\/ka=.lit []):=by
  cases k with
  | none=>exact⟨_,rfl,.inl Y⟩
  | some l=>have:l=[]:=hk;subst this;exact⟨_,rfl,.inr Y⟩
 simp only[Tr.av,hka]at *
 refine QN Y (fun A hA=>?_)
 rcases hka2 with rfl|rfl
 all_goals repeat'(first|refine ZE ?_|refine ZD ?_|refine ZG Y ?_|refine ZV Y Y ?_|refine ZU Y Y Y Y ?_|refine QK Y ?_|refine JZ Y Y ?_|refine Zr Y Y Y Y ?_|refine ZB Y ?_|refine ZC ?_|refine ZBm Y Y ?_|refine J8 Y ?_|(refine cm0 Y Y Y ?_ ?_<;>intro _<;>try omega)|refine ZQ Y ?_|refine ZH Y ?_|refine Zi Y Y Y ?_|refine ZA Y Y Y (hK _) ?_|refine Qz ?_|refine ZI ?_|refine ZP ?_|refine Zq ?_|refine ZL ?_|refine ZO ?_|refine Zb ?_|refine Za Y ?_)
 all_goals refine Zj hA (by simp) Y Y Y Y ?_
 all_goals simp[*]
theorem ZpL{l:List Tr}{t:Tr}(h:t∈l):t.cnt<=Tr.cntL l:=by
 induction l with
 | nil=>simp at h
 | cons u l ih =>
  rw[Tr.cntL]
  rcases List.mem_cons.1 h with rfl|h
  ·omega
  ·have:=ih h;omega
theorem ZOj(l:List Tr)(i:Nat):Tr.cntL (l.take i)<=Tr.cntL l:=by
 have h:Tr.cntL l=Tr.cntL (l.take i)+Tr.cntL (l.drop i):=by rw[<- Tr.cntL_append,List.take_append_drop]
 omega
theorem Zp0{N:ZJ}{t:Tr}(hv:Val N t):t.cnt<4294967296->∀st,S Tb ZAt [t.av] st=some (.int .i64 t.cnt,st):=by
 induction hv with
 | @kept o h m k x h0 hx hok hh hm hk =>
  intro hc st
  have:=ZR6 (t:=.mk o h m [] k) hk (fun st=>ZJE (.mk o h m [] k) ⟨h0,rfl,hk⟩ st) st
  rw[this]
  have e:(Tr.mk o h m [] k).cnt=0:=by rw[Tr.cnt,Tr.cntO_getD,hk,if_neg h0];rfl
  rw[e];rfl
 | @leaf s k h1 h2 hk =>
  intro hc st
  have:=ZR6 (t:=.mk 0 0 .zero s k) hk (fun st=>ZJF (.mk 0 0 .zero s k) ⟨rfl,rfl,rfl,h1,h2,hk⟩ st) st
  rw[this]
  have e:(Tr.mk 0 0 .zero s k).cnt=1:=by rw[Tr.cnt,Tr.cntO_getD,hk,if_pos rfl];rfl
  rw[e];rfl
 | @inner h l hh h2 h4 hl hb hv ih =>
  intro hc st
  have hK:=fun st=>ZF5 (.mk 0 (h+1) .zero [] (some l)) ⟨rfl,rfl,rfl,Nat.succ_le_succ (Nat.zero_le _),hh,h2,h4⟩ st
  have e:(Tr.mk 0 (h+1) .zero [] (some l)).cnt=1+Tr.cntL l:=by rw[Tr.cnt,if_pos rfl];rfl
  rw[e]at hc ⊢;simp only[Tr.av,Tr.avO,Tr.avL_map,Mea.zero]at hK ⊢
  refine QN Y (fun A hA=>?_)
  repeat'(first|refine ZE ?_|refine ZD ?_|refine ZG Y ?_|refine ZV Y Y ?_|refine ZU Y Y Y Y ?_|refine QK Y ?_|refine Zr Y Y Y Y ?_|refine ZB Y ?_|refine ZC ?_|refine QH Y ?_|(refine cm0 Y Y Y ?_ ?_<;>intro _<;>try omega)|refine ZQ Y ?_|refine Zi Y Y Y ?_|refine ZA Y Y Y (hK _) ?_|refine ZL ?_)
  all_goals try contradiction
  refine Zy (α:=Nat × List Blk) (fun p=>[(3,.int .i64 ((1+Tr.cntL (l.take p.1):Nat):Int)),(16,.lit (l.map Tr.av)),(17,.int .i64 l.length),(18,.int .i64 p.1)])
   (fun p=>⟨A,false,.arr 7 0 [.agg [.int .u64 (0:Nat),.int .i64 ((h+1:Nat):Int),.int .i64 0,.int .i64 0,.int .i64 0,.str [],.lit (l.map Tr.av)]]::p.2⟩) (fun p=>p.1<=l.length) (fun p=>l.length-p.1) (0,[]) ?_ rfl (by simp) ?_
  ·simp[Tr.cntL]
  rintro⟨i,G⟩ hi
  simp only at hi ⊢
  have h6:=ZOj l i;have h7:=ZOj l (i+1)
  repeat'(first|refine ZE ?_|refine ZD ?_|refine ZG Y ?_|refine ZB Y ?_|refine ZC ?_|(refine cm0 Y Y Y ?_ ?_<;>intro _<;>try omega)|refine ZQ Y ?_|refine ZH Y ?_|refine Z1 Y Y Y ?_|refine YE Y Y (by omega) Z4 (fun _ _=>?_)|refine QA Y (Zo _) ?_|refine Qv Y Y (Zo _) ?_|refine YQ Y Y Y (QQ _ _ _) (Qw _ _) Y ?_|refine ZI ?_|refine ZP ?_|refine Zq ?_|refine ZL ?_|refine ZO ?_|refine Zb ?_|refine Za Y ?_|refine Zn ?_)
  ·rename_i t ht
   have ht2:l[i]?=some t:=ht;have hm:=jM ht2
   have h5:=ih t hm (by have:=ZpL hm;omega)
   rw[ZZ ht2,Tr.cntL_append,Tr.cntL,Tr.cntL]at h7
   repeat'(first|refine ZD ?_|refine ZG Y ?_|refine ZB Y ?_|refine ZC ?_|refine Zh Y Y (by omega) ?_|refine ZA Y Y (by first|rfl|(simp only[lE,lN,lC,Ze,ZW,ZX];first|done|rfl)) (h5 _) ?_|refine Z0 ?_|refine Z8 ?_)
   refine⟨(i+1,G++[.arr 7 0 [t.av]]),⟨?_,rfl⟩,by simp only;omega,by simp only;omega⟩
   simp only[ZZ ht2,Tr.cntL_append,Tr.cntL]
   rw[show ((1+Tr.cntL (l.take i):Nat):Int)+(t.cnt:Int)=((1+(Tr.cntL (l.take i)+(t.cnt+0)):Nat):Int) by omega]
   rfl
  ·have hi':i=l.length:=by omega
   subst hi';rw[List.take_length]
   refine Zj hA (by simp) Y Y Y Y ?_
   rfl
theorem ZZq(s:B8):QAbs.allBytes (QU s)=some s:=by
 induction s with
 | nil=>rfl
 | cons x s ih =>
  show ((QAbs.byteOf (AV.int .u8 x.toNat)).bind fun b=>(QAbs.allBytes (QU s)).map (b::·))=_
  rw[ih]
  simp[QAbs.byteOf]
theorem ZOk{b lv i1 i2 i3:Nat}{f:FuncId}(st:St)(h:lv<b):ZY QD b st (.func (.func f) [] [.ptr lv i1 0 0 0,.ptr lv i2 0 0 0,.ptr lv i3 0 0 0])=some (.func (.func f) [] [.ptr lv i1 0 0 0,.ptr lv i2 0 0 0,.ptr lv i3 0 0 0],st):=by
 simp only[ZY,QD,Zfj,if_true,mapSt,oS,if_pos h,Y1]
theorem Ziv{b0 b1 b2 b3 b4:Blk}{v:Nat}{t:B8}:Q4 ⟨A,false,[b0,b1,b2,b3,b4]⟩ A.length 3 2 v t=⟨A,false,[b0,b1,.arr 1 v (QU t),.arr 1 0 [.ref A.length 2 v 0 t.length],b4]⟩:=by
 simp[Q4,St.upd]
theorem ZqY{N:ZJ}(hN:GoodN N){lv:Nat}(hr:Rd st lv ix N)(ht:VE N t)(hb:t.bytes<=65536):S Tb ZHi [.ptr lv ix 0 0 0,t.av] st=some (.tup [.str (t.txt N),.int .i64 0],st):=by
 refine QN Y (fun A hA=>?_)
 have hlv:lv<A.length:=by
  obtain⟨a0,a1,im,a3,a4,a5,h1,h2⟩:=hr
  have:=St.get_le h1
  rw[hA];simp;omega
 have hrp:=fun L=>hr.push hA (ro:=false) (L:=L)
 have hC:=fun L=>ZZk (hrp L) ht hb
 rcases ht with he|hv
 ·rw[he.txt]
  have hK:=fun st=>ZDH t he st
  repeat'(first|refine ZE ?_|refine ZD ?_|refine ZG Y ?_|refine ZU Y Y Y Y ?_|refine ZB Y ?_|refine ZC ?_|(refine cm0 Y Y Y ?_ ?_<;>intro _<;>try omega)|(refine cm0 Y Y Y ?_ ?_<;>intro _<;>try omega)|refine ZQ Y ?_|refine ZH Y ?_|refine XY Y Y ?_|refine Zi Y Y Y ?_|refine ZET Y ?_|refine Qv Y Y (Zo _) ?_|refine ZU Y Y Y (Zo _) ?_|refine Z1 Y (Z4 _) (QG _) ?_|refine ZA Y Y (by first|rfl|(simp only[lE,lN,lC,Ze,ZW,ZX];first|done|rfl)) (hC _) ?_|refine ZA Y Y (by first|rfl|(simp only[lE,lN,lC,Ze,ZW,ZX];first|done|rfl)) (hK _) ?_|refine Zv Y Y Y (ZOk _ (Nat.lt_succ_self _)) Y Y ?_|refine ZI ?_|refine ZP ?_|refine ZO ?_|refine Zd ?_)
  all_goals try omega
  all_goals refine Zj hA (by simp) Y Y Y Y ?_
  all_goals rfl
 ·obtain⟨k,hk1,hK⟩:=hv.kindNe
  repeat'(first|refine ZE ?_|refine ZD ?_|refine ZG Y ?_|refine ZU Y Y Y Y ?_|refine ZB Y ?_|refine ZC ?_|(refine cm0 Y Y Y ?_ ?_<;>intro _<;>try omega)|(refine cm0 Y Y Y ?_ ?_<;>intro _<;>try omega)|refine ZH Y ?_|refine XY Y Y ?_|refine Zi Y Y Y ?_|refine ZET Y ?_|refine Qv Y Y (Zo _) ?_|refine ZU Y Y Y (Zo _) ?_|refine Z1 Y (Z4 _) (QG _) ?_|refine ZA Y Y (by first|rfl|(simp only[lE,lN,lC,Ze,ZW,ZX];first|done|rfl)) (hC _) ?_|refine ZA Y Y (by first|rfl|(simp only[lE,lN,lC,Ze,ZW,ZX];first|done|rfl)) (hK _) ?_|refine Zv Y Y Y (ZOk _ (Nat.lt_succ_self _)) Y Y ?_|refine ZI ?_)
  all_goals try omega
  have hwa:∀L,L=[.arr 1 0 [.ptr lv ix 0 0 0],.arr 7 0 [t.av],.arr 1 0 [],.arr 1 0 [.ref A.length 2 0 0 0],.arr 1 0 [.func (.func Yq) [] [.ptr A.length 0 0 0 0,.ptr A.length 3 0 0 0,.ptr A.length 4 0 0 0]]] ->
   Sp Tb Yq [t.av,.ptr A.length 0 0 0 0,.ptr A.length 3 0 0 0,.ptr A.length 4 0 0 0] ⟨A,false,L⟩ fun v st'=>v=.int .i64 0/\∃ver',st'=Q4 ⟨A,false,L⟩ A.length 3 2 ver' ([]++t.txt N):=by
   rintro L rfl
   refine ZqS hN t.h t hv Y hb (pl:=lv) (px:=ix) (ver:=0) ⟨hrp _,by omega,by rw[St.get_cur];rfl,by rw[St.get_cur];rfl,⟨by decide,by decide⟩,⟨by decide,by decide⟩⟩ ⟨by simp[St.wr],by rw[St.get_cur];rfl,by rw[St.get_cur];rfl,by decide⟩ (by simp;omega)
  refine ZVk Y Y (wk4 _ _ _ _ Y Y Y) (hwa _ Y) ?_
  rintro v st' ⟨rfl,v2,rfl⟩
  rw[lE,Ziv]
  repeat'(first|refine ZE ?_|refine ZD ?_|refine ZG Y ?_|refine ZU Y Y Y Y ?_|refine ZB Y ?_|refine ZC ?_|(refine cm0 Y Y Y ?_ ?_<;>intro _<;>try omega)|refine ZH Y ?_|refine ZI ?_)
  refine ZqM Y (v:=.str (t.txt N)) ?_ ?_
  ·have hl:=ZIu (t.txt N)
   show (ZDO v2 0 (t.txt N).length (St.get _ A.length 2)).bind _=_
   rw[St.get_cur]
   show (ZDO v2 0 (t.txt N).length (some (Blk.arr 1 v2 (QU (t.txt N))))).bind _=_
   simp only[ZDO,true_and,hl,Nat.zero_add,Nat.le_refl,if_true,List.drop_zero,oS]
   rw[List.take_of_length_le (by omega),ZZq];rfl
  repeat'(first|refine ZG Y ?_|refine ZB Y ?_|refine ZC ?_|refine ZP ?_|refine ZO ?_)
  refine Zj hA (by simp) Y Y Y Y ?_
  rfl
theorem ZAc{L T:List Blk}{i:Nat}{b:Blk}(h:L[i]?=some b):(L++T)[i]?=some b:=by
 rw[jL (List.getElem?_eq_some_iff.1 h).1];exact h
section
variable {O:Orc}{k:List Fr}{Q:YD}{e:Env}{A:List (Bool × List Blk)}{L0 T:List Blk}{keep:List Nat}{is:List PI}{d:Nat}
theorem ZZr{a b:Opd}{i o:Nat}{x:AV}(ha:Zc e a=some (.ptr A.length (L0.length+ix) ver i o))(hb:Zc e b=some (.ptr A.length (L0.length+ix) vb ib ob))
 (hg:T[ix]?=some (Blk.arr w ver es)) (hx:es[i]?=some x) (hv:JU x agg o n=some v) (h:Is O is keep k Q ((d,v)::e) ⟨A,false,L0++T⟩):Is O (⟨some d,none,false,.w (.only b) (.ld agg n a)⟩::is) keep k Q e ⟨A,false,L0++T⟩ :=
 Zk7 ha hb (by rw[Qj];exact hg) hx hv h
theorem Ziw{m:Nat}(hm:ZaL T=some m)(h:Is O is keep k Q ((d,.ptr A.length (L0.length+(m+1)) 0 0 0)::e) ⟨A,false,L0++(T++[Blk.arr w 0 [],Blk.arr 1 0 [.ref A.length (L0.length+m) 0 0 0]])⟩):Is O (⟨some d,none,false,.boxnil w⟩::is) keep k Q e ⟨A,false,L0++T⟩:=by
 refine ZLf ?_;rw[lL,ZAr hm,List.append_assoc];exact h
theorem ZhF{m:Nat}{o:Opd}(ho:Zc e o=some v)(hw:v.wide=some w)(hm:ZaL T=some m)(h:Is O is keep k Q ((d,.ref A.length (L0.length+m) 0 0 1)::e) ⟨A,false,L0++(T++[Blk.arr w 0 [v]])⟩):Is O (⟨some d,none,false,.bslice true w [z] [(0,o)]⟩::is) keep k Q e ⟨A,false,L0++T⟩:=by
 refine Zjx ho hw ?_;rw[lL,ZAr hm,List.append_assoc];exact h
end
theorem Zix{L0 T:List Blk}(hg:T[ix]?=some (Blk.arr w ver ys))(hn:n=ys.length):elems ⟨A,false,L0++T⟩ (.ref A.length (L0.length+ix) ver 0 n)=some ys:=by
 subst hn;simp only[elems,St.get_cur,Qj,hg,vis,ZDO,true_and,Nat.zero_add,Nat.le_refl,if_true,List.drop_zero,List.take_length]
structure Frm(L:List Blk)(X:Nat->Prop)(L':List Blk)(X':Nat->Prop):Prop where
 len:L.length<=L'.length
 old:∀i,i<L.length->¬ X i->L'[i]?=L[i]?
 own:∀i,X' i->X i\/L.length<=i
theorem Frm.trans{L0 L1 L2:List Blk}{X0 X1 X2:Nat->Prop}(h:Frm L0 X0 L1 X1)(g:Frm L1 X1 L2 X2):Frm L0 X0 L2 X2:=by
 have h1:=h.len;have h2:=g.len
 refine⟨by omega,fun i hi hn=>?_,fun i hi=>?_⟩
 ·rw[g.old i (by omega) (fun q=>by rcases h.own i q with w|w;exact hn w;omega),h.old i hi hn]
 ·rcases g.own i hi with w|w
  ·exact h.own i w
  ·exact .inr (by omega)
theorem Frm.app{L:List Blk}{X:Nat->Prop}(T:List Blk):Frm L X (L++T) X :=
 ⟨by simp,fun i hi _=>jL hi,fun i h=>.inl h⟩
def Fx(L:List Blk)(X:Nat->Prop)(F:List (Nat × Blk)):Prop:=∀p∈F,L[p.1]?=some p.2/\¬ X p.1
theorem Fx.frm{L:List Blk}{X X':Nat->Prop}{F:List (Nat × Blk)}(h:Fx L X F)(g:Frm L X L' X'):Fx L' X' F:=by
 intro p hp;obtain⟨h1,h2⟩:=h p hp;have hlt:=(List.getElem?_eq_some_iff.1 h1).1
 exact⟨by rw[g.old _ hlt h2];exact h1,fun q=>by rcases g.own _ q with w|w;exact h2 w;omega⟩
theorem Fx.append{L:List Blk}{X:Nat->Prop}{F G:List (Nat × Blk)}(h:Fx L X F)(g:Fx L X G):Fx L X (F++G):=fun p hp=>by
 rcases List.mem_append.1 hp with q|q
 ·exact h p q
 ·exact g p q
def Rx(L:List Blk)(X:Nat->Prop)(R:List (Nat × Ro)):Prop:=Fx L X (R.map fun p=>(p.1,Blk.arr 5 0 [p.2.av]))
theorem Rx.frm{L:List Blk}{X X':Nat->Prop}{R:List (Nat × Ro)}(h:Rx L X R)(g:Frm L X L' X'):Rx L' X' R:=Fx.frm h g
theorem Rx.append{L:List Blk}{X:Nat->Prop}{R S:List (Nat × Ro)}(h:Rx L X R)(g:Rx L X S):Rx L X (R++S):=by
 unfold Rx;rw[List.map_append];exact Fx.append h g
theorem Rx.get{L:List Blk}{X:Nat->Prop}{R:List (Nat × Ro)}(h:Rx L X R){p:Nat × Ro}(hp:p∈R):L[p.1]?=some (.arr 5 0 [p.2.av])/\¬ X p.1:=h (p.1,.arr 5 0 [p.2.av]) (List.mem_map.2 ⟨p,hp,rfl⟩)
def YZ(ip:Nat)(td:AV)(i:Nat):Prop:=i=ip\/∃lv ver s n,td=.ref lv i ver s n
structure Pen(A:List (Bool × List Blk))(L:List Blk)(ip:Nat)(a:AV)(td:AV)(cls:LV):Prop where
 st:∃rp,L[ip]?=some (.arr 3 0 [.agg [a,td,rp]])
 td:(td=.nils/\cls=[])\/∃tx ver,td=.ref A.length tx ver 0 cls.length/\L[tx]?=some (.arr 1 ver cls)/\tx≠ip/\cls≠[]
theorem Pen.frm{L:List Blk}(h:Pen A L ip a td cls)(g:∀i,YZ ip td i->L'[i]?=L[i]?):Pen A L' ip a td cls:=by
 obtain⟨⟨rp,h1⟩,h2⟩:=h
 refine⟨⟨rp,by rw[g ip (.inl rfl)];exact h1⟩,?_⟩
 rcases h2 with q|⟨tx,ver,e1,e2,e3⟩
 ·exact .inl q
 ·exact .inr ⟨tx,ver,e1,by rw[g tx (.inr ⟨_,_,_,_,e1⟩)];exact e2,e3⟩
theorem Pen.lt{L:List Blk}(h:Pen A L ip a td cls){i:Nat}(hi:YZ ip td i):i<L.length:=by
 obtain⟨⟨rp,h1⟩,h2⟩:=h
 rcases hi with rfl|⟨lv,ver,s,n,e⟩
 ·exact (List.getElem?_eq_some_iff.1 h1).1
 ·rcases h2 with⟨q,_⟩|⟨tx,ver2,e1,e2,e3⟩
  ·rw[q]at e;simp at e
  ·rw[e1]at e
   simp only[AV.ref.injEq]at e;rw[<- e.2.1];exact (List.getElem?_eq_some_iff.1 e2).1
theorem Pen.app{L:List Blk}(h:Pen A L ip a td cls)(T:List Blk):Pen A (L++T) ip a td cls :=
 h.frm fun i hi=>jL (h.lt hi)
def clV(n b0 b1 b2:Nat):AV:=.func (.func XO) [] [.ptr n b0 0 0 0,.ptr n b1 0 0 0,.ptr n b2 0 0 0]
inductive Cv (n:Nat):AV->Prop
 | one (x:Nat):Cv n (.func (.func Js) [] [.ptr n x 0 0 0])
 | two (x y:Nat):Cv n (.func (.func JP) [] [.ptr n x 0 0 0,.ptr n y 0 0 0])
def ZpM(n ip rx b:Nat)(cv:AV):List Blk:=[.arr 1 0 [.ptr n ip 0 0 0],.arr 1 0 [.ptr n rx 0 0 0],.arr 1 0 [cv],.arr 1 0 [clV n b (b+2) (b+1)]]
theorem Zp1{L:List Blk}{rx:Nat}(h:Pen A L ip a td cls)(hcv:Cv A.length cv)(hl:cls.length<1000000):
 ∃L' td',S Tb ZAQ [.ptr A.length ip 0 0 0,.ptr A.length rx 0 0 0,cv] ⟨A,false,L⟩=some (.tup [],⟨A,false,L'⟩)/\Pen A L' ip a td' (cls++[clV A.length L.length (L.length+2) (L.length+1)])/\Frm L (YZ ip td) L' (YZ ip td') /\
  Fx L' (YZ ip td') [(L.length,.arr 1 0 [.ptr A.length ip 0 0 0]),(L.length+1,.arr 1 0 [.ptr A.length rx 0 0 0]),(L.length+2,.arr 1 0 [cv])]:=by
 obtain⟨⟨rp,h1⟩,h2⟩:=h;have hip:=(List.getElem?_eq_some_iff.1 h1).1
 have e0:(⟨A,false,L⟩:St)=⟨A,false,L++[]⟩:=by rw[lN]
 have hg1:∀T,(L++T)[ip]?=some (.arr 3 0 [.agg [a,td,rp]]):=fun T=>ZAc h1
 rcases h2 with⟨rfl,rfl⟩|⟨tx,ver,rfl,h3,h4,_⟩
 ·refine⟨(L++(ZpM A.length ip rx L.length cv++[Blk.arr 1 0 [clV A.length L.length (L.length+2) (L.length+1)]])).set ip (Blk.arr 3 0 [.agg [a,.ref A.length (L.length+4) 0 0 1,rp]]),.ref A.length (L.length+4) 0 0 1,Xv Y ?_,?_⟩
  ·rw[e0]
   have hg1':∀T,(L++T)[ip]?=some (.arr 3 0 [.agg [a,.nils,rp]]):=hg1;unfold ZpM clV
   cases hcv
   all_goals repeat'(first|refine YO Y Y Y Y Y ?_|refine ZZr Y Y Y Y Y ?_|refine Xb Y Y Y Y ?_|refine ZhF Y Y Y ?_|refine ZE ?_|refine ZD ?_|refine ZV Y Y ?_|refine ZB Y ?_|refine ZC ?_|refine Z7 Y Y ?_|refine XY Y Y ?_|refine ZU Y (hg1' _) Y Y ?_)
   all_goals refine Zjw Y Y Y (Zix Y Y) Y Y ?_
   all_goals refine ZGB Y Y (Zix Y Y) (by simp) (by decide) Y ?_
   all_goals repeat'(first|refine ZV Y Y ?_|refine Z7 Y Y ?_)
   all_goals refine JG (by rw[List.append_assoc];exact hg1' _) Y Y Y (Ja _ (Nat.lt_succ_self _)) Y ?_
   all_goals refine ZB Y ?_
   all_goals refine ZO ?_
   all_goals refine (J9 (.inl Y) Y Y Y Y).trans ?_
   all_goals simp
  ·have hnX : ∀i, L.length <= i -> i ≠ L.length + 4 -> ¬ YZ ip (.ref A.length (L.length + 4) 0 0 1) i := by
    rintro i hi hne (q|⟨_,_,_,_,q⟩)
    ·omega
    ·simp only[AV.ref.injEq]at q;omega
   refine⟨⟨⟨rp,List.getElem?_set_self (by simp;omega)⟩,.inr ⟨L.length+4,0,rfl,?_,by omega,by simp⟩⟩,⟨by simp,fun i hi hn=>?_,fun i hi=>?_⟩,?_⟩
   ·rw[jS (by omega),Qj];rfl
   ·have:i≠ip:=fun q=>hn (.inl q)
    rw[jS (fun q=>this q.symm),jL hi]
   ·rcases hi with q|⟨_,_,_,_,q⟩
    ·exact .inl (.inl q)
    ·simp only[AV.ref.injEq]at q;exact .inr (by omega)
   ·intro p hp
    simp only[List.mem_cons,List.not_mem_nil,or_false]at hp
    rcases hp with rfl|rfl|rfl
    ·refine⟨?_,hnX _ (by simp) (by simp)⟩
     simp only
     rw[jS (by omega)]
     exact Qj (i:=0)
    ·refine⟨?_,hnX _ (by simp) (by simp)⟩
     simp only
     rw[jS (by omega)]
     exact Qj (i:=1)
    ·refine⟨?_,hnX _ (by simp) (by simp)⟩
     simp only
     rw[jS (by omega)]
     exact Qj (i:=2)
 ·have htx:=(List.getElem?_eq_some_iff.1 h3).1
  refine⟨((L++ZpM A.length ip rx L.length cv).set tx (Blk.arr 1 (ver+1) (cls++[clV A.length L.length (L.length+2) (L.length+1)]))).set ip (Blk.arr 3 0 [.agg [a,.ref A.length tx (ver+1) 0 (cls.length+1),rp]]),.ref A.length tx (ver+1) 0 (cls.length+1),Xv Y ?_,?_⟩
  ·rw[e0]
   have hgt:∀T,(L++T)[tx]?=some (.arr 1 ver cls):=fun T=>ZAc h3
   have hap:ZV0 (.ptr A.length (L.length+0) 0 0 0) (.ref A.length tx ver 0 cls.length)=true:=by
    simp[ZV0,ZAe];omega
   have hgr:∀f x y z,ZVy (.ref A.length tx ver 0 cls.length) (some [.func (.func f) [] [.ptr A.length x 0 0 0,.ptr A.length y 0 0 0,.ptr A.length z 0 0 0]])=true:=by
    intro f x y z;simp[ZVy,ZBA,Zfj]
   have hsl:∀(st:St) f x y z,mapSt (ZY QD (A.length+1)) st [.func (.func f) [] [.ptr A.length x 0 0 0,.ptr A.length y 0 0 0,.ptr A.length z 0 0 0]]=some ([.func (.func f) [] [.ptr A.length x 0 0 0,.ptr A.length y 0 0 0,.ptr A.length z 0 0 0]],st):=by
    intro st f x y z;rw[mapSt,ZOk _ (Nat.lt_succ_self _)];rfl
   unfold ZpM clV
   cases hcv
   all_goals repeat'(first|refine YO Y Y Y Y Y ?_|refine ZZr Y Y Y Y Y ?_|refine Xb Y Y Y Y ?_|refine ZhF Y Y Y ?_|refine ZE ?_|refine ZD ?_|refine ZV Y Y ?_|refine ZB Y ?_|refine ZC ?_|refine Z7 Y Y ?_|refine XY Y Y ?_|refine ZU Y (hg1 _) Y Y ?_)
   all_goals refine Zjw Y Y Y (Zix Y Y) hap (hgr _ _ _ _) ?_
   all_goals refine ZhD Y Y (by rw[Qj];rfl) (hgt _) rfl rfl (hsl _ _ _ _ _) (by simp;omega) (by decide) ?_
   all_goals repeat'(first|refine ZV Y Y ?_|refine Z7 Y Y ?_)
   all_goals refine JG (by rw[jS h4];exact hg1 _) Y Y Y (Ja _ (Nat.lt_succ_self _)) Y ?_
   all_goals refine ZB Y ?_
   all_goals refine ZO ?_
   all_goals refine (J9 (.inl Y) Y Y Y Y).trans ?_
   all_goals simp
  ·have hnX : ∀i, L.length <= i -> ¬ YZ ip (.ref A.length tx (ver + 1) 0 (cls.length + 1)) i := by
    rintro i hi (q|⟨_,_,_,_,q⟩)
    ·omega
    ·simp only[AV.ref.injEq]at q;omega
   refine⟨⟨⟨rp,List.getElem?_set_self (by simp;omega)⟩,.inr ⟨tx,ver+1,by simp,?_,h4,by simp⟩⟩,⟨by simp,fun i hi hn=>?_,fun i hi=>?_⟩,?_⟩
   ·rw[jS (fun q=>h4 q.symm),List.getElem?_set_self (by simp;omega)]
   ·have n1:i≠ip:=fun q=>hn (.inl q)
    have n2:i≠tx:=fun q=>hn (.inr ⟨A.length,ver,0,cls.length,by rw[q]⟩)
    rw[jS (fun q=>n1 q.symm),jS (fun q=>n2 q.symm),jL hi]
   ·rcases hi with q|⟨_,_,_,_,q⟩
    ·exact .inl (.inl q)
    ·simp only[AV.ref.injEq]at q
     exact .inl (.inr ⟨A.length,ver,0,cls.length,by rw[q.2.1]⟩)
   ·intro p hp
    simp only[List.mem_cons,List.not_mem_nil,or_false]at hp
    rcases hp with rfl|rfl|rfl
    ·refine⟨?_,hnX _ (by simp)⟩
     simp only
     rw[jS (by omega),jS (by omega)]
     exact Qj (i:=0)
    ·refine⟨?_,hnX _ (by simp)⟩
     simp only
     rw[jS (by omega),jS (by omega)]
     exact Qj (i:=1)
    ·refine⟨?_,hnX _ (by simp)⟩
     simp only
     rw[jS (by omega),jS (by omega)]
     exact Qj (i:=2)
inductive ItC where
 | leaf (s:B8)
 | inn (h:Nat) (ks:List Nat)
structure It where
 rx:Nat
 c:ItC
def ZOl(n:Nat)(rs:List Nat):LV:=rs.map fun r=>.ptr n r 0 0 0
def CvOk(n:Nat)(F:List (Nat × Blk))(cv:AV):ItC->Prop
 | .leaf s=>∃xb,cv=.func (.func Js) [] [.ptr n xb 0 0 0]/\(xb,Blk.arr 3 0 [.agg [.int .i64 0,.str s,.nils]])∈F
 | .inn h ks=>∃tb kb kx,∃t:Tr,cv=.func (.func JP) [] [.ptr n tb 0 0 0,.ptr n kb 0 0 0]/\t.h=h/\(tb,Blk.arr 7 0 [t.av])∈F/\(kb,Blk.arr 1 0 [.ref n kx ks.length 0 ks.length])∈F/\(kx,Blk.arr 1 ks.length (ZOl n ks))∈F
theorem CvOk.mono{n:Nat}{F G:List (Nat × Blk)}(hs:∀p∈F,p∈G){cv:AV}:∀ {c:ItC},CvOk n F cv c->CvOk n G cv c
 | .leaf s,⟨xb,h1,h2⟩=>⟨xb,h1,hs _ h2⟩
 | .inn h ks,⟨tb,kb,kx,t,h1,h2,h3,h4,h5⟩=>⟨tb,kb,kx,t,h1,h2,hs _ h3,hs _ h4,hs _ h5⟩
def ClOk(n ip:Nat)(F:List (Nat × Blk))(cl:AV)(it:It):Prop :=
 ∃b0 b1 b2 cv,cl=clV n b0 b1 b2/\(b0,Blk.arr 1 0 [.ptr n ip 0 0 0])∈F/\(b1,Blk.arr 1 0 [cv])∈F/\(b2,Blk.arr 1 0 [.ptr n it.rx 0 0 0])∈F/\CvOk n F cv it.c
theorem ClOk.mono{F G:List (Nat × Blk)}(hs:∀p∈F,p∈G){cl:AV}{it:It}(h:ClOk n ip F cl it):ClOk n ip G cl it:=by
 obtain⟨b0,b1,b2,cv,h1,h2,h3,h4,h5⟩:=h;exact⟨b0,b1,b2,cv,h1,hs _ h2,hs _ h3,hs _ h4,h5.mono hs⟩
inductive ClsOk (n ip:Nat) (F:List (Nat × Blk)):LV->List It->Prop
 | nil:ClsOk n ip F [] []
 | cons {c i cs is} (h:ClOk n ip F c i) (t:ClsOk n ip F cs is):ClsOk n ip F (c::cs) (i::is)
theorem ClsOk.mono{F G:List (Nat × Blk)}(hs:∀p∈F,p∈G){cs:LV}{is:List It}(h:ClsOk n ip F cs is):ClsOk n ip G cs is:=by
 induction h with
 | nil=>exact .nil
 | cons h t ih=>exact .cons (h.mono hs) ih
theorem ClsOk.append{F:List (Nat × Blk)}{cs ds:LV}{is js:List It}(h:ClsOk n ip F cs is)(g:ClsOk n ip F ds js):ClsOk n ip F (cs++ds) (is++js):=by
 induction h with
 | nil=>exact g
 | cons h t ih=>exact .cons h ih
theorem ClsOk.len{F:List (Nat × Blk)}{cs:LV}{is:List It}(h:ClsOk n ip F cs is):cs.length=is.length:=by
 induction h with
 | nil=>rfl
 | cons h t ih=>simp[ih]
namespace Tr
mutual
def mea:Tr->Mea
 | .mk o h m s k=>if o≠0 then m else if h=0 then Yj s else QF (meaO k)
def meaO:Option (List Tr)->List Mea
 | none=>[]
 | some l=>ZpN l
def ZpN:List Tr->List Mea
 | []=>[]
 | t::l=>t.mea::ZpN l
end
theorem meaL_map:∀l,ZpN l=l.map mea
 | []=>rfl
 | t::l=>by rw[ZpN,meaL_map l];rfl
end Tr
theorem ZfV(h:Nat)(l:List Tr):(Tr.mk 0 (h+1) .zero [] (some l)).mea=QF (l.map Tr.mea):=by
 rw[Tr.mea,Tr.meaO,Tr.meaL_map];simp
theorem ZOm(s:B8)(k:Option (List Tr)):(Tr.mk 0 0 .zero s k).mea=Yj s:=by rw[Tr.mea];simp
theorem ZOn{o h:Nat}{m:Mea}{s:B8}{k:Option (List Tr)}(h0:o≠0):(Tr.mk o h m s k).mea=m:=by rw[Tr.mea];simp[h0]
structure Mea.Chn(m:Mea):Prop where
 l0:0<=m.l
 lr:m.l<=m.r
 rb:m.r<=m.b
theorem ZZs:∀ {l:List Mea},(∀m∈l,m.Chn)->(QF l).Chn
 | [],_=>⟨by decide,by decide,by decide⟩
 | m::l,h=>by
  obtain⟨a1,a2,a3⟩:=h m (by simp)
  obtain⟨b1,b2,b3⟩:=ZZs (l:=l) (fun x hx=>h x (by simp[hx]))
  constructor<;>simp only[QF,Mea.add]<;>omega
theorem ZhG(s:B8):(Yj s).Chn:=by
 have h2:=ZOi s;have h3:=List.countP_le_length (p:=ZD2) (l:=s)
 constructor<;>simp only[Yj]<;>omega
theorem NdOk.chn{x:Nd}(h:NdOk x):x.mea.Chn:=by
 rcases h with h|⟨n,ks,h⟩
 ·have hm:x.mea=Yj x.text:=by unfold Nd.mea;rw[if_pos h.h]
  rw[hm];exact ZhG _
 ·have e:=h.eq
  subst e;have hms:Nd.mea ⟨n+1,[],some ks⟩=QF (ks.map Kid.m):=rfl;rw[hms]
  refine ZZs (fun m hm=>?_)
  obtain⟨k,hk,rfl⟩:=List.mem_map.1 hm
  have:=h.kid k hk
  exact⟨this.l0,this.lr,this.rb⟩
theorem Ziy:∀l:List Tr,(∀t∈l,t.mea.b=t.bytes)->(QF (l.map Tr.mea)).b=Tr.bytesL l
 | [],_=>rfl
 | t::l,h=>by
  rw[jC,QF,Mea.add,Tr.bytesL]
  simp only
  rw[h t (by simp),Ziy l (fun u hu=>h u (by simp[hu]))]
theorem Val.mea_ok{N:ZJ}{t:Tr}(hv:Val N t):t.mea.b=t.bytes/\t.mea.Chn:=by
 induction hv with
 | @kept o h m k x h0 hx hok hh hm hk =>
  rw[ZOn h0]
  refine⟨?_,by rw[<- hm];exact hok.chn⟩
  rw[Tr.bytes,Tr.bytesO_getD,hk];simp[Tr.bytesL]
 | @leaf s k h1 h2 hk =>
  rw[ZOm];refine⟨?_,ZhG s⟩;rw[Tr.bytes,Tr.bytesO_getD,hk];simp[Tr.bytesL,Yj,Mea.zero]
 | @inner h l hh h2 h4 hl hb hv ih =>
  rw[ZfV]
  refine⟨?_,ZZs (fun m hm=>?_)⟩
  ·rw[Ziy l (fun u hu=>(ih u hu).1),Tr.bytes,Tr.bytesO];simp[Mea.zero]
  ·obtain⟨u,hu,rfl⟩:=List.mem_map.1 hm
   exact (ih u hu).2
theorem Val.mea_fit{N:ZJ}{t:Tr}(hv:Val N t)(hb:t.bytes<=65536):t.mea.Fit 65536:=by
 obtain⟨h1,h2⟩:=hv.mea_ok;obtain⟨c1,c2,c3⟩:=h2
 constructor<;>omega
mutual
inductive AddT:Tr->Nat->List It->List (Nat × Ro)->Prop
 | kept {o h m k rx} (h0:o≠0):AddT (.mk o h m [] k) rx [] [(rx,⟨o,h,m⟩)]
 | leaf {s k rx}:AddT (.mk 0 0 .zero s k) rx [⟨rx,.leaf s⟩] [(rx,⟨0,0,Yj s⟩)]
 | inner {h l rx rs its R} (hl:AddL l rs its R) (hn:(R.map Prod.fst).Nodup) (hx:rx∉R.map Prod.fst):AddT (.mk 0 (h+1) .zero [] (some l)) rx (its++[⟨rx,.inn (h+1) rs⟩]) (R++[(rx,⟨0,h+1,QF (l.map Tr.mea)⟩)])
inductive AddL:List Tr->List Nat->List It->List (Nat × Ro)->Prop
 | nil:AddL [] [] [] []
 | cons {t l rx rs i1 i2 R1 R2} (ht:AddT t rx i1 R1) (hl:AddL l rs i2 R2):AddL (t::l) (rx::rs) (i1++i2) (R1++R2)
end
theorem AddL.snoc{t:Tr}{rx:Nat}{i1:List It}{R1:List (Nat × Ro)}(ht:AddT t rx i1 R1):∀ {l:List Tr} {rs:List Nat} {its:List It} {R:List (Nat × Ro)},AddL l rs its R->AddL (l++[t]) (rs++[rx]) (its++i1) (R++R1)
 | _,_,_,_,.nil=>by have:=AddL.cons ht .nil;simpa using this
 | _,_,_,_,.cons h g=>by
  have:=AddL.cons h (AddL.snoc ht g)
  simpa [List.append_assoc] using this
theorem AddL.len:∀ {l:List Tr} {rs:List Nat} {its:List It} {R:List (Nat × Ro)},AddL l rs its R->rs.length=l.length
 | _,_,_,_,.nil=>rfl
 | _,_,_,_,.cons h g=>by simp[g.len]
mutual
theorem AddT.cnt:∀ {t:Tr} {rx:Nat} {its:List It} {R:List (Nat × Ro)},AddT t rx its R->its.length<=t.cnt
 | _,_,_,_,.kept h0=>Nat.zero_le _
 | _,_,_,_,.leaf=>by rw[Tr.cnt];simp
 | _,_,_,_,.inner hl hn hx=>by
  have:=AddL.cnt hl
  rw[Tr.cnt,Tr.cntO];simp;omega
theorem AddL.cnt:∀ {l:List Tr} {rs:List Nat} {its:List It} {R:List (Nat × Ro)},AddL l rs its R->its.length<=Tr.cntL l
 | _,_,_,_,.nil=>Nat.le_refl _
 | _,_,_,_,.cons h g=>by
  have h1:=h.cnt;have h2:=g.cnt;rw[Tr.cntL];simp;omega
end
def No5(F:List (Nat × Blk)):Prop:=∀p∈F,∃w v es,p.2=Blk.arr w v es/\w≠5
theorem No5.nil:No5 []:=fun p hp=>by simp at hp
theorem No5.cons{F:List (Nat × Blk)}{i w v:Nat}{es:LV}(hw:w≠5)(h:No5 F):No5 ((i,Blk.arr w v es)::F):=fun p hp=>by
 rcases List.mem_cons.1 hp with rfl|q
 ·exact⟨w,v,es,rfl,hw⟩
 ·exact h p q
theorem No5.append{F G:List (Nat × Blk)}(h:No5 F)(g:No5 G):No5 (F++G):=fun p hp=>by
 rcases List.mem_append.1 hp with q|q
 ·exact h p q
 ·exact g p q
structure Added(A:List (Bool × List Blk))(L:List Blk)(ip:Nat)(a td:AV)(cls:LV)(t:Tr)(L':List Blk)(td':AV)(rx:Nat)(its:List It)(cs:LV)(R:List (Nat × Ro))(F:List (Nat × Blk)):Prop where
 pen:Pen A L' ip a td' (cls++cs)
 frm:Frm L (YZ ip td) L' (YZ ip td')
 fx:Fx L' (YZ ip td') F
 rts:Rx L' (YZ ip td') R
 flo:∀p∈F,L.length<=p.1
 rlo:∀p∈R,L.length<=p.1
 cl:ClsOk A.length ip F cs its
 tr:AddT t rx its R
 nd:(R.map Prod.fst).Nodup
 fw:No5 F
theorem Rx.one{L:List Blk}{X:Nat->Prop}{i:Nat}{r:Ro}(h:L[i]?=some (.arr 5 0 [r.av]))(hn:¬ X i):Rx L X [(i,r)]:=by
 intro p hp;simp only[jC,List.map_nil,List.mem_singleton]at hp;subst hp;exact⟨h,hn⟩
theorem Zmq{A:List (Bool × List Blk)}{L:List Blk}{ip:Nat}{a td:AV}{cls:LV}(h:Pen A L ip a td cls){o hh:Nat}{m:Mea}{k:Option (List Tr)}(h0:o≠0)(hk:k.getD []=[]):
 ∃L' td' rx its cs R F,S Tb Qo [.ptr A.length ip 0 0 0,(Tr.mk o hh m [] k).av] ⟨A,false,L⟩=some (.ptr A.length rx 0 0 0,⟨A,false,L'⟩)/\Added A L ip a td cls (.mk o hh m [] k) L' td' rx its cs R F:=by
 refine⟨L++[.arr 7 0 [(Tr.mk o hh m [] k).av],.arr 5 0 [Ro.av ⟨o,hh,m⟩]],td,L.length+1,[],[],[(L.length+1,⟨o,hh,m⟩)],[],Xv Y ?_,?_⟩
 ·have e0:(⟨A,false,L⟩:St)=⟨A,false,L++[]⟩:=by rw[lN]
  rw[e0]
  obtain⟨ka,hka,hka2⟩:∃ka,Tr.avO k=ka/\(ka=.nils\/ka=.lit []):=by
   cases k with
   | none=>exact⟨_,rfl,.inl Y⟩
   | some l=>have:l=[]:=hk;subst this;exact⟨_,rfl,.inr Y⟩
  simp only[Tr.av,hka]at *
  rcases hka2 with rfl|rfl
  all_goals repeat'(first|refine YO Y Y Y Y Y ?_|refine Xb Y Y Y Y ?_|refine ZE ?_|refine ZD ?_|refine ZG Y ?_|refine ZV Y Y ?_|refine JZ Y Y ?_|refine ZrG Y ?_|refine Zr Y Y Y Y ?_|refine ZB Y ?_|refine ZC ?_|(refine cm0 Y Y Y ?_ ?_<;>intro _<;>try omega)|refine ZQ Y ?_|refine Zx Y Y Y ?_|refine ZI ?_|refine ZP ?_|refine ZL ?_|refine ZO ?_|refine Z0 ?_)
  all_goals try omega
  all_goals refine (J9 (.inr Y) Y Y Y Y).trans ?_
  all_goals rfl
 ·refine⟨by rw[lN];exact h.app _,.app _,fun p hp=>by simp at hp,Rx.one ?_ (fun q=>by have:=h.lt q;omega),fun p hp=>by simp at hp,fun p hp=>?_,.nil,.kept h0,by simp,.nil⟩
  ·exact Qj (i:=1)
  ·simp only[List.mem_singleton]at hp;subst hp;simp
theorem Zmr{A:List (Bool × List Blk)}{L:List Blk}{ip:Nat}{a td:AV}{cls:LV}(h:Pen A L ip a td cls)(hl:cls.length<1000000){s:B8}{k:Option (List Tr)}(hs:ZBd s)(hk:k.getD []=[]):
 ∃L' td' rx its cs R F,S Tb Qo [.ptr A.length ip 0 0 0,(Tr.mk 0 0 .zero s k).av] ⟨A,false,L⟩=some (.ptr A.length rx 0 0 0,⟨A,false,L'⟩)/\Added A L ip a td cls (.mk 0 0 .zero s k) L' td' rx its cs R F:=by
 obtain⟨T,hT⟩:∃T:List Blk,T=[.arr 7 0 [(Tr.mk 0 0 .zero s k).av],.arr 5 0 [Ro.av ⟨0,0,Yj s⟩],.arr 3 0 [.agg [.int .i64 0,.str s,.nils]]]:=⟨_,rfl⟩
 have hlen:T.length=3:=by rw[hT];rfl
 obtain⟨L1,td1,hS,hp,hf,hx⟩:=Zp1 (h.app T) (rx:=L.length+1) (Cv.one (n:=A.length) (L.length+2)) hl
 have hM:=fun st=>ZLZ ⟨0,s,none⟩ (.inl ⟨rfl,hs.1,hs.2,rfl⟩) st
 have hm0:Nd.mea ⟨0,s,none⟩=Yj s:=rfl;rw[hm0]at hM
 have hne:s≠[]:=fun q=>by rw[q]at hs;have:=hs.1;simp at this
 have hff:=(Frm.app (L:=L) (X:=YZ ip td) T).trans hf
 have hltX:∀i,YZ ip td i->i<L.length:=fun i hi=>h.lt hi
 have hnX:∀i,L.length<=i->i<L.length+3->¬ YZ ip td1 i:=fun i h1 h2 q=>by
  rcases hf.own i q with w|w
  ·have:=hltX i w;omega
  ·rw[lL]at w;omega
 have hg:∀j b,T[j]?=some b->L1[L.length+j]?=some b:=fun j b hb=>by
  have hj:=(List.getElem?_eq_some_iff.1 hb).1
  rw[hf.old _ (by rw[lL];omega) (fun q=>by have:=hltX _ q;omega),Qj];exact hb
 refine⟨L1,td1,L.length+1,[⟨L.length+1,.leaf s⟩],_,[(L.length+1,⟨0,0,Yj s⟩)],(L.length+2,Blk.arr 3 0 [.agg [.int .i64 0,.str s,.nils]])::[((L++T).length,Blk.arr 1 0 [.ptr A.length ip 0 0 0]),((L++T).length+1,Blk.arr 1 0 [.ptr A.length (L.length+1) 0 0 0]),((L++T).length+2,Blk.arr 1 0 [.func (.func Js) [] [.ptr A.length (L.length+2) 0 0 0]])],Xv Y ?_,⟨hp,hff,?_,Rx.one (hg 1 _ (by rw[hT];rfl)) (hnX _ (by omega) (by omega)),?_,?_,.cons ⟨_,_,_,_,rfl,List.mem_cons_of_mem _ ?_,List.mem_cons_of_mem _ ?_,List.mem_cons_of_mem _ ?_,⟨L.length+2,rfl,?_⟩⟩ .nil,.leaf,by simp,.cons (by decide) (.cons (by decide) (.cons (by decide) (.cons (by decide) .nil)))⟩⟩
 ·have e0:(⟨A,false,L⟩:St)=⟨A,false,L++[]⟩:=by rw[lN]
  rw[e0]
  obtain⟨ka,hka,hka2⟩:∃ka,Tr.avO k=ka/\(ka=.nils\/ka=.lit []):=by
   cases k with
   | none=>exact⟨_,rfl,.inl Y⟩
   | some l=>have:l=[]:=hk;subst this;exact⟨_,rfl,.inr Y⟩
  rw[hT]at hS
  simp only[Tr.av,Nd.av,slV,Mea.zero,hka]at *
  rcases hka2 with rfl|rfl
  all_goals repeat'(first|refine YO Y Y Y Y Y ?_|refine Xb Y Y Y Y ?_|refine ZDK Y Y Y Y Y Y Y ?_|refine ZE ?_|refine ZD ?_|refine ZG Y ?_|refine ZV Y Y ?_|refine QK Y ?_|refine JZ Y Y ?_|refine Zr Y Y Y Y ?_|refine Zw Y Y ?_|refine ZB Y ?_|refine ZC ?_|refine Z7 Y Y ?_|(refine cm0 Y Y Y ?_ ?_<;>intro _<;>try omega)|(refine Xl Y Y (fun _=>?_) (fun _=>?_)<;>try contradiction)|refine ZQ Y ?_|refine ZH Y ?_|refine Zx Y Y Y ?_|refine XY Y Y ?_|refine ZA Y Y Y (hM _) ?_|refine ZA Y Y Y (hS) ?_|refine ZP ?_|refine ZL ?_|refine ZO ?_|refine Z0 ?_)
  all_goals try contradiction
  all_goals exact J9 (.inr Y) Y Y Y Y
 ·intro p hp
  rcases List.mem_cons.1 hp with rfl|q
  ·exact⟨hg 2 _ (by rw[hT];rfl),hnX _ (by omega) (by omega)⟩
  ·exact hx p q
 ·intro p hp
  simp only[List.mem_cons,List.not_mem_nil,or_false,lL]at hp
  rcases hp with rfl|rfl|rfl|rfl<;>simp only<;>omega
 ·intro p hp
  simp only[List.mem_singleton]at hp;subst hp;simp
 ·simp
 ·simp
 ·simp
 ·simp
theorem ZpO{k:List Fr}{Q:YD}{A:List (Bool × List Blk)}{X:List Blk}{jb rx:Nat}{o hh v0 v3 v7 v20 v21 v22:AV}{mb mr ml:Int}{r:Ro}(h1:X[jb]?=some (Blk.arr 5 0 [.agg [o,hh,.int .i64 mb,.int .i64 mr,.int .i64 ml]]))(h2:X[rx]?=some (Blk.arr 5 0 [r.av]))(hne:jb≠rx)
 (hb:0<=mb/\mb<=262144/\0<=mr/\mr<=262144/\0<=ml/\ml<=262144) (hr:0<=r.m.b/\r.m.b<=65536/\0<=r.m.r/\r.m.r<=65536/\0<=r.m.l/\r.m.l<=65536)
 (h:Rk (S Tb) k Q .norm [(0,v0),(3,v3),(5,.ptr A.length jb 0 0 0),(7,v7),(20,v20),(21,v21),(22,v22)] ⟨A,false,X.set jb (.arr 5 0 [.agg [o,hh,.int .i64 (mb+r.m.b),.int .i64 (mr+r.m.r),.int .i64 (ml+r.m.l)]])⟩) :
 Ru (S Tb) (.seq ZDz (.seq ZD0 ZD1)) k Q [(0,v0),(3,v3),(5,.ptr A.length jb 0 0 0),(7,v7),(10,.ptr A.length rx 0 0 0),(20,v20),(21,v21),(22,v22)] ⟨A,false,X⟩:=by
 have hlt:=(List.getElem?_eq_some_iff.1 h1).1
 have h3:∀b,(X.set jb b)[rx]?=some (Blk.arr 5 0 [r.av]):=fun b=>by rw[jS hne];exact h2
 unfold Ro.av at h2 h3
 repeat'(first|refine ZU Y h1 Y Y ?_|refine ZU Y h2 Y Y ?_|refine ZE ?_|refine ZD ?_|refine ZG Y ?_|refine ZV Y Y ?_|refine Z7 Y Y ?_|refine Zh Y Y (by omega) ?_)
 refine JG h1 Y Y Y Y Y ?_
 repeat'(first|refine ZU Y (List.getElem?_set_self hlt) Y Y ?_|refine ZU Y (h3 _) Y Y ?_|refine ZE ?_|refine ZD ?_|refine ZG Y ?_|refine ZV Y Y ?_|refine ZB Y ?_|refine ZC ?_|refine Z7 Y Y ?_|refine Zh Y Y (by omega) ?_)
 refine JG (List.getElem?_set_self hlt) Y Y Y Y Y ?_;rw[List.set_set]
 repeat'(first|refine ZU Y (List.getElem?_set_self hlt) Y Y ?_|refine ZU Y (h3 _) Y Y ?_|refine ZD ?_|refine ZG Y ?_|refine ZV Y Y ?_|refine ZB Y ?_|refine ZC ?_|refine Z7 Y Y ?_|refine Zh Y Y (by omega) ?_)
 refine JG (List.getElem?_set_self hlt) Y Y Y Y Y ?_;rw[List.set_set];refine ZB Y ?_;exact h
structure AInv(A:List (Bool × List Blk))(L:List Blk)(ip:Nat)(a td:AV)(cls:LV)(h:Nat)(l:List Tr)(i:Nat)(Li:List Blk)(td':AV)(rs:List Nat)(its:List It)(cs:LV)(R:List (Nat × Ro))(F:List (Nat × Blk)):Prop where
 le:i<=l.length
 pen:Pen A Li ip a td' (cls++cs)
 frm:Frm L (YZ ip td) Li (YZ ip td')
 fx:Fx Li (YZ ip td') F
 rts:Rx Li (YZ ip td') R
 flo:∀p∈F,L.length+4<=p.1
 rlo:∀p∈R,L.length+4<=p.1
 plo:∀j,YZ ip td' j->YZ ip td j\/L.length+4<=j
 nd:(R.map Prod.fst).Nodup
 cl:ClsOk A.length ip F cs its
 tr:AddL (l.take i) rs its R
 len:L.length+4<=Li.length
 b0:Li[L.length]?=some (.arr 7 0 [(Tr.mk 0 (h+1) .zero [] (some l)).av])
 b1:Li[L.length+1]?=some (.arr 5 0 [Ro.av ⟨0,h+1,QF ((l.take i).map Tr.mea)⟩])
 b2:Li[L.length+2]?=some (.arr 1 i (ZOl A.length rs))
 b3:Li[L.length+3]?=some (.arr 1 0 [.ref A.length (L.length+2) i 0 i])
 fw:No5 F
theorem Zms(n:Nat)(st:St)(r:Nat):mapSt (ZY QD (n+1)) st [.ptr n r 0 0 0]=some ([.ptr n r 0 0 0],st):=by
 simp only[mapSt,ZY,QD,if_pos (Nat.lt_succ_self n),oS,Y1]
theorem ZrN(h:weak a=a)(t:Tr):ZX (Ze ([]++[a,t.av]++[]))=some [a,t.av]:=by
 simp only[lE,lN,lC,Ze,ZW,ZX,h]
theorem ZpP{L:List Blk}{X:Nat->Prop}{R:List (Nat × Ro)}(h:Rx L X R):∀k∈R.map Prod.fst,k<L.length:=by
 intro k hk;obtain⟨p,hp,rfl⟩:=List.mem_map.1 hk;exact (List.getElem?_eq_some_iff.1 (h.get hp).1).1
theorem AInv.step{L:List Blk}(hP:Pen A L ip a td cls){h:Nat}{l:List Tr}{i:Nat}{Li:List Blk}{td1:AV}{rs:List Nat}{its:List It}{cs:LV}{R:List (Nat × Ro)}{F:List (Nat × Blk)}
 (hi:AInv A L ip a td cls h l i Li td1 rs its cs R F) {u:Tr} (hu:l[i]?=some u) {B:Blk} {L1:List Blk} {td2:AV} {rx:Nat} {its2:List It} {cs2:LV} {R2:List (Nat × Ro)} {F2:List (Nat × Blk)} (ha:Added A (Li++[B]) ip a td1 (cls++cs) u L1 td2 rx its2 cs2 R2 F2)
 {T:List Blk} {L2:List Blk} (hl2:L2.length=(L1++T).length) (hold:∀j,j<L1.length->j≠L.length+1->j≠L.length+2->j≠L.length+3->L2[j]?=L1[j]?)
 (b1:L2[L.length+1]?=some (.arr 5 0 [Ro.av ⟨0,h+1,QF ((l.take (i+1)).map Tr.mea)⟩])) (b2:L2[L.length+2]?=some (.arr 1 (i+1) (ZOl A.length (rs++[rx])))) (b3:L2[L.length+3]?=some (.arr 1 0 [.ref A.length (L.length+2) (i+1) 0 (i+1)])) :
 AInv A L ip a td cls h l (i+1) L2 td2 (rs++[rx]) (its++its2) (cs++cs2) (R++R2) (F++F2):=by
 have hlt:=(List.getElem?_eq_some_iff.1 hu).1;have hlen:=hi.len;have hl1:=ha.frm.len;rw[lL,List.length_singleton]at hl1;rw[lL]at hl2
 have hX1:∀j,YZ ip td1 j->j<Li.length:=fun j hj=>hi.pen.lt hj
 have plo2:∀j,YZ ip td2 j->YZ ip td j\/L.length+4<=j:=fun j hj=>by
  rcases ha.frm.own j hj with q|q
  ·exact hi.plo j q
  ·rw[lL,List.length_singleton]at q;exact .inr (by omega)
 have hltL:∀j,YZ ip td j->j<L.length:=fun j hj=>hP.lt hj
 have hfrm:Frm L1 (YZ ip td2) L2 (YZ ip td2)->Frm L1 (YZ ip td2) L2 (YZ ip td2):=id
 -- what is ZrE of L1 stays in L2
 have keep:∀ {j:Nat} {b:Blk},L1[j]?=some b->j≠L.length+1->j≠L.length+2->j≠L.length+3->L2[j]?=some b:=fun {j b} hb n1 n2 n3=>by
  rw[hold j (List.getElem?_eq_some_iff.1 hb).1 n1 n2 n3];exact hb
 have f1:=(Frm.app (L:=Li) (X:=YZ ip td1) [B]).trans ha.frm;have k1:Fx L1 (YZ ip td2) F:=hi.fx.frm f1;have k2:Rx L1 (YZ ip td2) R:=hi.rts.frm f1
 have lo2:∀p∈R2,Li.length+1<=p.1:=fun p hp=>by have:=ha.rlo p hp;rwa [lL,List.length_singleton]at this
 have flo2:∀p∈F2,Li.length+1<=p.1:=fun p hp=>by have:=ha.flo p hp;rwa [lL,List.length_singleton]at this
 refine⟨hlt,?_,?_,?_,?_,?_,?_,plo2,?_,?_,?_,by omega,?_,b1,b2,b3,hi.fw.append ha.fw⟩
 ·rw[<- List.append_assoc]
  refine ha.pen.frm fun j hj=>hold j (ha.pen.lt hj) ?_ ?_ ?_<;>intro q<;>rcases plo2 j hj with w|w<;>first|omega|(have:=hltL j w;omega)
 ·refine⟨by have:=hi.frm.len;omega,fun j hj hn=>?_,fun j hj=>?_⟩
  ·have hn1:¬ YZ ip td1 j:=fun q=>by rcases hi.plo j q with w|w;exact hn w;omega
   rw[hold j (by omega) (by omega) (by omega) (by omega),f1.old j (by omega) hn1,hi.frm.old j hj hn]
  ·rcases plo2 j hj with q|q
   ·exact .inl q
   ·exact .inr (by omega)
 ·refine Fx.append (fun p hp=>?_) (fun p hp=>?_)
  ·have:=hi.flo p hp
   exact⟨keep (k1 p hp).1 (by omega) (by omega) (by omega),(k1 p hp).2⟩
  ·have:=flo2 p hp
   exact⟨keep (ha.fx p hp).1 (by omega) (by omega) (by omega),(ha.fx p hp).2⟩
 ·refine Rx.append (fun p hp=>?_) (fun p hp=>?_)
  ·obtain⟨q,hq,rfl⟩:=List.mem_map.1 hp
   have:=hi.rlo q hq
   exact⟨keep (k2.get hq).1 (by simp only;omega) (by simp only;omega) (by simp only;omega),(k2.get hq).2⟩
  ·obtain⟨q,hq,rfl⟩:=List.mem_map.1 hp
   have:=lo2 q hq
   exact⟨keep (ha.rts.get hq).1 (by simp only;omega) (by simp only;omega) (by simp only;omega),(ha.rts.get hq).2⟩
 ·intro p hp
  rcases List.mem_append.1 hp with q|q
  ·exact hi.flo p q
  ·have:=flo2 p q;omega
 ·intro p hp
  rcases List.mem_append.1 hp with q|q
  ·exact hi.rlo p q
  ·have:=lo2 p q;omega
 ·rw[List.map_append,List.nodup_append]
  refine⟨hi.nd,?_,?_⟩
  ·exact ha.nd
  ·intro x hx y hy e
   subst e;have h1:=ZpP hi.rts x hx;obtain⟨p,hp,rfl⟩:=List.mem_map.1 hy
   have:=lo2 p hp
   omega
 ·exact (hi.cl.mono (fun p hp=>by simp[hp])).append (ha.cl.mono (fun p hp=>by simp[hp]))
 ·rw[ZZ hu]
  exact hi.tr.snoc ha.tr
 ·have hb0:=hi.b0
  rw[<- f1.old _ (by omega) (fun q=>by rcases hi.plo _ q with w|w;have:=hltL _ w;omega;omega)]at hb0
  exact keep hb0 (by omega) (by omega) (by omega)
theorem AddT.root{rx:Nat}{its:List It}{R:List (Nat × Ro)}(h:AddT t rx its R):∃r:Ro,(rx,r)∈R/\r.m=t.mea/\r.h=t.h:=by
 cases h with
 | @kept o h m k _ h0=>exact⟨⟨o,h,m⟩,by simp,(ZOn h0).symm,rfl⟩
 | @leaf s k _=>exact⟨⟨0,0,Yj s⟩,by simp,(ZOm _ _).symm,rfl⟩
 | @inner h l _ rs its R hl hn hx=>exact⟨⟨0,h+1,QF (l.map Tr.mea)⟩,by simp,(ZfV _ _).symm,rfl⟩
theorem ZqZ {l:List Tr} {A:List (Bool × List Blk)} (ih:∀u∈l,∀ {L:List Blk} {ip:Nat} {a td:AV} {cls:LV},Pen A L ip a td cls->cls.length+u.cnt<1000000 ->
 ∃L' td' rx its cs R F,S Tb Qo [.ptr A.length ip 0 0 0,u.av] ⟨A,false,L⟩=some (.ptr A.length rx 0 0 0,⟨A,false,L'⟩)/\Added A L ip a td cls u L' td' rx its cs R F)
 (hl4:1<=l.length/\l.length<=4) (hfit:∀u∈l,u.mea.Fit 65536) {h:Nat} (hh:h<=16) {L:List Blk} {ip:Nat} {a td:AV} {cls:LV} (hP:Pen A L ip a td cls) (hc:cls.length+(Tr.mk 0 (h+1) .zero [] (some l)).cnt<1000000) :
 ∃L' td' rx its cs R F,S Tb Qo [.ptr A.length ip 0 0 0,(Tr.mk 0 (h+1) .zero [] (some l)).av] ⟨A,false,L⟩=some (.ptr A.length rx 0 0 0,⟨A,false,L'⟩)/\Added A L ip a td cls (.mk 0 (h+1) .zero [] (some l)) L' td' rx its cs R F:=by
 have hav:(Tr.mk 0 (h+1) .zero [] (some l)).av=.agg [.int .u64 (0:Nat),.int .i64 ((h+1:Nat):Int),.int .i64 0,.int .i64 0,.int .i64 0,.str [],.lit (l.map Tr.av)]:=by
  rw[Tr.av,Tr.avO_sl];rfl
 have hcn:(Tr.mk 0 (h+1) .zero [] (some l)).cnt=1+Tr.cntL l:=by rw[Tr.cnt,Tr.cntO];simp
 rw[hcn]at hc
 have hltL:∀j,YZ ip td j->j<L.length:=fun j hj=>hP.lt hj
 have hmain:Sp Tb Qo [.ptr A.length ip 0 0 0,(Tr.mk 0 (h+1) .zero [] (some l)).av] ⟨A,false,L⟩ fun v st'=>∃L' td' rx its cs R F,v=.ptr A.length rx 0 0 0/\st'=⟨A,false,L'⟩/\Added A L ip a td cls (.mk 0 (h+1) .zero [] (some l)) L' td' rx its cs R F:=by
  refine Zjf Y ?_
  have e0:(⟨A,false,L⟩:St)=⟨A,false,L++[]⟩:=by rw[lN]
  rw[e0,hav]
  repeat'(first|refine YO Y Y Y Y Y ?_|refine Xb Y Y Y Y ?_|refine Ziw Y ?_|refine ZE ?_|refine ZD ?_|refine ZG Y ?_|refine ZV Y Y ?_|refine QK Y ?_|refine Zr Y Y Y Y ?_|refine ZB Y ?_|refine ZC ?_|refine QH Y ?_|(refine cm0 Y Y Y ?_ ?_<;>intro _<;>try omega)|(refine Xl Y Y (fun _=>?_) (fun _=>?_)<;>try contradiction)|refine ZH Y ?_|refine Zx Y Y Y ?_|refine ZL ?_)
  refine Zy (α:=Nat × List Blk) (fun p=>[(0,.ptr A.length ip 0 0 0),(3,.ptr A.length L.length 0 0 0),(5,.ptr A.length (L.length+1) 0 0 0),(7,.ptr A.length (L.length+3) 0 0 0),(20,.lit (l.map Tr.av)),(21,.int .i64 l.length),(22,.int .i64 p.1)])
   (fun p=>⟨A,false,p.2⟩) (fun p=>∃td' rs its cs R F,AInv A L ip a td cls h l p.1 p.2 td' rs its cs R F) (fun p=>l.length-p.1) (0,_) ?_ rfl ?_ ?_
  ·simp
  ·refine⟨td,[],[],[],[],[],Nat.zero_le _,?_,.app _,fun p hp=>by simp at hp,fun p hp=>by simp at hp,fun p hp=>by simp at hp,fun p hp=>by simp at hp,fun j hj=>.inl hj,by simp,.nil,.nil,by simp,?_,?_,?_,?_,.nil⟩
   ·rw[lN];exact hP.app _
   ·exact (Qj (i:=0)).trans (by rw[hav];rfl)
   ·exact Qj (i:=1)
   ·exact Qj (i:=2)
   ·exact Qj (i:=3)
  rintro⟨i,Li⟩ ⟨td1,rs,its,cs,R,F,hi⟩
  simp only at hi ⊢
  have hle:=hi.le
  have hrs:rs.length=i:=by rw[hi.tr.len,List.length_take];omega
  have hplen:i=(ZOl A.length rs).length:=by simp[ZOl,hrs]
  have hll:=hi.len
  rcases Nat.lt_or_ge i l.length with hlt|hge
  ·obtain⟨u,hu⟩:∃u,l[i]?=some u:=⟨l[i]'hlt,by simp[hlt]⟩
   have hum:=jM hu
   have ht1:0<=((i:Nat):Int)/\l[((i:Nat):Int).toNat]?=some u:=⟨by omega,by rw[show ((i:Nat):Int).toNat=i by omega];exact hu⟩
   have hc1:(cls++cs).length+u.cnt<1000000:=by
    have h1:=hi.cl.len;have h2:=hi.tr.cnt
    have h3:Tr.cntL l=Tr.cntL (l.take i)+(u.cnt+Tr.cntL (l.drop (i+1))):=by
     conv=>lhs;rw[<- List.take_append_drop (i+1) l,ZZ hu,Tr.cntL_append,Tr.cntL_append]
     simp[Tr.cntL];omega
    rw[lL];omega
   obtain⟨L1,td2,rx,its2,cs2,R2,F2,hS,ha⟩:=ih u hum (hi.pen.app [Blk.arr 7 0 [u.av]]) hc1;obtain⟨r,hr,hrm,hrh⟩:=ha.tr.root;have hrx:=ha.rlo _ hr;have hrg:=(ha.rts.get hr).1
   simp only at hrx hrg
   rw[lL,List.length_singleton]at hrx;have f1:=(Frm.app (L:=Li) (X:=YZ ip td1) [Blk.arr 7 0 [u.av]]).trans ha.frm
   have hnx:∀j,j<4->¬ YZ ip td1 (L.length+j):=fun j hj q=>by
    rcases hi.plo _ q with w|w
    ·have:=hltL _ w;omega
    ·omega
   have g1:=hi.b1;have g2:=hi.b2;have g3:=hi.b3
   rw[<- f1.old _ (by omega) (hnx 1 (by omega))]at g1
   rw[<- f1.old _ (by omega) (hnx 2 (by omega))]at g2
   rw[<- f1.old _ (by omega) (hnx 3 (by omega))]at g3
   have hl1:=ha.frm.len;rw[lL,List.length_singleton]at hl1
   have gA2:∀T,(L1++T)[L.length+2]?=some (.arr 1 i (ZOl A.length rs)):=fun T=>ZAc g2
   have gA3:∀T b,((L1++T).set (L.length+2) b)[L.length+3]?=some (.arr 1 0 [.ref A.length (L.length+2) i 0 i]):=fun T b=>by
    rw[jS (by omega)];exact ZAc g3
   have gA1:∀T b c,(((L1++T).set (L.length+2) b).set (L.length+3) c)[L.length+1]?=some (.arr 5 0 [.agg [.int .u64 (0:Nat),.int .i64 ((h+1:Nat):Int),.int .i64 (QF ((l.take i).map Tr.mea)).b,.int .i64 (QF ((l.take i).map Tr.mea)).r,.int .i64 (QF ((l.take i).map Tr.mea)).l]]):=fun T b c=>by
    rw[jS (by omega),jS (by omega)];exact ZAc g1
   have gAr:∀T b c,(((L1++T).set (L.length+2) b).set (L.length+3) c)[rx]?=some (.arr 5 0 [r.av]):=fun T b c=>by
    rw[jS (by omega),jS (by omega)];exact ZAc hrg
   have hsf:=ZIr (l:=(l.take i).map Tr.mea) (fun m hm=>by obtain⟨w,hw,rfl⟩:=List.mem_map.1 hm;exact hfit w (List.mem_of_mem_take hw))
   have hsl:(((l.take i).map Tr.mea).length:Int)*65536<=262144:=by simp;omega
   have huf:=hfit u hum;rw[<- hrm]at huf;obtain⟨s1,s2,s3,s4,s5,s6⟩:=hsf;obtain⟨m1,m2,m3,m4,m5,m6⟩:=huf
   have hbb:0<=(QF ((l.take i).map Tr.mea)).b/\(QF ((l.take i).map Tr.mea)).b<=262144/\0<=(QF ((l.take i).map Tr.mea)).r/\(QF ((l.take i).map Tr.mea)).r<=262144/\0<=(QF ((l.take i).map Tr.mea)).l/\(QF ((l.take i).map Tr.mea)).l<=262144:=⟨s1,by omega,s3,by omega,s5,by omega⟩
   have hpl:(ZOl A.length rs).length+[AV.ptr A.length rx 0 0 0].length<4294967296:=by simp;omega
   repeat'(first|refine QX Y Y ht1 Z4 ?_|refine ZpO (gA1 _ _ _) (gAr _ _ _) (by omega) hbb ⟨m1,m2,m3,m4,m5,m6⟩ ?_|refine ZE ?_|refine ZD ?_|refine ZG Y ?_|refine ZB Y ?_|refine ZC ?_|(refine cm0 Y Y Y ?_ ?_<;>intro _<;>try omega)|refine ZQ Y ?_|refine Zh Y Y (by omega) ?_|refine Z1 Y Y Y ?_|refine QA Y (Zo _) ?_|refine Qv Y Y (Zo _) ?_|refine YQ Y Y Y (QQ _ _ _) (Qw _ _) Y ?_|refine ZA Y Y (by first|rfl|(simp only[lE,lN,lC,Ze,ZW,ZX];first|done|rfl)) (hS) ?_|refine ZU Y g3 Y Y ?_|refine Zjx Y Y ?_|refine ZhD (ys:=[.ptr A.length rx 0 0 0]) Y Y (ZR3 _ _ []) (gA2 _) hplen Y (Zms _ _ _) hpl (by decide) ?_|refine JG (gA3 _ _) Y Y Y (Ja _ (Nat.lt_succ_self _)) Y ?_|refine ZI ?_|refine ZL ?_|refine Z0 ?_|refine Z8 ?_)
   have hT3:(((L1++[Blk.arr 1 0 [.ptr A.length rx 0 0 0]]).set (L.length+2) (.arr 1 (i+1) (ZOl A.length rs++[.ptr A.length rx 0 0 0]))).set (L.length+3) (.arr 1 0 ([AV.ref A.length (L.length+2) i 0 i].set 0 (.ref A.length (L.length+2) (i+1) 0 (i+[AV.ptr A.length rx 0 0 0].length))))).length=(L1++[Blk.arr 1 0 [.ptr A.length rx 0 0 0]]).length:=by simp
   refine⟨(i+1,_),⟨rfl,rfl⟩,⟨td2,rs++[rx],its++its2,cs++cs2,R++R2,F++F2,hi.step hP hu ha (T:=[Blk.arr 1 0 [.ptr A.length rx 0 0 0]]) (by simp) ?_ ?_ ?_ ?_⟩,by simp only;omega⟩
   ·intro j hj n1 n2 n3
    rw[jS (by omega),jS (by omega),jS (by omega),jL hj]
   ·rw[List.getElem?_set_self (by rw[hT3,lL];omega),ZZ hu,List.map_append,ZIq]
    rw[jC,List.map_nil,QF,QF,Mea.add_zero,<- hrm];rfl
   ·rw[jS (by omega),jS (by omega),List.getElem?_set_self (by rw[lL];omega)]
    simp[ZOl]
   ·rw[jS (by omega),List.getElem?_set_self (by rw[List.length_set,lL];omega)]
    rfl
  ·obtain rfl:i=l.length:=by omega
   have htr:=hi.tr;have g1:=hi.b1;rw[List.take_length]at htr g1;have g0:=hi.b0
   have g2:Li[L.length+2]?=some (.arr 1 rs.length (ZOl A.length rs)):=by rw[hrs];exact hi.b2
   have g3:Li[L.length+3]?=some (.arr 1 0 [.ref A.length (L.length+2) rs.length 0 rs.length]):=by rw[hrs];exact hi.b3
   have hcl:(cls++cs).length<1000000:=by
    have h1:=hi.cl.len;have h2:=htr.cnt;rw[lL];omega
   have hnx:∀j,j<4->¬ YZ ip td1 (L.length+j):=fun j hj q=>by
    rcases hi.plo _ q with w|w
    ·have:=hltL _ w;omega
    ·omega
   obtain⟨L1,td2,hS,hp,hf,hx⟩:=Zp1 hi.pen (rx:=L.length+1) (Cv.two (n:=A.length) L.length (L.length+3)) hcl
   have hnx2:∀j,j<4->¬ YZ ip td2 (L.length+j):=fun j hj q=>by
    rcases hf.own _ q with w|w
    ·exact hnx j hj w
    ·omega
   rw[<- hf.old L.length (by omega) (hnx 0 (by omega))]at g0
   rw[<- hf.old _ (by omega) (hnx 1 (by omega))]at g1
   rw[<- hf.old _ (by omega) (hnx 2 (by omega))]at g2
   rw[<- hf.old _ (by omega) (hnx 3 (by omega))]at g3
   have hkl:∀k∈R.map Prod.fst,L.length+4<=k:=fun k hk=>by
    obtain⟨p,hp,rfl⟩:=List.mem_map.1 hk;exact hi.rlo p hp
   repeat'(first|refine ZE ?_|refine ZD ?_|refine ZG Y ?_|refine ZB Y ?_|refine ZC ?_|(refine cm0 Y Y Y ?_ ?_<;>intro _<;>try omega)|refine ZH Y ?_|refine XY Y Y ?_|refine ZA Y Y Y (hS) ?_|refine ZP ?_|refine Zq ?_|refine ZO ?_|refine Zb ?_|refine Z0 ?_|refine Za Y ?_|refine Zn ?_)
   all_goals try omega
   refine⟨_,_,J9 (.inr Y) Y Y Y Y,L1,td2,L.length+1,its++[⟨L.length+1,.inn (h+1) rs⟩],cs++[clV A.length Li.length (Li.length+2) (Li.length+1)],R++[(L.length+1,⟨0,h+1,QF (l.map Tr.mea)⟩)],
    (F++[(L.length,Blk.arr 7 0 [(Tr.mk 0 (h+1) .zero [] (some l)).av]),(L.length+3,Blk.arr 1 0 [.ref A.length (L.length+2) rs.length 0 rs.length]),(L.length+2,Blk.arr 1 rs.length (ZOl A.length rs))]) ++
     [(Li.length,Blk.arr 1 0 [.ptr A.length ip 0 0 0]),(Li.length+1,Blk.arr 1 0 [.ptr A.length (L.length+1) 0 0 0]),(Li.length+2,Blk.arr 1 0 [.func (.func JP) [] [.ptr A.length L.length 0 0 0,.ptr A.length (L.length+3) 0 0 0]])],rfl,rfl,
    ⟨by rw[<- List.append_assoc];exact hp,hi.frm.trans hf,?_,?_,?_,?_,?_,.inner htr hi.nd (fun q=>by have:=hkl _ q;omega),?_,(hi.fw.append (.cons (by decide) (.cons (by decide) (.cons (by decide) .nil)))).append (.cons (by decide) (.cons (by decide) (.cons (by decide) .nil)))⟩⟩
   ·refine Fx.append (Fx.append (hi.fx.frm hf) (fun p hp=>?_)) hx
    simp only[List.mem_cons,List.not_mem_nil,or_false]at hp
    rcases hp with rfl|rfl|rfl
    ·exact⟨g0,hnx2 0 (by omega)⟩
    ·exact⟨g3,hnx2 3 (by omega)⟩
    ·exact⟨g2,hnx2 2 (by omega)⟩
   ·exact Rx.append (hi.rts.frm hf) (Rx.one g1 (hnx2 1 (by omega)))
   ·intro p hp
    simp only[List.mem_append,List.mem_cons,List.not_mem_nil,or_false]at hp
    rcases hp with (q|rfl|rfl|rfl)|rfl|rfl|rfl
    ·have:=hi.flo p q;omega
    all_goals simp only
    all_goals omega
   ·intro p hp
    simp only[List.mem_append,List.mem_singleton]at hp
    rcases hp with q|rfl
    ·have:=hi.rlo p q;omega
    ·simp only;omega
   ·refine (hi.cl.mono (fun p hp=>by simp[hp])).append (.cons ⟨Li.length,Li.length+2,Li.length+1,.func (.func JP) [] [.ptr A.length L.length 0 0 0,.ptr A.length (L.length+3) 0 0 0],rfl,by simp,by simp,by simp,⟨L.length,L.length+3,L.length+2,Tr.mk 0 (h+1) .zero [] (some l),rfl,rfl,by simp,by simp,by simp⟩⟩ .nil)
   ·rw[List.map_append,List.nodup_append]
    refine⟨hi.nd,by simp,?_⟩
    intro x hx y hy e;simp only[jC,List.map_nil,List.mem_singleton]at hy
    have:=hkl x hx
    omega
 obtain⟨v,st',h1,L',td',rx,its,cs,R,F,rfl,rfl,h2⟩:=hmain;exact⟨L',td',rx,its,cs,R,F,h1,h2⟩
theorem ZrO{N:ZJ}(hv:Val N t):t.bytes<=65536->∀ {L:List Blk} {ip:Nat} {a td:AV} {cls:LV},Pen A L ip a td cls->cls.length+t.cnt<1000000 ->
 ∃L' td' rx its cs R F,S Tb Qo [.ptr A.length ip 0 0 0,t.av] ⟨A,false,L⟩=some (.ptr A.length rx 0 0 0,⟨A,false,L'⟩)/\Added A L ip a td cls t L' td' rx its cs R F:=by
 induction hv with
 | @kept o h m k x h0 hx hok hh hm hk=>intro _ L ip a td cls hP hc;exact Zmq hP h0 hk
 | @leaf s k h1 h2 hk=>intro _ L ip a td cls hP hc;exact Zmr hP (by omega) ⟨h1,h2⟩ hk
 | @inner h l hh h2 h4 hl hb hv ih =>
  intro hb2 L ip a td cls hP hc
  have hbs:∀u∈l,u.bytes<=65536:=fun u hu=>by
   obtain⟨i,hi,rfl⟩:=List.getElem_of_mem hu
   have h3:Tr.bytesL l=Tr.bytesL (l.take i)+(l[i].bytes+Tr.bytesL (l.drop (i+1))):=by
    conv=>lhs;rw[<- List.take_append_drop (i+1) l,ZZ (jE hi),Tr.bytesL_append,Tr.bytesL_append]
    simp[Tr.bytesL];omega
   have n1:=Tr.bytesL_nonneg (l:=l.take i) (fun t ht=>by have:=(hv t (List.mem_of_mem_take ht)).pos.2;omega)
   have n2:=Tr.bytesL_nonneg (l:=l.drop (i+1)) (fun t ht=>by have:=(hv t (List.mem_of_mem_drop ht)).pos.2;omega)
   rw[Tr.bytes,Tr.bytesO]at hb2
   simp[Mea.zero]at hb2
   omega
  exact ZqZ (fun u hu=>ih u hu (hbs u hu)) ⟨by omega,h4⟩ (fun u hu=>(hv u hu).mea_fit (hbs u hu)) (by omega) hP hc
theorem ZpQ{s:B8}(h:st.get n xb=some (.arr 3 0 [.agg [.int .i64 0,.str s,.nils]])):S Tb Js [.ptr n xb 0 0 0] st=some (Nd.av ⟨0,s,none⟩,st):=by
 refine QN Y (fun A hA=>?_)
 have g:=fun L=>ZS hA (ro:=false) (L:=L) h
 repeat'(first|refine ZE ?_|refine ZD ?_|refine ZB Y ?_|refine ZC ?_|refine Zi Y Y Y ?_|refine Zv Y Y Y Y Y Y ?_|refine QB Y (g _) Y Y ?_|refine ZP ?_|refine ZO ?_)
 refine ZAA hA (by simp) Y Y Y Y Y ?_
 rfl
theorem ZZt(n b:Nat)(st:St):∀l:List Kid,mapSt (ZY (n+2) b) st (l.map Kid.av)=some (l.map Kid.av,st)
 | []=>rfl
 | k::l=>by
  rw[jC,mapSt]
  show ((some (k.av,st)).bind fun r=>(mapSt (ZY (n+2) b) r.2 (l.map Kid.av)).bind (Y1 r.1))=_
  rw[oS,ZZt n b st l];rfl
theorem Zmt{b lv q:Nat}{h:Int}{s:B8}(st:St)(hl:lv<b):ZY QD b st (.agg [.int .i64 h,.str s,.ref lv ix ver q n])=some (.agg [.int .i64 h,.str s,.ref lv ix ver q n],st):=by
 show (mapSt (keepN (ZY 5 b)) _ _).bind ZJO=_
 simp only[mapSt,keepN,Xq,jB,if_false,ZY,oS,if_pos hl,Y1,ZJO]
theorem Zqa{L:List Blk}{l:List Kid}{h:Int}{s:B8}(hg:L[ix]?=some (.arr 4 ver (l.map Kid.av)))(hn:n=l.length):
 ZY QD A.length ⟨A,false,L⟩ (.agg [.int .i64 h,.str s,.ref A.length ix ver 0 n])=some (.agg [.int .i64 h,.str s,.lit (l.map Kid.av)],⟨A,false,L.set ix .dead⟩):=by
 subst hn
 have h1:=ZJD (n:=4) (A:=A) (s:=0) (m:=l.length) hg (by simp) (es':=l.map Kid.av) (by rw[List.drop_zero,List.take_of_length_le (by simp)];exact ZZt 2 0 _ l)
 show (mapSt (keepN (ZY 5 A.length)) _ _).bind ZJO=_
 simp only[mapSt,keepN,Xq,jB,if_false,ZY,oS]at h1 ⊢;rw[h1];simp only[oS,Y1,ZJO]
def kgV(lv kx:Nat):Nat->AV
 | 0=>.nils
 | i+1=>.ref lv kx i 0 (i+1)
def kgB(ks:List Kid):Nat->List Blk
 | 0=>[]
 | i+1=>[.arr 4 i ((ks.take (i+1)).map Kid.av)]
def Ro.kid(r:Ro):Kid:=⟨r.at_,r.m⟩
theorem ZpR{tb kb kx:Nat}{rs:List Nat}{ρ:Nat->Ro}(h1:st.get n tb=some (.arr 7 0 [t.av]))(h2:st.get n kb=some (.arr 1 0 [.ref n kx rs.length 0 rs.length]))(h3:st.get n kx=some (.arr 1 rs.length (ZOl n rs)))(h4:∀r∈rs,st.get n r=some (.arr 5 0 [(ρ r).av]))
 (hl:1<=rs.length/\rs.length<=4):S Tb JP [.ptr n tb 0 0 0,.ptr n kb 0 0 0] st=some (Nd.av ⟨t.h,[],some (rs.map fun r=>(ρ r).kid)⟩,st):=by
 refine QN Y (fun A hA=>?_)
 have g1:=fun L=>ZS hA (ro:=false) (L:=L) h1
 have g2:=fun L=>ZS hA (ro:=false) (L:=L) h2
 have g3:=fun L=>ZS hA (ro:=false) (L:=L) h3
 obtain⟨ks,hks⟩:∃ks,ks=rs.map fun r=>(ρ r).kid:=⟨_,rfl⟩
 rw[<- hks]
 have hkl:ks.length=rs.length:=by rw[hks,List.length_map]
 have hwi:∀L,wIs 1 rs.length (St.get ⟨A,false,L⟩ n kx)=true:=fun L=>by rw[g3];simp[wIs]
 repeat'(first|refine ZE ?_|refine ZD ?_|refine ZG Y ?_|refine ZV Y Y ?_|refine ZB Y ?_|refine ZC ?_|refine Jp Y ?_|refine Zx Y Y Y ?_|refine Zi Y Y Y ?_|refine Zv Y Y Y Y Y Y ?_|refine QB Y (g1 _) Y (XE _) ?_|refine QB Y (g2 _) Y Y ?_|refine ZL ?_)
 refine Zy (α:=Nat) (fun i=>[(2,.ptr A.length 0 0 0 0),(3,.ptr A.length 1 0 0 0),(9,.ref n kx rs.length 0 rs.length),(10,.int .i64 rs.length),(11,.int .i64 i)])
  (fun i=>⟨A,false,[.arr 3 0 [.agg [.int .i64 0,.str [],.nils]],.arr 3 0 [.agg [.int .i64 t.h,.str [],kgV A.length 2 i]]]++kgB ks i⟩) (fun i=>i<=rs.length) (fun i=>rs.length-i) 0 rfl rfl (Nat.zero_le _) ?_
 intro i hi;replace hi:i<=rs.length:=hi
 rcases Nat.lt_or_ge i rs.length with hlt|hge
 ·obtain⟨r,hr⟩:∃r,rs[i]?=some r:=⟨rs[i]'hlt,by simp[hlt]⟩
  have g4:=fun L=>ZS hA (ro:=false) (L:=L) (h4 r (jM hr))
  have hp:(ZOl n rs)[0+((i:Nat):Int).toNat]?=some (.ptr n r 0 0 0):=by
   rw[show 0+((i:Nat):Int).toNat=i by omega,ZOl,jG,hr];rfl
  have hki:ks[i]?=some (ρ r).kid:=by rw[hks,jG,hr];rfl
  have htk:=ZZ hki;unfold Ro.av at g4
  cases i with
  | zero =>
   simp only[kgV,kgB]
   repeat'(first|refine ZE ?_|refine ZD ?_|refine ZG Y ?_|refine ZV Y Y ?_|refine ZU Y Y Y Y ?_|refine ZB Y ?_|refine ZC ?_|refine Z7 Y Y ?_|(refine cm0 Y Y Y ?_ ?_<;>intro _<;>try omega)|refine ZQ Y ?_|refine Zh Y Y (by omega) ?_|refine Zx Y Y Y ?_|refine Zv Y Y Y (Ja _ (Nat.lt_succ_self _)) Y Y ?_|refine ZBT Y Y (by omega) (hwi _) ?_|refine QB Y (g3 _) hp Y ?_|refine QB Y (g4 _) Y Y ?_|refine ZfU Y Y Y ?_|refine ZGB Y Y Y (by simp) (by decide) Y ?_|refine ZI ?_|refine ZL ?_|refine Z0 ?_|refine Z8 ?_)
   refine⟨0+1,⟨rfl,?_⟩,by omega,by omega⟩
   simp only[kgB,htk];rfl
  | succ i =>
   simp only[kgV,kgB]
   have hl2:∀x:AV,((ks.take (i+1)).map Kid.av).length+[x].length<4294967296:=fun x=>by simp;omega
   have hn2:i+1=((ks.take (i+1)).map Kid.av).length:=by simp;omega
   repeat'(first|refine ZAa Y Y Y hn2 Y Y (hl2 _) (by decide) ?_|refine ZE ?_|refine ZD ?_|refine ZG Y ?_|refine ZV Y Y ?_|refine ZU Y Y Y Y ?_|refine ZB Y ?_|refine ZC ?_|refine Z7 Y Y ?_|(refine cm0 Y Y Y ?_ ?_<;>intro _<;>try omega)|refine ZQ Y ?_|refine Zh Y Y (by omega) ?_|refine Zx Y Y Y ?_|refine Zv Y Y Y (Ja _ (Nat.lt_succ_self _)) Y Y ?_|refine ZBT Y Y (by omega) (hwi _) ?_|refine QB Y (g3 _) hp Y ?_|refine QB Y (g4 _) Y Y ?_|refine ZfU Y Y Y ?_|refine ZI ?_|refine ZL ?_|refine Z0 ?_|refine Z8 ?_)
   refine⟨i+1+1,⟨rfl,?_⟩,by omega,by omega⟩
   simp only[kgB,htk,List.map_append];rfl
 ·obtain rfl:i=rs.length:=by omega
  obtain⟨m,hm⟩:∃m,rs.length=m+1:=⟨rs.length-1,by omega⟩
  have htk:ks.take (m+1)=ks:=List.take_of_length_le (by omega)
  rw[hm];simp only[kgV,kgB,htk]
  repeat'(first|refine ZE ?_|refine ZD ?_|refine ZU Y Y Y Y ?_|refine ZB Y ?_|refine ZC ?_|(refine cm0 Y Y Y ?_ ?_<;>intro _<;>try omega)|refine ZH Y ?_|refine Zv Y Y Y (Zmt _ (Nat.lt_succ_self _)) Y Y ?_|refine ZP ?_|refine Zq ?_|refine ZO ?_|refine Zb ?_|refine Za Y ?_|refine Zn ?_)
  all_goals try omega
  refine ZAA hA (.inr Y) Y Y Y (Zqa (l:=ks) Y (by omega)) Y ?_
  rfl
def Q5(ρ:Nat->Ro):ItC->Nd
 | .leaf s=>⟨0,s,none⟩
 | .inn h ks=>⟨h,[],some (ks.map fun k=>(ρ k).kid)⟩
def Ziz:ItC->List Nat
 | .leaf _=>[]
 | .inn _ ks=>ks
theorem ZpS(x:Nd):weak x.av=x.av:=by
 obtain⟨h,s,k⟩:=x
 cases k<;>rfl
theorem wkPN(h:weak a=a)(x:Nd):ZX (Ze ([]++[a,x.av]++[]))=some [a,x.av]:=by
 simp only[lE,lN,lC,Ze,ZpS,ZX,h]
theorem Zk8{ρ:Nat->Ro}{c:ItC}(h:NdOk (Q5 ρ c)):((Q5 ρ c).h=0->(Q5 ρ c).kids=none)/\∀hh ks,c=.inn hh ks->1<=ks.length/\ks.length<=4:=by
 cases c with
 | leaf s=>exact⟨fun _=>rfl,fun hh ks q=>by simp at q⟩
 | inn hh ks =>
  rcases h with q|⟨n,l,q⟩
  ·have:=q.lo;simp[Q5]at this
  ·have e:=q.eq
   have h1:=q.lo;have h2:=q.hi;simp only[Q5,Nd.mk.injEq,oJ]at e;obtain⟨e1,_,e3⟩:=e
   refine⟨fun w=>by simp[Q5]at w;omega,fun hh' ks' q2=>?_⟩
   simp only[ItC.inn.injEq]at q2;obtain⟨rfl,rfl⟩:=q2;rw[<- e3,List.length_map]at h1 h2;omega
theorem Zk9{F:List (Nat × Blk)}{ρ:Nat->Ro}{c:ItC}(hcv:CvOk n F cv c)(hF:∀p∈F,st.get n p.1=some p.2)(hR:∀r∈Ziz c,st.get n r=some (.arr 5 0 [(ρ r).av]))(hl:∀h ks,c=.inn h ks->1<=ks.length/\ks.length<=4):
 S Tb (match cv with|.func (.func g) _ _=>g|_=>0) (match cv with|.func _ _ cap=>cap|_=>[]) st=some ((Q5 ρ c).av,st):=by
 cases c with
 | leaf s =>
  obtain⟨xb,rfl,h2⟩:=hcv;exact ZpQ (hF _ h2)
 | inn h ks =>
  obtain⟨tb,kb,kx,t,rfl,h2,h3,h4,h5⟩:=hcv;subst h2;exact ZpR (hF _ h3) (hF _ h4) (hF _ h5) hR (hl _ _ Y)
theorem CvOk.form{F:List (Nat × Blk)}{c:ItC}(h:CvOk n F cv c):Cv n cv:=by
 cases c with
 | leaf s=>obtain⟨xb,rfl,_⟩:=h;exact .one _
 | inn h ks=>obtain⟨tb,kb,kx,t,rfl,_⟩:=h;exact .two _ _
def Ro.wr(r:Ro)(h:Nat):Ro:=⟨h,r.h,r.m⟩
theorem ZpT{la b b0 b1 b2:Nat}{rp:AV}{r:AR}{F:List (Nat × Blk)}{ρ:Nat->Ro}{it:It}(hb0:st.get n b0=some (.arr 1 0 [.ptr n ip 0 0 0]))(hb1:st.get n b1=some (.arr 1 0 [cv]))(hb2:st.get n b2=some (.arr 1 0 [.ptr n it.rx 0 0 0]))
 (hip:st.get n ip=some (.arr 3 0 [.agg [.ptr la (b+5) 0 0 0,td,rp]])) (hcv:CvOk n F cv it.c) (hF:∀p∈F,st.get n p.1=some p.2) (hR:∀k∈Ziz it.c,st.get n k=some (.arr 5 0 [(ρ k).av])) (hrx:st.get n it.rx=some (.arr 5 0 [(ρ it.rx).av]))
 (hA:Has st la b r) (ho:AROk r) (hn:0<r.n) (hx:NdOk (Q5 ρ it.c)) (hL:∀k∈(Q5 ρ it.c).ks,∃y,lk r.nodes k.at_=some y/\NdOk y/\y.h+1=(Q5 ρ it.c).h/\y.mea=k.m) (hw:st.wr n)
 (hs:∀i,i=it.rx\/i=b2->¬ (n=la/\b<=i/\i<=b+5)) :
 S Tb XO [.ptr n b0 0 0 0,.ptr n b1 0 0 0,.ptr n b2 0 0 0] st=some (.tup [.int .u64 r.next,.int .i64 0],(Qg st la b (r.add (Q5 ρ it.c))).upd n it.rx (.arr 5 0 [((ρ it.rx).wr r.next).av])):=by
 obtain⟨hk0,hk4⟩:=Zk8 hx
 refine ZBe Y (fun A hA'=>?_)
 have g0:=fun L=>ZS hA' (ro:=false) (L:=L) hb0
 have g1:=fun L=>ZS hA' (ro:=false) (L:=L) hb1
 have g2:=fun L=>ZS hA' (ro:=false) (L:=L) hb2
 have g3:=fun L=>ZS hA' (ro:=false) (L:=L) hip
 have hC:=fun L=>Zk9 (st:=St.allRo ⟨A,false,L⟩) (ρ:=ρ) hcv (fun p hp=>by rw[Qa];exact ZS hA' (hF p hp)) (fun k hk=>by rw[Qa];exact ZS hA' (hR k hk)) hk4
 have hAl:=fun L=>Zmp (hA.push hA' (ro:=false) (L:=L)) ho hn hx hk0 hL
 have hle:=hA.le;have hP:=hA.put (r.add (Q5 ρ it.c));have hw1:(Qg st la b (r.add (Q5 ρ it.c))).wr n:=ZOW hA.cl.wr hw
 have hg2:(Qg st la b (r.add (Q5 ρ it.c))).get n b2=some (.arr 1 0 [.ptr n it.rx 0 0 0]):=by rw[hA.out _ (hs _ (.inr rfl))];exact hb2
 have hgr:(Qg st la b (r.add (Q5 ρ it.c))).get n it.rx=some (.arr 5 0 [(ρ it.rx).av]):=by rw[hA.out _ (hs _ (.inl rfl))];exact hrx
 cases hcv.form
 all_goals simp only at hC
 all_goals repeat'(first|refine ZA Y Y (wkPN Y _) (hAl _) ?_|refine ZE ?_|refine ZD ?_|refine ZG Y ?_|refine ZV Y Y ?_|refine Zw Y Y ?_|refine ZB Y ?_|refine ZC ?_|refine Z7 Y Y ?_|(refine cm0 Y Y Y ?_ ?_<;>intro _<;>try omega)|refine ZQ Y ?_|refine QB Y (g0 _) Y Y ?_|refine QB Y (g1 _) Y Y ?_|refine QB Y (g3 _) Y Y ?_|refine JX Y Y Y (hC _) ?_)
 all_goals rw[ZAy hA' hle]
 all_goals obtain⟨A1,hA1⟩:∃A1,A1=(Qg st la b (r.add (Q5 ρ it.c))).ps:=⟨_,rfl⟩
 all_goals rw[<- hA1]
 all_goals generalize Qg st la b (r.add (Q5 ρ it.c))=st1 at *
 all_goals have q2:=fun L=>ZS hA1 (ro:=false) (L:=L) hg2
 all_goals repeat'(first|refine ZG Y ?_|refine ZV Y Y ?_|refine Z7 Y Y ?_|refine QB Y (q2 _) Y Y ?_)
 all_goals refine is_stP hA1 Y Y hw1 hgr Y Y Y (fun A2 hA2=>?_)
 all_goals repeat'(first|refine ZE ?_|refine ZD ?_|refine ZG Y ?_|refine ZB Y ?_|refine ZC ?_|refine ZP ?_|refine ZO ?_)
 all_goals refine Zj hA2 (.inr Y) Y Y Y Y ?_
 all_goals rfl
theorem Zqb{la b b0 b1 b2 tx:Nat}{rp cv cl:AV}{r:AR}{F:List (Nat × Blk)}{ρ:Nat->Ro}{it:It}(htd:st.get n tx=some (.arr 1 ver cls))(hj:cls[j]?=some cl)(hcl:ClOk n ip F cl it)(hlen:cls.length<1000000)
 (hip:st.get n ip=some (.arr 3 0 [.agg [.ptr la (b+5) 0 0 0,.ref n tx ver j (cls.length-j),rp]])) (hF:∀p∈F,st.get n p.1=some p.2) (hR:∀k∈Ziz it.c,st.get n k=some (.arr 5 0 [(ρ k).av])) (hrx:st.get n it.rx=some (.arr 5 0 [(ρ it.rx).av]))
 (hA:Has st la b r) (ho:AROk r) (hn:0<r.n) (hx:NdOk (Q5 ρ it.c)) (hL:∀k∈(Q5 ρ it.c).ks,∃y,lk r.nodes k.at_=some y/\NdOk y/\y.h+1=(Q5 ρ it.c).h/\y.mea=k.m) (hw:st.wr n)
 (hs:∀i,i=it.rx\/i=ip\/i=tx\/(∃p∈F,i=p.1)->¬ (n=la/\b<=i/\i<=b+5)) (hne:it.rx≠ip/\it.rx≠tx/\tx≠ip) :
 S Tb Xm [.ptr n ip 0 0 0] st=some (.tup [.int .u64 r.next,.bool (decide (cls.length=j+1)),.int .i64 0],
  ((Qg st la b (r.add (Q5 ρ it.c))).upd n it.rx (.arr 5 0 [((ρ it.rx).wr r.next).av])).upd n ip (.arr 3 0 [.agg [.ptr la (b+5) 0 0 0,.ref n tx ver (j+1) (cls.length-j-1),rp]])):=by
 obtain⟨b0,b1,b2,cv,rfl,h0,h1,h2,hcv⟩:=hcl;have hjl:=(List.getElem?_eq_some_iff.1 hj).1
 refine ZBe Y (fun A hA'=>?_)
 have g3:=fun L=>ZS hA' (ro:=false) (L:=L) hip
 have gt:=fun L=>ZS hA' (ro:=false) (L:=L) htd
 have hwi:∀L,wIs 1 ver (St.get ⟨A,false,L⟩ n tx)=true:=fun L=>by rw[gt];simp[wIs]
 have hle:=hA.le;have hnl:n<=st.A.length:=St.get_le hip;have hP:=hA.put (r.add (Q5 ρ it.c));have hw1:(Qg st la b (r.add (Q5 ρ it.c))).wr n:=ZOW hA.cl.wr hw;have hp1:=hs ip (.inr (.inl rfl));have hp2:=hs tx (.inr (.inr (.inl rfl)));have hp3:=hs it.rx (.inl rfl);have k1:(Qg st la b (r.add (Q5 ρ it.c))).get n it.rx=_:=(hA.out _ hp3).trans hrx;have k2:(Qg st la b (r.add (Q5 ρ it.c))).get n ip=_:=(hA.out _ hp1).trans hip;have k3:(Qg st la b (r.add (Q5 ρ it.c))).get n tx=_:=(hA.out _ hp2).trans htd
 have hput:=fun L=>ZpT (st:=⟨A,false,L⟩) (ρ:=ρ) (ZS hA' (hF _ h0)) (ZS hA' (hF _ h1)) (ZS hA' (hF _ h2)) (g3 L) hcv (fun p hp=>ZS hA' (hF p hp)) (fun k hk=>ZS hA' (hR k hk)) (ZS hA' hrx) (hA.push hA' (ro:=false) (L:=L)) ho hn hx hL (XK hA' hnl hw)
  (fun i hi=>by
   rcases hi with rfl|rfl
   ·exact hp3
   ·exact hs _ (.inr (.inr (.inr ⟨_,h2,rfl⟩))))
 have e1:∀L,(Qg ⟨A,false,L⟩ la b (r.add (Q5 ρ it.c))).upd n it.rx (.arr 5 0 [((ρ it.rx).wr r.next).av])=⟨((Qg st la b (r.add (Q5 ρ it.c))).upd n it.rx (.arr 5 0 [((ρ it.rx).wr r.next).av])).ps,false,L⟩:=fun L=>by
  rw[ZAy hA' hle]
  exact Ji Y (by rw[ZGA];exact hnl)
 simp only[e1]at hput;clear e1
 have m1:∀l' i',((Qg st la b (r.add (Q5 ρ it.c))).upd n it.rx (.arr 5 0 [((ρ it.rx).wr r.next).av])).get l' i'=if l'=n/\i'=it.rx then some (.arr 5 0 [((ρ it.rx).wr r.next).av]) else (Qg st la b (r.add (Q5 ρ it.c))).get l' i':=fun l' i'=>St.get_upd k1 rfl
 have n2:=(m1 n ip).trans ((if_neg (fun q=>hne.1 q.2.symm)).trans k2)
 have n3:=(m1 n tx).trans ((if_neg (fun q=>hne.2.1 q.2.symm)).trans k3)
 have hw2:((Qg st la b (r.add (Q5 ρ it.c))).upd n it.rx (.arr 5 0 [((ρ it.rx).wr r.next).av])).wr n:=St.wr_upd hw1 hw1;clear m1 k1 k2 k3
 generalize (Qg st la b (r.add (Q5 ρ it.c))).upd n it.rx (.arr 5 0 [((ρ it.rx).wr r.next).av])=st1 at *
 have hj2:cls[j+((0:Nat):Int).toNat]?=some (clV n b0 b1 b2):=by simpa using hj
 unfold clV at hj2
 repeat'(first|refine ZE ?_|refine ZD ?_|refine ZG Y ?_|refine ZV Y Y ?_|refine ZB Y ?_|refine ZC ?_|refine Z7 Y Y ?_|refine Jp Y ?_|(refine cm0 Y Y Y ?_ ?_<;>intro _<;>try omega)|refine ZH Y ?_|refine JN Y Y Y Y ?_|refine QB Y (g3 _) Y Y ?_|refine ZBT Y Y (by omega) (hwi _) ?_|refine QB Y (gt _) hj2 Y ?_|refine ZI ?_)
 all_goals try omega
 refine ZA Y Y Y (hput _) ?_;obtain⟨A1,hA1⟩:∃A1,A1=st1.ps:=⟨_,rfl⟩;rw[<- hA1]
 have q2:=fun L=>ZS hA1 (ro:=false) (L:=L) n2
 have q3:=fun L=>ZS hA1 (ro:=false) (L:=L) n3
 have hwi1:∀L,wIs 1 ver (St.get ⟨A1,false,L⟩ n tx)=true:=fun L=>by rw[q3];simp[wIs]
 repeat'(first|refine ZE ?_|refine ZD ?_|refine ZG Y ?_|refine ZV Y Y ?_|refine Zw Y Y ?_|refine ZB Y ?_|refine ZC ?_|refine Z7 Y Y ?_|(refine cm0 Y Y Y ?_ ?_<;>intro _<;>try omega)|refine ZH Y ?_|refine QB Y (q2 _) Y Y ?_|refine ZKa Y Y (by omega) (hwi1 _) ?_|refine ZI ?_)
 all_goals try contradiction
 refine is_stP hA1 Y Y hw2 n2 Y (Ja _ (Nat.lt_succ_self _)) Y (fun A2 hA2=>?_)
 have eB:Blk.arr 3 0 ([AV.agg [.ptr la (b+5) 0 0 0,.ref n tx ver j (cls.length-j),rp]].set 0 (.agg [.ptr la (b+5) 0 0 0,.ref n tx ver (j+(1:Int).toNat) (cls.length-j-(1:Int).toNat),rp]))=Blk.arr 3 0 [.agg [.ptr la (b+5) 0 0 0,.ref n tx ver (j+1) (cls.length-j-1),rp]]:=rfl;rw[eB]at hA2;have r2:(st1.upd n ip (Blk.arr 3 0 [.agg [.ptr la (b+5) 0 0 0,.ref n tx ver (j+1) (cls.length-j-1),rp]])).get n ip=_:=(St.get_upd n2 rfl).trans (if_pos ⟨rfl,rfl⟩)
 have p2:=fun L=>ZS hA2 (ro:=false) (L:=L) r2
 repeat'(first|refine ZE ?_|refine ZD ?_|refine ZG Y ?_|refine ZV Y Y ?_|refine ZB Y ?_|refine ZC ?_|refine Z7 Y Y ?_|refine Jp Y ?_|(refine cm0 Y Y Y ?_ ?_<;>intro _<;>try omega)|refine QB Y (p2 _) Y Y ?_|refine ZP ?_|refine ZO ?_)
 ·rename_i hz
  rw[decide_eq_true (show cls.length=j+1 by omega)]
  exact Zj hA2 (.inr Y) Y Y Y Y Y
 ·rename_i hz
  rw[decide_eq_false (show ¬ cls.length=j+1 by omega)]
  exact Zj hA2 (.inr Y) Y Y Y Y Y
end Go.Q15
