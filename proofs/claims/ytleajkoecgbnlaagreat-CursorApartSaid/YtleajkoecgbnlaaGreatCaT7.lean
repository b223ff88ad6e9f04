/- A part of the proof: M12, M13, M16, M2b, M19, PB, M14, M20, M21, M15, MW, RA, W5, M1b, RB, W6, M42, M17, RC, RD, RE, RF, RG, RH. No condition. -/
import Derived.Test.YtleajkoecgbnlaaGreatCaT6
set_option linter.unusedVariables false
set_option linter.unusedSimpArgs false
set_option maxHeartbeats 8000000
set_option maxRecDepth 100000
namespace Go.Q15
open Go Go.QAbs
section
variable {O:Orc}{k:List Fr}{Q:Jh}{e:Env}{A:List (Bool × List Blk)}{L:List Blk}{keep:List Nat}{is:List PI}{d:Nat}
theorem ZF8{a b:Opd}{agg:Bool}{n ix ver i o jx vb ib ob w:Nat}{es:LV}{x v:AV}(ha:Zg e a=some (.ptr A.length ix ver i o))(hb:Zg e b=some (.ptr A.length jx vb ib ob))(hne:Nat.beq ix jx=false)
 (hg:L[ix]?=some (Blk.arr w ver es)) (hx:es[i]?=some x) (hv:Jk x agg o n=some v) (h:Is O is keep k Q ((d,v)::e) ⟨A,false,L⟩):Is O (⟨some d,none,false,.w (.hide [b]) (.ld agg n a)⟩::is) keep k Q e ⟨A,false,L⟩:=by
 refine Zkn ?_ h
 have hp:ZAL (Xw e [b]) A.length ix=false:=by
  have hxy:ix≠jx:=fun q=>by subst q;simp at hne
  simp[ZAL,Xw,ZJ hb,ZBN,hxy]
 have hgt:(St.hide (ZAL (Xw e [b])) ⟨A,false,L⟩).get A.length ix=some (Blk.arr w ver es):=by
  rw[ZBQ,hp,St.get_cur,hg];rfl
 simp only[QF,PO.reads,if_true,evalPO,ZJ ha,loadP,hgt,ZE4,hx,hv,oS,Qv,Qd]
theorem ZIB{a x:Opd}{n ix ver i o w:Nat}{es:LV}{v v' y:AV}(hg:L[ix]?=some (Blk.arr w ver es))(ha:Zg e a=some (.ptr A.length ix ver i o))(hx:Zg e x=some v)(hy:es[i]?=some y)(him:imm 6 v=true)
 (hs:ZY QO (A.length+1) ⟨A,false,L⟩ v=some (v,⟨A,false,L⟩)) (hv:(JU w y o n v).bind YS=some v') (h:Is O is keep k Q e ⟨A,false,L.set ix (Blk.arr w ver (es.set i v'))⟩):Is O (⟨none,none,false,.w (.plain a) (.st n a x)⟩::is) keep k Q e ⟨A,false,L⟩:=by
 have hlt:ix<L.length:=by
  rw[List.getElem?_eq_some_iff]at hg;exact hg.1
 have hv':JU w y o n v=some v':=by
  simp only[oB]at hv;obtain⟨u,h1,h2⟩:=hv;rw[h1,XA h2]
 refine Z4 (od:=none) (v:=.undef) (st':=⟨A,false,L.set ix (Blk.arr w ver (es.set i v'))⟩) ?_ h
 have hsb:ZGJ (.ptr A.length ix ver i o) (.ptr A.length ix ver i o)=true:=by simp[ZGJ]
 simp only[Zl,QF,ZMC,ZJ ha,ZJ hx,hsb,him,and_self,if_true];simp only[evalPO,ZJ ha,ZJ hx,ZBi,hs,oS,ZGI,St.get_cur,hg,vis,Xv,if_true,hy,hv',St.put,if_false,jB,if_pos hlt,ZCG]
end
theorem ZIC{e:Env}{A:List (Bool × List Blk)}{st:St}{L:List Blk}{x:Ex}{b b2 c ix ver w ix2 ver2 w2:Nat}{t t2:Tr}{k:IntKind}{n:Int}{u:AV}(hA:A=st.A++[(st.ro,st.L)])(hx:x=.norm\/x=.ret)(ht:Jx e b=some (.ptr A.length ix ver 0 0))(hg:L[ix]?=some (.arr w ver [t.av]))
 (ht2:Jx e b2=some (.ptr A.length ix2 ver2 0 0)) (hg2:L[ix2]?=some (.arr w2 ver2 [t2.av])) (hc:Jx e c=some (.int k n)) (hu:.tup [t.av,t2.av,.int k n]=u):Jm false [.c b true 7,.c b2 true 7,.s c] (x,e,⟨A,false,L⟩)=some (u,st):=by
 subst hu;refine ZC2 (v:=.tup [t.av,t2.av,.int k n]) (ro:=false) (L':=L) hA hx ?_ ?_ Y
 ·simp only[Qk,ZDz,ZKv ht hg,ZKv ht2 hg2,oS]
  simp only[ZAo,QQ hc,oS,Option.map_some,ZE5]
 ·show (mapSt (ZY 5 A.length) _ _).bind Zcy=_
  rw[mapSt,ZP3 3,oS,mapSt,ZP3 3];rfl
theorem Zuv{N:ZO}(hN:GoodN N):∀(n:Nat) {st:St} {lv ix:Nat} (hr:Rd st lv ix N) {t:Tr} (ht:VE N t) (hn:t.h=n) (a:Int) (h0:0<=a) (h1:a<=t.bytes) (hb:t.bytes<=65536),
 S Tb ZA6 [.ptr lv ix 0 0 0,t.av,.int .i64 a] st=some (.tup [(ZB6 N n t a).1.av,(ZB6 N n t a).2.av,.int .i64 0],st):=by
 intro n
 induction n with
 | zero =>
  intro st lv ix hr t ht hn a h0 h1 hb
  refine QA Y (fun A hA=>?_)
  have hrp:=fun L=>hr.push hA (ro:=false) (L:=L)
  have hB:=fun st=>ZCe t ht.pos.1 (by omega) st
  rw[ZB6]
  by_cases ha:a=0
  ·rw[if_pos ha]
   repeat'(first|refine ZE ?_|refine ZD ?_|refine ZG Y ?_|refine ZB Y ?_|refine ZC ?_|(refine cm0 Y Y Y ?_ ?_<;>intro _<;>try omega)|refine ZU Y ?_|refine Zn Y Y Y ?_|refine Zc Y Y Y ?_|refine Zy Y Y Y (Qn _ _ _) (JR _ _) Y ?_|refine Zw Y (QI _) (Qc _) ?_|refine ZF8 Y Y Y Y Y (Z0 _) ?_|refine ZIB Y Y Y Y Y Y Y ?_|refine ZP ?_|refine ZL ?_|refine ZW ?_)
   all_goals try omega
   exact ZIC (t:=.zero) hA (.inr Y) Y Y Y Y Y Y
  ·rw[if_neg ha]
   by_cases ha2:a=t.bytes
   ·rw[if_pos ha2]
    repeat'(first|refine ZE ?_|refine ZD ?_|refine ZG Y ?_|refine ZB Y ?_|refine ZC ?_|(refine cm0 Y Y Y ?_ ?_<;>intro _<;>try omega)|refine ZU Y ?_|refine ZF Y ?_|refine Zn Y Y Y ?_|refine Zc Y Y Y ?_|refine Zy Y Y Y Y Y Y ?_|refine ZQ Y Y Y (Z0 _) ?_|refine Zy Y Y Y (Qn _ _ _) (JR _ _) Y ?_|refine Zw Y (QI _) (Qc _) ?_|refine ZA Y Y (by first|rfl|(simp only[lE,lN,lC,Zm,Zb,ZZ];first|done|rfl)) (hB _) ?_|refine ZH ?_|refine ZP ?_|refine ZL ?_|refine ZW ?_)
    all_goals try omega
    exact ZIC (t2:=.zero) hA (.inr Y) Y Y Y Y Y Y
   ·rw[if_neg ha2]
    have hv:=ht.val (by omega)
    have hl:=hv.line hn
    have hL:=fun L=>Zmd (hrp L) hv
    have hC:=fun st=>ZwD (Q8 N t) a st
    rw[<- Zns hl.2 (by omega)]at hC
    generalize Q8 N t=s at *
    repeat'(first|refine ZE ?_|refine ZD ?_|refine ZG Y ?_|refine ZI Y Y ?_|refine Zp Y Y ?_|refine ZB Y ?_|refine ZC ?_|(refine cm0 Y Y Y ?_ ?_<;>intro _<;>try omega)|(refine cm0 Y Y Y ?_ ?_<;>intro _<;>try omega)|refine ZU Y ?_|refine ZF Y ?_|refine Zn Y Y Y ?_|refine Zc Y Y Y ?_|refine Zy Y Y Y Y Y Y ?_|refine ZQ Y Y Y (Z0 _) ?_|refine Zw Y (QI _) (Qc _) ?_|refine ZQ Y Y Y (ZAh _) ?_|refine ZA Y Y (by first|rfl|(simp only[lE,lN,lC,Zm,Zb,ZZ];first|done|rfl)) (hB _) ?_|refine ZA Y Y (by first|rfl|(simp only[lE,lN,lC,Zm,Zb,ZZ];first|done|rfl)) (hL _) ?_|refine ZA Y Y (by first|rfl|(simp only[lE,lN,lC,Zm,Zb,ZZ];first|done|rfl)) (hC _) ?_|refine ZH ?_|refine ZP ?_|refine ZL ?_|refine ZW ?_)
    all_goals try omega
    exact ZIC (t:=J9 (s.take a.toNat)) (t2:=J9 (s.drop a.toNat)) hA (.inr Y) Y Y Y Y Y Y
 | succ n ih =>
  intro st lv ix hr t ht hn a h0 h1 hb
  refine QA Y (fun A hA=>?_)
  have hrp:=fun L=>hr.push hA (ro:=false) (L:=L)
  have hB:=fun st=>ZCe t ht.pos.1 (by omega) st
  rw[ZB6]
  by_cases ha:a=0
  ·rw[if_pos ha]
   repeat'(first|refine ZE ?_|refine ZD ?_|refine ZG Y ?_|refine ZB Y ?_|refine ZC ?_|(refine cm0 Y Y Y ?_ ?_<;>intro _<;>try omega)|refine ZU Y ?_|refine Zn Y Y Y ?_|refine Zc Y Y Y ?_|refine Zy Y Y Y (Qn _ _ _) (JR _ _) Y ?_|refine Zw Y (QI _) (Qc _) ?_|refine ZF8 Y Y Y Y Y (Z0 _) ?_|refine ZIB Y Y Y Y Y Y Y ?_|refine ZP ?_|refine ZL ?_|refine ZW ?_)
   all_goals try omega
   exact ZIC (t:=.zero) hA (.inr Y) Y Y Y Y Y Y
  ·rw[if_neg ha]
   by_cases ha2:a=t.bytes
   ·rw[if_pos ha2]
    repeat'(first|refine ZE ?_|refine ZD ?_|refine ZG Y ?_|refine ZB Y ?_|refine ZC ?_|(refine cm0 Y Y Y ?_ ?_<;>intro _<;>try omega)|refine ZU Y ?_|refine ZF Y ?_|refine Zn Y Y Y ?_|refine Zc Y Y Y ?_|refine Zy Y Y Y Y Y Y ?_|refine ZQ Y Y Y (Z0 _) ?_|refine Zy Y Y Y (Qn _ _ _) (JR _ _) Y ?_|refine Zw Y (QI _) (Qc _) ?_|refine ZA Y Y (by first|rfl|(simp only[lE,lN,lC,Zm,Zb,ZZ];first|done|rfl)) (hB _) ?_|refine ZH ?_|refine ZP ?_|refine ZL ?_|refine ZW ?_)
    all_goals try omega
    exact ZIC (t2:=.zero) hA (.inr Y) Y Y Y Y Y Y
   ·rw[if_neg ha2]
    have vt:=ht.val (by omega)
    have h16:=vt.h16
    obtain⟨c1,c2,c3,c4⟩:=YG hN vt (by omega)
    have hC:=fun L=>ZDp (hrp L) vt (by omega)
    generalize Z8 N t=l at *
    have hl:∀u∈l,Val N u/\u.h=n/\Big u:=fun u hu=>⟨(c1 u hu).1,by have:=(c1 u hu).2.1;omega,(c1 u hu).2.2⟩
    have hpos:∀u∈l,0<=u.bytes:=fun u hu=>by have:=(hl u hu).1.pos.2;omega
    obtain⟨s1,s2,s3,s4⟩:=ZcJ l a (by omega) hpos h0 (by omega)
    have key:∀k Q p6 p7 L,
     (Rk (S Tb) k Q (.ex 0) [(0,.ptr lv ix 0 0 0),(2,.int .i64 (Jb l a).2),(6,.ptr A.length p6 0 0 0),(7,.ptr A.length p7 0 0 0),(13,.lit (l.map Tr.av)),(14,.int .i64 (Jb l a).1),(77,.bool false)] ⟨A,false,L⟩) ->
     Ru (S Tb) (.loop ZLs) k Q [(0,.ptr lv ix 0 0 0),(2,.int .i64 a),(6,.ptr A.length p6 0 0 0),(7,.ptr A.length p7 0 0 0),(13,.lit (l.map Tr.av)),(14,.int .i64 0)] ⟨A,false,L⟩:=by
     intro k Q p6 p7 L hex
     refine Z2 (α:=Nat × Int) (fun p=>[(0,.ptr lv ix 0 0 0),(2,.int .i64 p.2),(6,.ptr A.length p6 0 0 0),(7,.ptr A.length p7 0 0 0),(13,.lit (l.map Tr.av)),(14,.int .i64 p.1)]) (fun p=>⟨A,false,L⟩)
      (fun p=>p.1<l.length/\0<=p.2/\p.2<=a/\(Jb l a).1=p.1+(Jb (l.drop p.1) p.2).1/\(Jb l a).2=(Jb (l.drop p.1) p.2).2) (fun p=>l.length-p.1) (0,a) rfl rfl ⟨by simp only;omega,h0,Int.le_refl _,by simp,by simp⟩ ?_
     rintro⟨i,b⟩ ⟨i1,i2,i3,i4,i5⟩
     simp only at i1 i2 i3 i4 i5 ⊢
     have hu:l[i]?=some l[i]:=by simp[i1]
     generalize l[i]=u at hu;have hum:=jM hu;have hub:=hpos u hum
     have hu16:u.bytes<=65536:=by
      have e:=hu
      have e2:Tr.bytesL l=Tr.bytesL (l.take i)+(u.bytes+Tr.bytesL (l.drop (i+1))):=by
       conv=>lhs;rw[<- List.take_append_drop (i+1) l,Zs hu,Tr.bytesL_append,Tr.bytesL_append]
       simp[Tr.bytesL];omega
      have:=Tr.bytesL_nonneg (l:=l.take i) (fun w hw=>hpos w (List.mem_of_mem_take hw))
      have:=Tr.bytesL_nonneg (l:=l.drop (i+1)) (fun w hw=>hpos w (List.mem_of_mem_drop hw))
      omega
     have hBu:∀w,l[((i:Nat):Int).toNat]?=some w->∀st,S Tb JB [w.av] st=some (.int .i64 u.bytes,st):=by
      intro w hw st;have hw2:l[i]?=some w:=hw;rw[hu]at hw2
      have:=Option.some.inj hw2
      subst this
      exact ZCe u (hl u hum).1.pos.1 (by omega) st
     have hd:l.drop i=u::l.drop (i+1):=by
      rw[List.drop_eq_getElem_cons i1]
      congr 1
      rw[jE i1]at hu;exact Option.some.inj hu
     repeat'(first|refine ZE ?_|refine ZD ?_|refine ZG Y ?_|refine Z9 Y ?_|refine Ji Y Y ?_|refine Zi Y Y Y Y ?_|refine ZB Y ?_|refine ZC ?_|refine Qo Y ?_|(refine cm0 Y Y Y ?_ ?_<;>intro _<;>try omega)|(refine cm0 Y Y Y ?_ ?_<;>intro _<;>try omega)|refine ZU Y ?_|refine ZF Y ?_|refine Zr Y Y (by omega) ?_|refine Qe Y Y (by omega) ?_|refine Yi Y Y (by omega) QI (fun _ _=>?_)|refine Qt Y (Z0 _) ?_|refine ZA Y Y (by first|rfl|(simp only[lE,lN,lC,Zm,Zb,ZZ];first|done|rfl)) (hBu _ (by assumption) _) ?_|refine ZH ?_|refine Zz ?_|refine ZS ?_|refine Zk ?_|refine Z5 ?_|refine QJ ?_|refine Zx ?_)
     all_goals try omega
     ·rename_i g1 g2 g3 g4 g5 g6
      have hne:l.drop (i+1)≠[]:=by
       intro q
       have:=congrArg List.length q
       rw[List.length_drop]at this
       simp at this;omega
      have hsk:Jb (l.drop i) b=((Jb (l.drop (i+1)) (b-u.bytes)).1+1,(Jb (l.drop (i+1)) (b-u.bytes)).2):=by
       rw[hd]
       cases hq:l.drop (i+1) with
       | nil=>exact absurd hq hne
       | cons v r=>rw[Jb,if_pos (by omega)]
      refine⟨(i+1,b-u.bytes),⟨rfl,rfl⟩,⟨by simp only;omega,by simp only;omega,by simp only;omega,?_,?_⟩,by simp only;omega⟩
      ·simp only[i4,hsk];omega
      ·simp only[i5,hsk]
     ·have hsk : Jb (l.drop i) b = (0, b) := by
       rw[hd]
       cases hq:l.drop (i+1) with
       | nil=>rfl
       | cons v r=>rw[Jb,if_neg (by omega)]
      rw[i4,i5,hsk]at hex;exact hex
     ·have hq:l.drop (i+1)=[]:=List.drop_of_length_le (by omega)
      have hsk:Jb (l.drop i) b=(0,b):=by rw[hd,hq];rfl
      rw[i4,i5,hsk]at hex;exact hex
    repeat'(first|refine ZE ?_|refine ZD ?_|refine ZG Y ?_|refine ZI Y Y ?_|refine Zp Y Y ?_|refine ZB Y ?_|refine ZC ?_|(refine cm0 Y Y Y ?_ ?_<;>intro _<;>try omega)|(refine cm0 Y Y Y ?_ ?_<;>intro _<;>try omega)|refine ZF Y ?_|refine Zc Y Y Y ?_|refine ZQ Y Y Y (Z0 _) ?_|refine Zw Y (QI _) (Qc _) ?_|refine ZQ Y Y Y (ZAh _) ?_|refine ZA Y Y (by first|rfl|(simp only[lE,lN,lC,Zm,Zb,ZZ];first|done|rfl)) (hB _) ?_|refine ZA Y Y (by first|rfl|(simp only[lE,lN,lC,Zm,Zb,ZZ];first|done|rfl)) (hC _) ?_|refine ZH ?_|refine ZS ?_)
    all_goals try omega
    refine key _ _ _ _ _ ?_
    generalize hk:(Jb l a).1=k at *
    generalize hb2:(Jb l a).2=b at *
    have hlm:(l.map Tr.av).length=l.length:=by simp
    have hh1:∀u∈l.take k,u.h<=65536:=fun u hu=>by have:=(hl u (List.mem_of_mem_take hu)).2.1;omega
    have hh2:∀u∈l.drop k,u.h<=65536:=fun u hu=>by have:=(hl u (List.mem_of_mem_drop hu)).2.1;omega
    have hh3:∀u∈l.drop (k+1),u.h<=65536:=fun u hu=>by have:=(hl u (List.mem_of_mem_drop hu)).2.1;omega
    have hG1:∀st,S Tb Qa [.lit ((l.map Tr.av).take ((k:Nat):Int).toNat)] st=some ((grp (l.take k)).av,st):=fun st=>Xt (by rw[List.length_take];omega) hh1 (by rw[Int.toNat_natCast,<- List.map_take];exact .lit _)
    have hG2:∀st,S Tb Qa [.lit ((l.map Tr.av).drop ((k:Nat):Int).toNat)] st=some ((grp (l.drop k)).av,st):=fun st=>Xt (by rw[List.length_drop];omega) hh2 (by rw[Int.toNat_natCast,<- List.map_drop];exact .lit _)
    have hG3:∀st,S Tb Qa [.lit ((l.map Tr.av).drop (((k:Nat):Int)+1).toNat)] st=some ((grp (l.drop (k+1))).av,st):=fun st=>Xt (by rw[List.length_drop];omega) hh3 (by rw[show (((k:Nat):Int)+1).toNat=k+1 by omega,<- List.map_drop];exact .lit _)
    by_cases hz:b=0
    ·rw[if_pos hz]
     generalize grp (l.take k)=g1 at *
     generalize grp (l.drop k)=g2 at *
     repeat'(first|refine ZE ?_|refine ZD ?_|refine ZG Y ?_|refine ZB Y ?_|refine ZC ?_|(refine cm0 Y Y Y ?_ ?_<;>intro _<;>try omega)|refine ZU Y ?_|refine Zy Y Y Y (Qn _ _ _) (JR _ _) Y ?_|refine ZC1 Y Y (by omega) (Xj _) ?_|refine ZMP Y Y (by omega) (Xj _) ?_|refine Xf Y Y Y (hG1 _) ?_|refine ZA Y Y (by first|rfl|(simp only[lE,lN,lC,Zm,Zb,ZZ];first|done|rfl)) (hG2 _) ?_|refine ZP ?_|refine ZL ?_|refine ZW ?_|refine Zh Y ?_)
     all_goals try omega
     exact ZIC hA (.inr Y) Y Y Y Y Y Y
    ·rw[if_neg hz]
     obtain⟨u,hu⟩:∃u,l[k]?=some u:=⟨l[k],by simp[s1]⟩
     rw[hu];simp only[Option.getD_some];obtain⟨u1,u2,u3⟩:=hl u (jM hu);have hub:=s4 u hu
     have hsum:Tr.bytesL l=Tr.bytesL (l.take k)+(u.bytes+Tr.bytesL (l.drop (k+1))):=by
      conv=>lhs;rw[<- List.take_append_drop (k+1) l,Zs hu,Tr.bytesL_append,Tr.bytesL_append]
      simp[Tr.bytesL];omega
     have p1:=Tr.bytesL_nonneg (l:=l.take k) (fun w hw=>hpos w (List.mem_of_mem_take hw))
     have p2:=Tr.bytesL_nonneg (l:=l.drop (k+1)) (fun w hw=>hpos w (List.mem_of_mem_drop hw))
     have hc:=ZP8 hN n u b (.inr u1) u2 s2 (by omega) (by omega)
     have hcut:∀w,l[((k:Nat):Int).toNat]?=some w->∀L,S Tb ZA6 [.ptr lv ix 0 0 0,w.av,.int .i64 b] ⟨A,false,L⟩=some (.tup [(ZB6 N n u b).1.av,(ZB6 N n u b).2.av,.int .i64 0],⟨A,false,L⟩):=by
      intro w hw L;have hw2:l[k]?=some w:=hw;rw[hu]at hw2
      have:=Option.some.inj hw2
      subst this
      exact ih (hrp L) (.inr u1) u2 b s2 (by omega) (by omega)
     have a1:=(ZNN (N:=N) (l:=l.take k) (by rw[List.length_take];omega) (show n+1<=16 by omega) (fun u hu=>hl u (List.mem_of_mem_take hu))).1
     have d1:=(ZNN (N:=N) (l:=l.drop (k+1)) (by rw[List.length_drop];omega) (show n+1<=16 by omega) (fun u hu=>hl u (List.mem_of_mem_drop hu))).1
     have hcl:=hc.l;have hcr:=hc.r
     have hK1:=fun L=>ZP9 hN (hrp L) a1 hcl
     have hK2:=fun L=>ZP9 hN (hrp L) hcr d1
     generalize ZB6 N n u b=r at *
     obtain⟨r1,r2⟩:=r
     simp only at *
     generalize grp (l.take k)=g1 at *
     generalize grp (l.drop (k+1))=g3 at *
     generalize ZAu N g1 r1=z1 at *
     generalize ZAu N r2 g3=z2 at *
     repeat'(first|refine ZE ?_|refine ZD ?_|refine ZG Y ?_|refine Zp Y Y ?_|refine ZB Y ?_|refine ZC ?_|(refine cm0 Y Y Y ?_ ?_<;>intro _<;>try omega)|(refine cm0 Y Y Y ?_ ?_<;>intro _<;>try omega)|refine ZF Y ?_|refine Zr Y Y (by omega) ?_|refine Zc Y Y Y ?_|refine Yi Y Y (by omega) QI (fun _ _=>?_)|refine Qt Y (Z0 _) ?_|refine ZQ Y Y Y (Z0 _) ?_|refine Zy Y Y Y (Qn _ _ _) (JR _ _) Y ?_|refine ZC1 Y Y (by omega) (Xj _) ?_|refine ZMP Y Y (by omega) (Xj _) ?_|refine Xf Y Y Y (hG1 _) ?_|refine Xf Y Y Y (hG3 _) ?_|refine ZA Y Y (by first|rfl|(simp only[lE,lN,lC,Zm,Zb,ZZ];first|done|rfl)) (hcut _ (by assumption) _) ?_|refine ZA Y Y (by first|rfl|(simp only[lE,lN,lC,Zm,Zb,ZZ];first|done|rfl)) (hK1 _) ?_|refine ZA Y Y (by first|rfl|(simp only[lE,lN,lC,Zm,Zb,ZZ];first|done|rfl)) (hK2 _) ?_|refine ZF8 Y Y Y Y Y (Z0 _) ?_|refine ZIB Y Y Y Y (ZrI 4 _) (Qn _ _ _) (JR _ _) ?_|refine ZH ?_|refine ZP ?_|refine ZL ?_|refine Zh Y ?_)
     all_goals try omega
     exact ZIC hA (.inr Y) Y Y Y Y Y Y
theorem Zkt{st:St}{lv ix:Nat}{N:ZO}(hr:Rd st lv ix N){t:Tr}(ht:VE N t)(hb:t.bytes<=65536):S Tb Yn [.ptr lv ix 0 0 0,t.av] st=some (.int .i64 0,st):=by
 rcases ht with h|h
 ·exact ZUA h
 ·exact ZTU hr h hb
theorem Zmh(s:B8):Ja 1 (Za s)=true:=by
 induction s with
 | nil=>rfl
 | cons b s ih=>rw[Za,jC,Ja,List.all_cons];exact Bool.and_eq_true_iff.2 ⟨rfl,ih⟩
theorem Zmi(b:Nat)(st:St)(s:B8):mapSt (ZY QO b) st (Za s)=some (Za s,st):=by
 induction s with
 | nil=>rfl
 | cons x s ih =>
  show mapSt (ZY QO b) st (AV.int .u8 x.toNat::Za s)=_
  rw[mapSt]
  show ((some (AV.int .u8 x.toNat,st)).bind fun r=>(mapSt (ZY QO b) r.2 (Za s)).bind (Yd r.1))=_
  rw[oS,ih];rfl
theorem ZcM(s t:B8):Za (s++t)=Za s++Za t:=by simp[Za]
theorem ZBf(s:B8):(Za s).length=s.length:=by simp[Za]
theorem Zi3{st:St}{lv ix:Nat}{b c:Blk}:(st.upd lv ix b).upd lv ix c=st.upd lv ix c:=by
 unfold St.upd
 by_cases h:lv=st.A.length
 ·simp only[if_pos h,List.set_set]
 ·simp only[if_neg h,List.length_set]
  rcases Nat.lt_or_ge lv st.A.length with q|q
  ·simp only[List.set_set,List.getElem?_set,if_true,if_pos q,Option.getD_some,Zc4]
  ·simp only[List.set_eq_of_length_le q]
theorem ZcN{st:St}{lv ix jx:Nat}{b c:Blk}(h:ix≠jx):(st.upd lv ix b).upd lv jx c=(st.upd lv jx c).upd lv ix b:=by
 unfold St.upd
 by_cases hl:lv=st.A.length
 ·simp only[if_pos hl]
  rw[List.set_comm _ _ h]
 ·simp only[if_neg hl,List.length_set]
  rcases Nat.lt_or_ge lv st.A.length with q|q
  ·simp only[List.set_set,List.getElem?_set,if_true,if_pos q,Option.getD_some,Zc4]
   rw[List.set_comm _ _ h]
  ·simp only[List.set_eq_of_length_le q]
theorem Zku{o:Option Blk}{b:Blk}(h:vis o=some b):o=some b:=by
 cases o with
 | none=>simp[vis]at h
 | some c=>cases c<;>simp[vis]at h<;>exact congrArg some h
theorem ZcO{α:Type}{l:List α}{i:Nat}{b:α}(h:l[i]?=some b):l.set i b=l:=by
 obtain⟨h1,h2⟩:=List.getElem?_eq_some_iff.1 h;subst h2;exact List.set_getElem_self h1
theorem upd_same{st:St}{lv ix:Nat}{b:Blk}(h:st.get lv ix=some b):st.upd lv ix b=st:=by
 unfold St.upd
 by_cases q:lv=st.A.length
 ·rw[if_pos q]
  rw[St.get,if_pos q]at h;have h2:=Zku h;rw[ZcO h2]
 ·rw[if_neg q]
  rw[St.get,if_neg q]at h
  cases hr:st.A[lv]? with
  | none=>rw[hr]at h;simp at h
  | some r =>
   rw[hr]at h;have h2:=Zku h;have e1:r.2.set ix b=r.2:=ZcO h2;simp only[Option.getD_some,Zc4,e1]
   rw[show (r.1,r.2)=r from rfl]
   rw[ZcO hr]
theorem wk4(t:Tr)(a b c:AV)(ha:weak a=a)(hb:weak b=b)(hc:weak c=c):ZZ (Zm ([]++[t.av]++[a,b,c]))=some [t.av,a,b,c]:=by
 simp only[lE,lC,Zm,Zb,ha,hb,hc,ZZ]
structure AR where
 blk:List Int
 n:Nat
 ver:Nat
 states:List Int
 gens:List Int
 most:Int
 nodes:ZO
 slots:Int
 allocs:Int
 frees:Int
 stale:Int
namespace AR
def b0(r:AR):Blk:=.arr 1 0 (r.states.map (.int .u8))
def b1(r:AR):Blk:=.arr 1 r.ver (r.blk.map (.int .i64))
def b2(r:AR):Blk:=.arr 1 0 (r.gens.map (.int .u64))
def b3(r:AR)(lv b:Nat):Blk:=.arr 4 0 [.agg [.ref lv (b+1) r.ver 0 r.n,.ref lv b 0 0 r.states.length,.ref lv (b+2) 0 0 r.gens.length,.int .u64 r.most]]
def b4(r:AR):Blk:=.map (r.nodes.map nodeAV)
def b5(r:AR)(lv b:Nat):Blk:=.arr 6 0 [.agg [.int .i64 r.slots,.ptr lv (b+3) 0 0 0,.map lv (b+4),.int .i64 r.allocs,.int .i64 r.frees,.int .i64 r.stale]]
end AR
structure Has(st:St)(lv b:Nat)(r:AR):Prop where
 wr:st.wr lv
 h0:st.get lv b=some r.b0
 h1:st.get lv (b+1)=some r.b1
 h2:st.get lv (b+2)=some r.b2
 h3:st.get lv (b+3)=some (r.b3 lv b)
 h4:st.get lv (b+4)=some r.b4
 h5:st.get lv (b+5)=some (r.b5 lv b)
variable {r1 r2:AR}{a cv td v v' vx z:AV}{agg ro:Bool}{e:Env}{Q:Jh}{A:List (Bool × List Blk)}{cls es ys:LV}{L':List Blk}{d g ib ip ix j jx n ob vb ver w:Nat}{x:Opd}{O:Orc}{st:St}{t:Tr}
theorem Has.rd{lv b:Nat}{r:AR}(h:Has st lv b r):Rd st lv (b+5) r.nodes:=⟨_,_,_,_,_,_,h.h5,h.h4⟩
theorem Jz{T:Tab}{f:FuncId}{body:PC}{res:List RV}{args:LV}{st2:St}(hT:T f=some (.pf ⟨false,body,res⟩))
 (h:∀A,A=st.A++[(st.ro,st.L)]->Ru (S T) body [] (fun x e st'=>Jm false res (x,e,st')=some (v,st2)) (JA 0 args) ⟨A,false,[]⟩):S T f args st=some (v,st2):=by
 obtain⟨⟨x,e',st',h1,h2⟩⟩:=h _ rfl;refine Zp9 hT ?_;simp only[J6,jB,if_false,St.push,h1,oS];exact h2
def AR.take(r:AR)(s:Nat):AR:={ r with n:=r.n-1,states:=r.states.set s 1 }
def Q9(st:St)(lv b:Nat)(r:AR)(s:Nat):St:=(st.upd lv (b+3) ((r.take s).b3 lv b)).upd lv b (r.take s).b0
theorem ZF9{lv b:Nat}{r:AR}(h:Has st lv b r)(s:Nat)(l' i':Nat):(Q9 st lv b r s).get l' i'=if l'=lv/\i'=b then some (r.take s).b0 else if l'=lv/\i'=b+3 then some ((r.take s).b3 lv b) else st.get l' i':=by
 have g1:∀l' i',(st.upd lv (b+3) ((r.take s).b3 lv b)).get l' i'=if l'=lv/\i'=b+3 then some ((r.take s).b3 lv b) else st.get l' i':=fun l' i'=>St.get_upd h.h3 rfl
 have b1:(st.upd lv (b+3) ((r.take s).b3 lv b)).get lv b=some r.b0:=by rw[g1,if_neg (by omega)];exact h.h0
 rw[Q9,St.get_upd b1 rfl,g1]
theorem Has.take{lv b:Nat}{r:AR}(h:Has st lv b r)(s:Nat):Has (Q9 st lv b r s) lv b (r.take s):=by
 refine⟨St.wr_upd (St.wr_upd h.wr h.wr) (St.wr_upd h.wr h.wr),?_,?_,?_,?_,?_,?_⟩
 ·rw[ZF9 h,if_pos ⟨rfl,rfl⟩]
 ·rw[ZF9 h,if_neg (by omega),if_neg (by omega)];exact h.h1
 ·rw[ZF9 h,if_neg (by omega),if_neg (by omega)];exact h.h2
 ·rw[ZF9 h,if_neg (by omega),if_pos ⟨rfl,rfl⟩]
 ·rw[ZF9 h,if_neg (by omega),if_neg (by omega)];exact h.h4
 ·rw[ZF9 h,if_neg (by omega),if_neg (by omega)];exact h.h5
theorem ZrN{lv b:Nat}{r:AR}(h:Has st lv b r){k s:Nat}(hn:r.n=k+1)(hk:r.blk[k]?=some (s:Int))(hs:s<r.states.length)(hs2:s<16384)(hg:r.gens[s]?=some (g:Int))(hg1:1<=g/\g<=4294967295)(hbig:r.n<65536):
 S Tb XE [.ptr lv (b+3) 0 0 0] st=some (.tup [.int .u64 ((g*65536+s:Nat):Int),.int .i64 0],Q9 st lv b r s):=by
 refine Jz Y (fun A hA=>?_)
 have g1:=fun L=>ZV hA (ro:=false) (L:=L) h.h1
 have g3:=fun L=>ZV hA (ro:=false) (L:=L) h.h3
 unfold AR.b1 at g1;unfold AR.b3 at g3;rw[hn]at g3
 have hM:=fun st=>Ztw s g hs2 hg1 st
 repeat'(first|refine ZE ?_|refine ZD ?_|refine ZG Y ?_|refine ZI Y Y ?_|refine ZB Y ?_|refine ZC ?_|refine Ze Y Y ?_|refine JI Y ?_|(refine cm0 Y Y Y ?_ ?_<;>intro _<;>try omega)|refine ZF Y ?_|refine Qe Y Y (by omega) ?_|refine JM Y Y Y Y ?_|refine Zt Y (g3 _) Y Y ?_|refine ZH ?_)
 all_goals try omega
 have hw1:∀L,wIs 1 r.ver (St.get ⟨A,false,L⟩ lv (b+1))=true:=fun L=>by rw[g1];simp[wIs]
 refine Xy Y Y (by omega) (hw1 _) ?_
 refine Zt (x:=.int .i64 s) Y (g1 _) (by rw[show 0+(((k+1:Nat):Int)-1).toNat=k by omega,jG,hk];rfl) rfl ?_
 repeat'(first|refine ZE ?_|refine ZD ?_|refine ZG Y ?_|refine ZI Y Y ?_|refine ZB Y ?_|refine ZC ?_|refine Ze Y Y ?_|refine JI Y ?_|refine Qe Y Y (by omega) ?_|refine Zt Y (g3 _) Y Y ?_)
 refine ZGS Y Y (by omega) (hw1 _) ?_
 repeat'(first|refine ZI Y Y ?_|refine Ze Y Y ?_)
 have hle:=St.get_le h.h3;have h3':=h.h3;unfold AR.b3 at h3';rw[hn]at h3'
 refine ZJc hA Y Y h.wr h3' Y (Qu _ (Nat.lt_succ_self _)) Y (fun A1 hA1=>?_)
 have e1:(((k+1:Nat):Int)-1).toNat=k:=by omega
 have eB:Blk.arr 4 0 ([AV.agg [.ref lv (b+1) r.ver 0 (k+1),.ref lv b 0 0 r.states.length,.ref lv (b+2) 0 0 r.gens.length,.int .u64 r.most]].set 0 (.agg [.ref lv (b+1) r.ver 0 (((k+1:Nat):Int)-1).toNat,.ref lv b 0 0 r.states.length,.ref lv (b+2) 0 0 r.gens.length,.int .u64 r.most]))=(r.take s).b3 lv b:=by
  simp[AR.b3,AR.take,hn]
 rw[eB]at hA1
 have q1:∀l' i',(st.upd lv (b+3) ((r.take s).b3 lv b)).get l' i'=if l'=lv/\i'=b+3 then some ((r.take s).b3 lv b) else st.get l' i':=fun l' i'=>St.get_upd h.h3 rfl
 have hw:=St.wr_upd (b:=(r.take s).b3 lv b) (ix:=b+3) h.wr h.wr
 have k0:(st.upd lv (b+3) ((r.take s).b3 lv b)).get lv b=some r.b0:=by rw[q1,if_neg (by omega)];exact h.h0
 have k2:(st.upd lv (b+3) ((r.take s).b3 lv b)).get lv (b+2)=some r.b2:=by rw[q1,if_neg (by omega)];exact h.h2
 have k3:(st.upd lv (b+3) ((r.take s).b3 lv b)).get lv (b+3)=some ((r.take s).b3 lv b):=by rw[q1,if_pos ⟨rfl,rfl⟩]
 have et:Q9 st lv b r s=(st.upd lv (b+3) ((r.take s).b3 lv b)).upd lv b (r.take s).b0:=rfl;rw[et]
 generalize st.upd lv (b+3) ((r.take s).b3 lv b)=st1 at *
 unfold AR.b0 at k0;unfold AR.b3 AR.take at k3;simp only[List.length_set]at k3
 have m0:=fun L=>ZV hA1 (ro:=false) (L:=L) k0
 have m3:=fun L=>ZV hA1 (ro:=false) (L:=L) k3
 have hw0:∀L,wIs 1 0 (St.get ⟨A1,false,L⟩ lv b)=true:=fun L=>by rw[m0];simp[wIs]
 repeat'(first|refine ZE ?_|refine ZD ?_|refine ZG Y ?_|refine ZI Y Y ?_|refine ZB Y ?_|refine ZC ?_|refine Ze Y Y ?_|refine Zt Y (m3 _) Y Y ?_|refine Xy Y Y (by omega) (hw0 _) ?_)
 refine ZJc hA1 (y:=.int .u8 (r.states[s]'hs)) Y Y hw k0 ?_ Y Y (fun A2 hA2=>?_)
 ·rw[show 0+((s:Nat):Int).toNat=s by omega,jG,jE hs];rfl
 have eS:Blk.arr 1 0 ((r.states.map (AV.int .u8)).set (0+((s:Nat):Int).toNat) (.int .u8 1))=(r.take s).b0:=by
  rw[show 0+((s:Nat):Int).toNat=s by omega]
  unfold AR.b0 AR.take;simp only[List.map_set]
 rw[eS]at hA2
 have q2:∀l' i',(st1.upd lv b (r.take s).b0).get l' i'=if l'=lv/\i'=b then some (r.take s).b0 else st1.get l' i':=fun l' i'=>St.get_upd k0 rfl
 have n2:(st1.upd lv b (r.take s).b0).get lv (b+2)=some r.b2:=by rw[q2,if_neg (by omega)];exact k2
 have n3:(st1.upd lv b (r.take s).b0).get lv (b+3)=some (.arr 4 0 [.agg [.ref lv (b+1) r.ver 0 (r.n-1),.ref lv b 0 0 r.states.length,.ref lv (b+2) 0 0 r.gens.length,.int .u64 r.most]]):=by rw[q2,if_neg (by omega)];exact k3
 generalize st1.upd lv b (r.take s).b0=st2 at *
 unfold AR.b2 at n2
 have o2:=fun L=>ZV hA2 (ro:=false) (L:=L) n2
 have o3:=fun L=>ZV hA2 (ro:=false) (L:=L) n3
 have hw2:∀L,wIs 1 0 (St.get ⟨A2,false,L⟩ lv (b+2))=true:=fun L=>by rw[o2];simp[wIs]
 have hsg:s<r.gens.length:=(List.getElem?_eq_some_iff.1 hg).1
 repeat'(first|refine ZE ?_|refine ZD ?_|refine ZG Y ?_|refine ZI Y Y ?_|refine ZB Y ?_|refine ZC ?_|refine Ze Y Y ?_|refine Zt Y (o3 _) Y Y ?_|refine Xy Y Y (by omega) (hw2 _) ?_)
 refine Zt (x:=.int .u64 g) Y (o2 _) (by rw[show 0+((s:Nat):Int).toNat=s by omega,jG,hg];rfl) rfl ?_
 repeat'(first|refine ZG Y ?_|refine Zp Y Y ?_|refine ZB Y ?_|refine ZC ?_|refine ZA Y Y Y (hM _) ?_|refine ZP ?_|refine ZL ?_)
 refine ZX hA2 (.inr Y) Y Y Y Y ?_;rfl
end Go.Q15
namespace Go.Q15
open Go Go.QAbs
variable {r1 r2:AR}{a cv td v v' vx z:AV}{agg ro:Bool}{e:Env}{Q:Jh}{A:List (Bool × List Blk)}{cls es ys:LV}{L':List Blk}{d g ib ip ix j jx n ob vb ver w:Nat}{x:Opd}{O:Orc}{st:St}{t:Tr}
def ZCE{α:Type}(l:List α)(g:Int)(i:Nat):List α:=(l.drop (ZEK l.length g i).toNat).take (Y3 l.length g i).toNat
def ZCF(row:List Tr):List Tr:=(List.range (Zq row.length 4).toNat).map fun i=>grp (ZCE row (Zq row.length 4) i)
def ZAk:Nat->List Tr->List Tr
 | 0,row=>row
 | n+1,row=>if row.length<=1 then row else ZAk n (ZCF row)
noncomputable def Jv(s:B8):Tr:=grp (ZAk s.length ((Yp s).map J9))
theorem Zkv(s:B8)(g:Int)(i:Nat):ZTV s g i=ZCE s g i:=rfl
theorem ZcP{α:Type}(l:List α){g:Int}(hg:1<=g):∀k:Nat,k<=g.toNat->((List.range k).map (ZCE l g)).flatten=l.take (ZEK l.length g k).toNat
 | 0,_=>by rw[ZKx l.length g (by omega)];simp
 | k+1,h=>by
  rw[List.range_succ,List.map_append,List.flatten_append,ZcP l hg k (by omega),ZF6]
  have h1:=ZBe (n:=l.length) (g:=g) (by omega) (by omega) (i:=k) (by omega)
  have h2:=ZAi (n:=l.length) (g:=g) (by omega) (by omega) k
  simp only[jC,List.map_nil,List.flatten_cons,List.flatten_nil,lN,ZCE];rw[Int.toNat_add h1.1 h2,List.take_add]
theorem Zgh{α:Type}(l:List α){g:Int}(hg:1<=g):((List.range g.toNat).map (ZCE l g)).flatten=l:=by
 rw[ZcP l hg g.toNat (Nat.le_refl _),Zkp l.length g (by omega)]
 simp
theorem ZcQ{α:Type}(l:List α){g:Int}(hg:1<=g){i:Nat}(hi:i<g.toNat):((ZCE l g i).length:Int)=Y3 l.length g i:=by
 have h1:=ZBe (n:=l.length) (g:=g) (by omega) (by omega) (i:=i+1) (by omega)
 have h0:=ZBe (n:=l.length) (g:=g) (by omega) (by omega) (i:=i) (by omega)
 have h2:=ZAi (n:=l.length) (g:=g) (by omega) (by omega) i
 rw[ZF6]at h1;rw[ZCE,List.length_take,List.length_drop];omega
theorem ZUD{n m:Int}(hm:1<=m)(hn:1<=n){i:Nat}:Y3 n (Zq n m) i<=m/\n / Zq n m<=Y3 n (Zq n m) i:=by
 have hg:=XH hn hm;have e1:Zq n m*(n / Zq n m)+n % Zq n m=n:=Int.mul_ediv_add_emod n (Zq n m)
 have e2:=Int.emod_nonneg n (show Zq n m≠0 by omega)
 have e3:n<=m*Zq n m:=by
  have a1:m*((n-1) / m)+(n-1) % m=n-1:=Int.mul_ediv_add_emod (n-1) m
  have a2:=Int.emod_lt_of_pos (n-1) (show 0<m by omega)
  unfold Zq;rw[Int.mul_add];omega
 refine⟨?_,by unfold Y3;split<;>omega⟩
 have e4:n / Zq n m<=m:=by
  apply Int.ediv_le_of_le_mul (by omega)
  exact e3
 unfold Y3
 split
 ·rename_i h
  rcases Int.lt_or_le (n / Zq n m) m with q|q
  ·omega
  ·have:n / Zq n m=m:=by omega
   rw[this]at e1
   have:Zq n m*m=m*Zq n m:=Int.mul_comm _ _
   omega
 ·omega
structure Row(N:ZO)(row:List Tr)(h:Nat)(s:B8):Prop where
 val:∀t∈row,Val N t/\t.h=h
 big:2<=row.length->∀t∈row,Big t
 txt:Tr.txtL N row=s
theorem Zo8(N:ZO)(ls:List (List Tr))(h:∀l∈ls,2<=l.length):Tr.txtL N (ls.map grp)=Tr.txtL N ls.flatten:=by
 induction ls with
 | nil=>rfl
 | cons a r ih =>
  rw[jC,Tr.txtL,List.flatten_cons,Tr.txtL_append,ZIA N (h a (by simp)),ih (fun l hl=>h l (by simp[hl]))]
theorem Zkw{N:ZO}{row:List Tr}{h:Nat}{s:B8}(hr:Row N row h s)(h2:2<=row.length)(hh:h+1<=16):Row N (ZCF row) (h+1) s/\(ZCF row).length<row.length/\1<=(ZCF row).length:=by
 have hg:=XH (n:=row.length) (most:=4) (by omega) (by omega)
 have hg4:Zq row.length 4=((row.length:Int)-1) / 4+1:=rfl
 have hlen:(ZCF row).length=(Zq row.length 4).toNat:=by unfold ZCF;simp
 have hsz:∀i,i<(Zq row.length 4).toNat->2<=(ZCE row (Zq row.length 4) i).length/\(ZCE row (Zq row.length 4) i).length<=4:=by
  intro i hi;have h1:=ZcQ row hg.1 hi
  have h3:=ZUD (n:=row.length) (m:=4) (by omega) (by omega) (i:=i)
  have h4:2<=(row.length:Int) / Zq row.length 4:=by
   apply (Int.le_ediv_iff_mul_le (by omega)).2
   omega
  omega
 refine⟨⟨?_,?_,?_⟩,by omega,by omega⟩
 ·intro t ht
  unfold ZCF at ht;obtain⟨i,hi,rfl⟩:=List.mem_map.1 ht;rw[List.mem_range]at hi;obtain⟨a,b⟩:=hsz i hi
  obtain⟨g1,g2,g3⟩:=ZCf (N:=N) (h:=h) a b hh (fun u hu=>by
   have hm:u∈row:=List.mem_of_mem_drop (List.mem_of_mem_take hu)
   exact⟨(hr.val u hm).1,(hr.val u hm).2,hr.big h2 u hm⟩)
  exact⟨g1,g2⟩
 ·intro _ t ht
  unfold ZCF at ht;obtain⟨i,hi,rfl⟩:=List.mem_map.1 ht;rw[List.mem_range]at hi;obtain⟨a,b⟩:=hsz i hi;rw[ZP4 a];intro q;simp[Tr.h]at q
 ·have e:ZCF row=((List.range (Zq row.length 4).toNat).map (ZCE row (Zq row.length 4))).map grp:=by unfold ZCF;rw[List.map_map];rfl
  rw[e,Zo8 N _ (fun l hl=>by
   obtain⟨i,hi,rfl⟩:=List.mem_map.1 hl;rw[List.mem_range]at hi
   exact (hsz i hi).1),Zgh row hg.1,hr.txt]
theorem ZTW{N:ZO}(hN:GoodN N):∀(n:Nat) (row:List Tr) (h:Nat) (s:B8),Row N row h s->row.length<=n+1->s.length<=65536->∃h',Row N (ZAk n row) h' s/\(ZAk n row).length<=1/\(1<=row.length->1<=(ZAk n row).length)
 | 0,row,h,s,hr,hl,hs=>⟨h,hr,by rw[ZAk];omega,fun q=>q⟩
 | n+1,row,h,s,hr,hl,hs=>by
  rw[ZAk]
  split
  ·exact⟨h,hr,by assumption,fun q=>q⟩
  ·rename_i h2
   have hh:h+1<=16:=by
    match row,h2,hr with
    | t::r,h2,hr =>
     have h1:=(hr.val t (by simp))
     have h3:=ZK0 hN h1.1
     have h4:(t.txt N).length<=s.length:=by rw[<- hr.txt,Tr.txtL,lL];omega
     have:=h1.1.height hN (by omega)
     omega
    | [],h2,_=>simp at h2
   obtain⟨a,b,c⟩:=Zkw hr (by omega) hh
   obtain⟨h',d,e,f⟩:=ZTW hN n (ZCF row) (h+1) s a (by omega) hs
   exact⟨h',d,e,fun _=>f c⟩
theorem ZNO{N:ZO}(s:B8):Row N ((Yp s).map J9) 0 s/\((Yp s).map J9).length<=s.length/\(s≠[]->1<=((Yp s).map J9).length):=by
 unfold Yp
 split
 ·rename_i h
  have:s=[]:=List.length_eq_zero_iff.1 h
  subst this
  exact⟨⟨fun t ht=>by simp at ht,fun h=>by simp at h,rfl⟩,by simp,fun q=>absurd rfl q⟩
 ·rename_i h
  have hg:=XH (n:=s.length) (most:=16) (by omega) (by omega)
  have hsz:∀i,i<(Zq s.length 16).toNat->1<=(ZCE s (Zq s.length 16) i).length/\(ZCE s (Zq s.length 16) i).length<=16/\(2<=Zq s.length 16->8<=(ZCE s (Zq s.length 16) i).length):=by
   intro i hi;have h1:=ZcQ s hg.1 hi
   have h3:=ZUD (n:=s.length) (m:=16) (by omega) (by omega) (i:=i)
   have h4:1<=(s.length:Int) / Zq s.length 16:=by
    apply (Int.le_ediv_iff_mul_le (by omega)).2
    omega
   refine⟨by omega,by omega,fun h2=>?_⟩
   have hg4:Zq s.length 16=((s.length:Int)-1) / 16+1:=rfl
   have h5:8<=(s.length:Int) / Zq s.length 16:=by
    apply (Int.le_ediv_iff_mul_le (by omega)).2
    omega
   omega
  have hlen:(((List.range (Zq s.length 16).toNat).map (ZTV s (Zq s.length 16))).map J9).length=(Zq s.length 16).toNat:=by simp
  refine⟨⟨?_,?_,?_⟩,by omega,fun _=>by omega⟩
  ·intro t ht
   obtain⟨c,hc,rfl⟩:=List.mem_map.1 ht;obtain⟨i,hi,rfl⟩:=List.mem_map.1 hc;rw[List.mem_range]at hi
   have:=hsz i hi
   exact⟨ZP6 ⟨this.1,this.2.1⟩,rfl⟩
  ·intro h2 t ht
   obtain⟨c,hc,rfl⟩:=List.mem_map.1 ht;obtain⟨i,hi,rfl⟩:=List.mem_map.1 hc;rw[List.mem_range]at hi
   have:=(hsz i hi).2.2 (by omega)
   intro _;rw[ZBB,Zkv];omega
  ·have hf : ∀l : List B8, Tr.txtL N (l.map J9) = l.flatten := by
    intro l
    induction l with
    | nil=>rfl
    | cons a l ih=>rw[jC,Tr.txtL,ih,ZP7,List.flatten_cons]
   rw[hf];exact Zgh s hg.1
theorem ZGA{N:ZO}(hN:GoodN N){s:B8}(hs:s.length<=65536):VE N (Jv s)/\(Jv s).txt N=s/\(Jv s).bytes=s.length:=by
 obtain⟨a,b,c⟩:=ZNO (N:=N) s
 obtain⟨h',d,e,f⟩:=ZTW hN s.length _ 0 s a (by omega) hs
 unfold Jv
 generalize ZAk s.length ((Yp s).map J9)=row at *
 match row,e,d with
 | [],_,d =>
  have:s=[]:=d.txt.symm
  subst this;exact⟨.inl zero_empty,rfl,rfl⟩
 | [t],_,d =>
  have h1:=(d.val t (by simp)).1
  have h2:=d.txt;simp only[Tr.txtL,lN]at h2;refine⟨.inr h1,h2,?_⟩
  have:=ZK0 hN h1
  rw[h2]at this;exact this.symm
theorem ZcR{α:Type}(G:List α)(a:α)(r:List α):(G++a::r)[G.length]?=some a:=by
 rw[List.getElem?_append_right (Nat.le_refl _)];simp
theorem Zt5{α:Type}(G:List α)(a b:α)(r:List α):(G++a::b::r)[G.length+1]?=some b:=by
 rw[List.getElem?_append_right (by omega)];simp
theorem Zt6{α:Type}(G:List α)(a b c:α)(r:List α):(G++a::b::r).set (G.length+1) c=G++a::c::r:=by
 rw[List.set_append_right _ _ (by omega)];simp
theorem ZrO{k:List Fr}{L:List Blk}{keep:List Nat}{is:List PI}{s:Opd}{l:List Tr}(hs:Zg e s=some (.ref A.length ix ver 0 n))(hx:Zg e x=some (.lit ([t].map Tr.av)))(hg:L[ix]?=some (Blk.arr 7 ver (l.map Tr.av)))(hb:n=l.length)
 (hl:l.length+1<4294967296) (h:Is O is keep k Q ((d,.ref A.length ix (ver+1) 0 (n+1))::e) ⟨A,false,L.set ix (Blk.arr 7 (ver+1) ((l++[t]).map Tr.av))⟩):Is O (⟨some d,none,false,.app 7 80 s x⟩::is) keep k Q e ⟨A,false,L⟩:=by
 subst hb
 refine ZKw hs hg Y hx (.lit _) (by simp;omega) ?_
 simpa using h
theorem ZrP{k:List Fr}{L:List Blk}{keep:List Nat}{is:List PI}(h:Is O is keep k Q ((d,.ref A.length L.length 0 0 0)::e) ⟨A,false,L++[Blk.arr w 0 []]⟩):Is O (⟨some d,none,false,.onil w⟩::is) keep k Q e ⟨A,false,L⟩ :=
 Z4 (v:=.ref A.length L.length 0 0 0) (st':=⟨A,false,L++[Blk.arr w 0 []]⟩) (by simp only[Zl,evalPO,oS,St.new_cur,Js]) h
theorem Zo9{N:ZO}(hN:GoodN N){k:List Fr}{s:B8}(hs:s.length<=65536)(B:Blk)(row:List Tr)(n:Nat)(r:List Tr)(hrow:Row N row 0 s)(hn:row.length<=n+1)(h64:row.length<=65536)(hr:ZAk n row=r)
 (hex:∀(G:List Blk) (ver:Nat),Rk (S Tb) k Q (.ex 2) [(2,.ptr A.length 0 0 0 0),(4,.ref A.length (B::G).length ver 0 r.length),(31,.bool false)] ⟨A,false,B::G++[.arr 7 ver (r.map Tr.av)]⟩) (ver:Nat) (ex:Env) :
 Ru (S Tb) (.loop ZIL) k Q ((2,.ptr A.length 0 0 0 0)::(4,.ref A.length 1 ver 0 row.length)::ex) ⟨A,false,[B,.arr 7 ver (row.map Tr.av)]⟩:=by
 refine Z2 (α:=List Tr × List Blk × Nat × Env) (fun p=>(2,.ptr A.length 0 0 0 0)::(4,.ref A.length (B::p.2.1).length p.2.2.1 0 p.1.length)::p.2.2.2) (fun p=>⟨A,false,B::p.2.1++[.arr 7 p.2.2.1 (p.1.map Tr.av)]⟩)
  (fun p=>p.1.length<=65536/\∃k h,p.1.length<=k+1/\Row N p.1 h s/\ZAk k p.1=r) (fun p=>p.1.length) (row,[],ver,ex) rfl rfl ⟨h64,n,0,hn,hrow,hr⟩ ?_
 rintro⟨row,G,ver,ex⟩ ⟨h64,kk,h,hk,hR,hb⟩
 simp only at h64 hk hR hb ⊢
 repeat'(first|refine ZE ?_|refine ZD ?_|refine ZG Y ?_|refine ZB Y ?_|refine ZC ?_|refine JI Y ?_|(refine cm0 Y Y Y ?_ ?_<;>intro _<;>try omega)|refine ZU Y ?_|refine ZF Y ?_|refine ZH ?_|refine Zz ?_|refine ZS ?_|refine Zk ?_|refine Zx ?_)
 ·rename_i hgt
  have hgt2:2<=row.length:=by omega
  obtain⟨kk,rfl⟩:∃j,kk=j+1:=⟨kk-1,by omega⟩
  rw[ZAk,if_neg (by omega)]at hb
  have hh:h+1<=16:=by
   match row,hgt2,hR with
   | t::r,_,hR =>
    have h1:=(hR.val t (by simp))
    have h3:=ZK0 hN h1.1
    have h4:(t.txt N).length<=s.length:=by rw[<- hR.txt,Tr.txtL,lL];omega
    have:=h1.1.height hN (by omega)
    omega
  obtain⟨u1,u2,u3⟩:=Zkw hR hgt2 hh
  refine ZA Y Y Y (Zt1 row.length 4 _ (by omega)) ?_
  have hg:=XH (n:=row.length) (most:=4) (by omega) (by omega)
  have hget:=fun i hi=>ZcG (n:=row.length) (m:=4) (by omega) (i:=i) hi
  have hlen:=ZcH (n:=row.length) (m:=4) (by omega)
  have hpb:=fun (i:Nat) hi=>ZBe (n:=row.length) (g:=Zq row.length 4) (by omega) (by omega) (i:=i) hi
  have hps:=ZF6 row.length (Zq row.length 4)
  have hp0:=ZKx row.length (Zq row.length 4) (by omega)
  have hsn:=ZAi (n:=row.length) (g:=Zq row.length 4) (by omega) (by omega)
  have hrl:(ZCF row).length=(Zq row.length 4).toNat:=by unfold ZCF;simp
  have hrg:∀i,i<(Zq row.length 4).toNat->(ZCF row)[i]?=some (grp (ZCE row (Zq row.length 4) i)):=by
   intro i hi;unfold ZCF;rw[jG,List.getElem?_range hi];rfl
  have hpl:=fun i hi=>ZcQ row (g:=Zq row.length 4) hg.1 (i:=i) hi
  have hpe:∀i,ZCE row (Zq row.length 4) i=(row.drop (ZEK row.length (Zq row.length 4) i).toNat).take (Y3 row.length (Zq row.length 4) i).toNat:=fun _=>rfl
  generalize ZA9 (row.length:Int) 4=z at *
  generalize Zq (row.length:Int) 4=g at *
  generalize ZCF row=up at *
  have hh2:∀u∈row,u.h<=65536:=fun u hu=>by have:=(hR.val u hu).1.h16;omega
  repeat'(first|refine ZE ?_|refine ZD ?_|refine ZG Y ?_|refine Zp Y Y ?_|refine ZB Y ?_|refine ZC ?_|refine Qo Y ?_|(refine cm0 Y Y Y ?_ ?_<;>intro _<;>try omega)|refine ZF Y ?_|refine ZrP ?_|refine ZH ?_|refine ZS ?_)
  all_goals try omega
  refine Z2 (α:=Nat) (fun i=>[(2,.ptr A.length 0 0 0 0),(4,.ref A.length (B::G).length ver (ZEK row.length g i).toNat (row.length-(ZEK row.length g i).toNat)),(9,.ref A.length ((B::G).length+1) i 0 i),(42,ZUB z),(43,.int .i64 z.length),(44,.int .i64 i)])
   (fun i=>⟨A,false,B::G++[.arr 7 ver (row.map Tr.av),.arr 7 i ((up.take i).map Tr.av)]⟩) (fun i=>i<=z.length) (fun i=>z.length-i) 0 ?_ ?_ (Nat.zero_le _) ?_
  ·simp[hp0]
  ·simp
  intro i hi
  repeat'(first|refine ZE ?_|refine ZD ?_|refine ZG Y ?_|refine ZB Y ?_|refine ZC ?_|refine Qt Y Y ?_|refine Yi Y Y (by omega) (fun _=>rfl) (fun _ _=>?_)|(refine cm0 Y Y Y ?_ ?_<;>intro _<;>try omega)|refine ZU Y ?_|refine ZF Y ?_|refine ZH ?_|refine Zz ?_|refine ZS ?_|refine Zk ?_|refine Z5 ?_|refine Zh Y ?_|refine QJ ?_|refine Zx ?_)
  ·rename_i hlt x hx
   have hi2:i<g.toNat:=by omega
   have hx2:z[i]?=some x:=hx;rw[hget i hi2]at hx2;have hx3:=Option.some.inj hx2;subst hx3
   have hb0:=hpb i (by omega)
   have hb1:=hpb (i+1) (by omega)
   rw[hps i]at hb1;have hs0:=hsn i;have hpl2:=hpl i hi2;have hrg2:=hrg i hi2;have hpe2:=hpe i;have hps2:=hps i
   generalize ZEK (row.length:Int) g i=p at *
   generalize Y3 (row.length:Int) g i=q at *
   generalize ZCE row g i=part at *
   have hgetL:∀b:Blk,(B::G++[.arr 7 ver (row.map Tr.av),b])[(B::G).length]?=some (.arr 7 ver (row.map Tr.av)):=fun b=>ZcR _ _ _
   have hwi:wIs 7 ver (St.get ⟨A,false,B::G++[.arr 7 ver (row.map Tr.av),.arr 7 i ((up.take i).map Tr.av)]⟩ A.length (B::G).length)=true:=by
    rw[St.get_cur,hgetL];simp[vis,wIs]
   refine ZGS Y Y (by omega) hwi ?_
   have hSl:Sl ⟨A,false,B::G++[.arr 7 ver (row.map Tr.av),.arr 7 i ((up.take i).map Tr.av)]⟩ (.ref A.length (B::G).length ver p.toNat q.toNat) part:=by
    refine .ref (es:=row.map Tr.av) (by rw[St.get_cur,hgetL];rfl) (by omega) (by rw[List.length_map];omega) ?_
    rw[hpe2,<- List.map_drop,<- List.map_take]
   refine ZA Y Y Y (Xt (by omega) (fun u hu=>hh2 u (by rw[hpe2]at hu;exact List.mem_of_mem_drop (List.mem_of_mem_take hu))) hSl) ?_
   have hti:(up.take i).length=i:=by rw[List.length_take];omega
   refine ZKy Y ?_
   refine ZrO Y Y (Zt5 _ _ _ _) hti.symm (by omega) ?_
   rw[Zt6];have htk:=Zs hrg2;rw[<- htk]
   repeat'(first|refine ZD ?_|refine ZG Y ?_|refine ZB Y ?_|refine ZC ?_)
   have hwi2:wIs 7 ver (St.get ⟨A,false,B::G++[.arr 7 ver (row.map Tr.av),.arr 7 (i+1) ((up.take (i+1)).map Tr.av)]⟩ A.length (B::G).length)=true:=by
    rw[St.get_cur,hgetL];simp[vis,wIs]
   refine ZMQ Y Y (by omega) hwi2 ?_
   repeat'(first|refine ZD ?_|refine ZG Y ?_|refine ZB Y ?_|refine ZC ?_|refine Zr Y Y (by omega) ?_|refine Z5 ?_|refine QJ ?_)
   refine⟨i+1,⟨?_,rfl⟩,by omega,by omega⟩
   rw[show p.toNat+q.toNat=(p+q).toNat by omega,show row.length-p.toNat-q.toNat=row.length-(p+q).toNat by omega]
   simp only[hps2];rfl
  ·have hi2:i=up.length:=by omega
   subst hi2;rw[List.take_length]
   refine⟨(up,G++[.arr 7 ver (row.map Tr.av)],up.length,[]),⟨?_,?_⟩,⟨by simp only;omega,kk,h+1,by simp only;omega,u1,hb⟩,by simp only;omega⟩
   ·simp
   ·simp
 ·have hrr : ZAk kk row = row := by
   cases kk with
   | zero=>rfl
   | succ j=>rw[ZAk,if_pos (by omega)]
  rw[hrr]at hb;subst hb;exact hex G ver
theorem Zkx(s:B8):(Yp s).length<=s.length:=by
 have:=(ZNO (N:=[]) s).2.1
 simpa using this
theorem Znu{N:ZO}(hN:GoodN N)(s:B8)(hs:s.length<=65536)(st:St):S Tb ZCK [.str s] st=some (.tup [(Jv s).av,.int .i64 0],st):=by
 refine QA Y (fun A hA=>?_)
 have hcl:=Zkx s
 have hch:=fun st=>ZrH s st (by omega)
 obtain⟨ra,rb,rc⟩:=ZNO (N:=N) s
 obtain⟨h',rd,re,rf⟩:=ZTW hN s.length _ 0 s ra (by omega) hs
 unfold Jv
 generalize hres:ZAk s.length ((Yp s).map J9)=r at *
 have hG:=fun {v:AV} {st:St} (hv:Sl st v r)=>Xt (by omega) (fun u hu=>by have:=(rd.val u hu).1.h16;omega) hv
 have hlen:((Yp s).map J9).length=(Yp s).length:=by simp
 generalize hc:Yp s=c at *
 unfold Zko at hch
 repeat'(first|refine ZE ?_|refine ZD ?_|refine ZG Y ?_|refine ZB Y ?_|refine ZC ?_|refine Q4 Y ?_|refine Qo Y ?_|(refine cm0 Y Y Y ?_ ?_<;>intro _<;>try omega)|refine ZF Y ?_|refine Zc Y Y Y ?_|refine ZCJ Y ?_|refine ZA Y Y (by first|rfl|(simp only[lE,lN,lC,Zm,Zb,ZZ];first|done|rfl)) (hch _) ?_|refine ZH ?_|refine ZS ?_)
 all_goals try omega
 refine Z2 (α:=Nat) (fun i=>[(2,.ptr A.length 0 0 0 0),(4,.ref A.length 1 i 0 i),(17,.lit (c.map .str)),(18,.int .i64 c.length),(19,.int .i64 i)])
  (fun i=>⟨A,false,[.arr 7 0 [trZ],.arr 7 i ((c.take i).map fun s=>(J9 s).av)]⟩) (fun i=>i<=c.length) (fun i=>c.length-i) 0 rfl rfl (by simp) ?_
 rintro i hi
 repeat'(first|refine ZE ?_|refine ZD ?_|refine ZG Y ?_|refine ZB Y ?_|refine ZC ?_|refine Qt Y Y ?_|refine Yi Y Y (by omega) (fun _=>rfl) (fun _ _=>?_)|(refine cm0 Y Y Y ?_ ?_<;>intro _<;>try omega)|refine ZU Y ?_|refine ZF Y ?_|refine Zr Y Y (by omega) ?_|refine Zn Y Y Y ?_|refine Q2 Y Y Y Y ?_|refine ZhW Y Y Y (by first|rfl|(simp;done)|(simp;omega)) (by first|omega|(simp<;>omega)) (by decide) rfl rfl rfl ?_|refine ZH ?_|refine Zz ?_|refine ZS ?_|refine Zk ?_|refine Z5 ?_|refine Zh Y ?_|refine QJ ?_|refine Zx ?_)
 ·rename_i x hx
  have hx2:c[i]?=some x:=hx
  refine⟨i+1,⟨rfl,?_⟩,by omega,by omega⟩
  simp only[Zs hx2,List.map_append,jC,List.map_nil];rfl
 ·have hi':i=c.length:=by omega
  subst hi';rw[List.take_length]
  have:=Zo9 hN hs (A:=A) (.arr 7 0 [trZ]) (c.map J9) s.length r ra (by omega) (by omega) hres (k:=[.blk 2,.seq (.seq ZIM .ret)]) (Q:=fun x e st'=>Jm false [.c 2 true 7,.s 3] (x,e,st')=some (.tup [(grp r).av,.int .i64 0],st)) (fun G ver=>?_) c.length [(17,.lit (c.map .str)),(18,.int .i64 c.length),(19,.int .i64 c.length),(20,.bool false)]
  ·rw[List.map_map,List.length_map]at this
   exact this
  ·repeat'(first|refine ZE ?_|refine ZD ?_|refine ZG Y ?_|refine ZB Y ?_|refine ZC ?_|refine Qs Y Y Y Y (Qn _ _ _) (JR _ _) ?_|refine ZA Y Y (by first|rfl|(simp only[lE,lN,lC,Zm,Zb,ZZ];first|done|rfl)) (hG (Sl.cur (ZcR _ _ _) rfl)) ?_|refine ZP ?_|refine ZL ?_|refine Zh Y ?_)
   exact ZEc hA (.inr Y) Y Y Y Y
theorem Zky:∀ {N:ZO} {h:Nat} {x:Nd},lk N h=none->ZIb (.int .u64 h) x.av (N.map nodeAV)=some ((N++[(h,x)]).map nodeAV)
 | [],h,x,_=>rfl
 | p::N,h,x,hn=>by
  rw[lk]at hn
  by_cases q:p.1=h
  ·rw[if_pos q]at hn;simp at hn
  ·rw[if_neg q]at hn
   rw[jC,ZIb]
   show (Option.bind (if IntKind.u64=IntKind.u64 then some ((h:Int) == (p.1:Int)) else none) fun b=>if b=true then some ((AV.int .u64 h,x.av)::N.map nodeAV) else (ZIb (.int .u64 h) x.av (N.map nodeAV)).map (nodeAV p::·))=_
   rw[if_pos rfl,oS,if_neg (by simp;omega),Zky hn]
   rfl
section
variable {O:Orc}{k:List Fr}{Q:Jh}{e:Env}{A:List (Bool × List Blk)}{L:List Blk}{keep:List Nat}{is:List PI}{d:Nat}
theorem Zkz{i v:Opd}{lv h:Nat}{w:AV}{es es':List (AV × AV)}(hA:A=st.A++[(st.ro,st.L)])(hx:Zg e x=some (.map lv ix))(hi:Zg e i=some (.int .u64 h))(hv:Zg e v=some w)(hw:st.wr lv)(hg:st.get lv ix=some (.map es))
 (hs:ZY QO (lv+1) ⟨A,false,L⟩ w=some (w,⟨A,false,L⟩)) (hp:ZIb (.int .u64 h) w es=some es')
 (hh:∀A',A'=(st.upd lv ix (.map es')).A++[((st.upd lv ix (.map es')).ro,(st.upd lv ix (.map es')).L)]->Is O is keep k Q e ⟨A',false,L⟩):Is O (⟨none,none,false,.mupd 0 x i v⟩::is) keep k Q e ⟨A,false,L⟩:=by
 have hl:=St.get_le hg;refine Z4 (od:=none) (v:=.undef) (st':=St.upd ⟨A,false,L⟩ lv ix (.map es')) ?_ ?_
 ·simp only[Zl,evalPO,ZJ hx,ZJ hi,ZJ hv,ZNZ,Y0,if_true,hs,oS,ZTh,ZV hA hg,ZQT,hp,St.put_upd (XL hA hl hw) (ZV hA hg),ZCG]
 ·rw[Yt hA hl]
  exact hh _ Y
end
def AR.alloc(r:AR)(s g:Nat)(x:Nd):AR:={ r.take s with nodes:=r.nodes++[(g*65536+s,x.copy)],allocs:=r.allocs+1 }
def ZAl(st:St)(lv b:Nat)(r:AR)(s g:Nat)(x:Nd):St:=((Q9 st lv b r s).upd lv (b+4) (r.alloc s g x).b4).upd lv (b+5) ((r.alloc s g x).b5 lv b)
theorem Zgi{L:List Blk}(hA:A=st.A++[(st.ro,st.L)]){lv b s:Nat}{r:AR}(hl:lv<=st.A.length):
 Q9 ⟨A,ro,L⟩ lv b r s=⟨(Q9 st lv b r s).A++[((Q9 st lv b r s).ro,(Q9 st lv b r s).L)],ro,L⟩:=by
 unfold Q9;rw[Yt hA hl]
 exact Yt Y (by rw[St.upd_A];exact hl)
theorem ZrQ(st:St)(lv b s:Nat)(r:AR):(Q9 st lv b r s).A.length=st.A.length:=by
 unfold Q9;rw[St.upd_A,St.upd_A]
structure CanTake(r:AR)(k s g:Nat):Prop where
 n:r.n=k+1
 blk:r.blk[k]?=some (s:Int)
 st:s<r.states.length
 s16:s<16384
 gen:r.gens[s]?=some (g:Int)
 g1:1<=g
 g2:g<=4294967295
 big:r.n<65536
 new:lk r.nodes (g*65536+s)=none
 al:0<=r.allocs/\r.allocs<1000000
theorem Zgj{lv b:Nat}{r:AR}(h:Has st lv b r){k s:Nat}(hc:CanTake r k s g)(x:Nd)(v:AV)(hone:v.one=true)
 (A:List (Bool × List Blk)) (G:List Blk) (hA:A=(Q9 st lv b r s).A++[((Q9 st lv b r s).ro,(Q9 st lv b r s).L)]) (hC:∀L,S Tb QD [weak v] ⟨A,false,L⟩=some (.lit (x.ks.map Kid.av),⟨A,false,L⟩)) :
 Ru (S Tb) (.seq ZAb (.seq ZAc (.seq ZAd (.seq ZAe .ret)))) [] (fun x' e st' =>
  Jm false [RV.s 4,RV.s 5] (x',e,st')=some (.tup [.int .u64 ((g*65536+s:Nat):Int),.int .i64 0],ZAl st lv b r s g x))
  [(0,.ptr lv (b+5) 0 0 0),(3,.ptr A.length 0 0 0 0),(13,.int .u64 ((g*65536+s:Nat):Int)),(14,.int .i64 0),(72,.bool false)] ⟨A,false,.arr 3 0 [.agg [.int .i64 x.h,.str x.text,v]]::G⟩:=by
 have ht:=h.take s
 have g5:=fun L=>ZV hA (ro:=false) (L:=L) ht.h5
 unfold AR.b5 at g5;have hal:=hc.al;have hpv:Jk (.agg [.int .i64 x.h,.str x.text,v]) false 2 1=some v:=rfl
 repeat'(first|refine ZE ?_|refine ZD ?_|refine ZI Y Y ?_|refine ZQ Y Y Y Y ?_)
 refine ZA Y Y Y (hC _) ?_;have hstv:(JU 3 (.agg [.int .i64 x.h,.str x.text,v]) 2 1 (.lit (x.ks.map Kid.av))).bind YS=some x.copy.av:=rfl
 repeat'(first|refine ZE ?_|refine ZD ?_|refine ZG Y ?_|refine ZI Y Y ?_|refine ZQ Y Y Y Y ?_|refine ZB Y ?_|refine ZC ?_|refine Ze Y Y ?_|refine Qs Y Y Y Y Y Y ?_|refine Zt Y (g5 _) Y Y ?_)
 have hp:=Zky (N:=r.nodes) (x:=x.copy) hc.new
 refine Zkz (w:=x.copy.av) hA Y Y Y ht.wr ht.h4 Y hp (fun A1 hA1=>?_)
 have eM:Blk.map ((r.nodes++[(g*65536+s,x.copy)]).map nodeAV)=(r.alloc s g x).b4:=rfl;rw[eM]at hA1
 have q1:∀l' i',((Q9 st lv b r s).upd lv (b+4) (r.alloc s g x).b4).get l' i'=if l'=lv/\i'=b+4 then some (r.alloc s g x).b4 else (Q9 st lv b r s).get l' i':=fun l' i'=>St.get_upd ht.h4 rfl
 have k5:((Q9 st lv b r s).upd lv (b+4) (r.alloc s g x).b4).get lv (b+5)=some ((r.take s).b5 lv b):=by rw[q1,if_neg (by omega)];exact ht.h5
 have hw1:=St.wr_upd (b:=(r.alloc s g x).b4) (ix:=b+4) ht.wr ht.wr;have eA:ZAl st lv b r s g x=((Q9 st lv b r s).upd lv (b+4) (r.alloc s g x).b4).upd lv (b+5) ((r.alloc s g x).b5 lv b):=rfl;rw[eA]
 generalize (Q9 st lv b r s).upd lv (b+4) (r.alloc s g x).b4=st1 at *
 unfold AR.b5 at k5
 have m5:=fun L=>ZV hA1 (ro:=false) (L:=L) k5
 have hat:(r.take s).allocs=r.allocs:=rfl;rw[hat]at k5 m5
 repeat'(first|refine ZE ?_|refine ZD ?_|refine ZG Y ?_|refine ZI Y Y ?_|refine ZB Y ?_|refine ZC ?_|refine Ze Y Y ?_|refine Zr Y Y (by omega) ?_|refine Zt Y (m5 _) Y Y ?_)
 refine ZJc hA1 Y Y hw1 k5 Y Y Y (fun A2 hA2=>?_)
 have eB:Blk.arr 6 0 ([AV.agg [.int .i64 (r.take s).slots,.ptr lv (b+3) 0 0 0,.map lv (b+4),.int .i64 r.allocs,.int .i64 (r.take s).frees,.int .i64 (r.take s).stale]].set 0 (.agg [.int .i64 (r.take s).slots,.ptr lv (b+3) 0 0 0,.map lv (b+4),.int .i64 (r.allocs+1),.int .i64 (r.take s).frees,.int .i64 (r.take s).stale]))=(r.alloc s g x).b5 lv b:=rfl;rw[eB]at hA2
 repeat'(first|refine ZE ?_|refine ZD ?_|refine ZG Y ?_|refine ZB Y ?_|refine ZC ?_|refine ZP ?_|refine ZL ?_)
 refine ZX hA2 (.inr Y) Y Y Y Y ?_;rfl
theorem Zmj{lv b:Nat}{r:AR}(h:Has st lv b r){k s:Nat}(hc:CanTake r k s g)(text:B8)(ht:ZCD text):
 S Tb Jq [.ptr lv (b+5) 0 0 0,.agg [.int .i64 (0:Nat),.str text,.nils]] st=some (.tup [.int .u64 ((g*65536+s:Nat):Int),.int .i64 0],ZAl st lv b r s g ⟨0,text,none⟩):=by
 refine Jz Y (fun A hA=>?_)
 have hN:=fun st=>ZP2 ⟨0,text,none⟩ (.inl ⟨rfl,ht.1,ht.2,rfl⟩) st
 simp only[Nd.av,slV]at hN
 have g5:=fun L=>ZV hA (ro:=false) (L:=L) h.h5
 unfold AR.b5 at g5
 repeat'(first|refine ZE ?_|refine ZD ?_|refine ZG Y ?_|refine ZI Y Y ?_|refine ZQ Y Y Y Y ?_|refine ZB Y ?_|refine ZC ?_|refine Ze Y Y ?_|refine J8 Y ?_|(refine cm0 Y Y Y ?_ ?_<;>intro _<;>try omega)|refine ZF Y ?_|refine JM Y Y Y Y ?_|refine Zc Y Y Y ?_|refine ZA Y Y Y (hN _) ?_|refine YD ?_|refine Zt Y (g5 _) Y Y ?_|refine ZH ?_|refine Zz ?_|refine ZS ?_|refine Zk ?_|refine Zh Y ?_)
 all_goals try omega
 have hle:=St.get_le h.h3
 have hTk:=fun L=>ZrN (st:=⟨A,false,L⟩) ⟨XL hA hle h.wr,ZV hA h.h0,ZV hA h.h1,ZV hA h.h2,ZV hA h.h3,ZV hA h.h4,ZV hA h.h5⟩ hc.n hc.blk hc.st hc.s16 hc.gen ⟨hc.g1,hc.g2⟩ hc.big
 refine ZA Y Y Y (hTk _) ?_;rw[Zgi hA hle];obtain⟨A1,hA1⟩:∃A1,A1=(Q9 st lv b r s).A++[((Q9 st lv b r s).ro,(Q9 st lv b r s).L)]:=⟨_,rfl⟩;rw[<- hA1]
 have hlen:A.length=A1.length:=by rw[hA,hA1,lL,lL,ZrQ];rfl
 rw[hlen];refine ZG Y ?_;refine Zp Y Y ?_;refine Zp Y Y ?_;refine ZG Y ?_;refine ZG Y ?_;refine ZB Y ?_;refine ZC ?_;refine ZE ?_;refine ZE ?_;refine ZD ?_;refine ZG Y ?_
 refine Zd Y Y (fun q=>absurd Y q) (fun _=>?_)
 refine ZB Y ?_;refine ZC ?_;refine ZF Y ?_;refine ZH ?_;refine ZC ?_
 have:=Zgj h hc ⟨0,text,none⟩ .nils rfl A1 [] hA1 (fun L=>Ztx _)
 exact this
section
variable {O:Orc}{k:List Fr}{Q:Jh}{e:Env}{A:List (Bool × List Blk)}{L:List Blk}{keep:List Nat}{is:List PI}{d:Nat}
theorem ZvM{a:Opd}{i o:Nat}{x:AV}{c:Blk}(ha:Zg e a=some (.ptr A.length L.length ver i o))(hx:es[i]?=some x)(hv:Jk x agg o n=some v)
 (h:Is O is keep k Q ((d,v)::e) ⟨A,false,L++[Blk.arr w ver es]++[c]⟩):Is O (⟨some d,none,false,.ld agg n a⟩::is) keep k Q e ⟨A,false,L++[Blk.arr w ver es]++[c]⟩ :=
 ZQ (w:=w) ha (by rw[List.append_assoc];exact ZcR L _ _) hx hv h
theorem ZvN{a:Opd}{i o:Nat}{x:AV}{c c2:Blk}(ha:Zg e a=some (.ptr A.length L.length ver i o))(hx:es[i]?=some x)(hv:Jk x agg o n=some v)
 (h:Is O is keep k Q ((d,v)::e) ⟨A,false,L++[Blk.arr w ver es]++[c]++[c2]⟩):Is O (⟨some d,none,false,.ld agg n a⟩::is) keep k Q e ⟨A,false,L++[Blk.arr w ver es]++[c]++[c2]⟩ :=
 ZQ (w:=w) ha (by rw[List.append_assoc,List.append_assoc];exact ZcR L _ _) hx hv h
end
def ZrR(N:ZO)(n:Nat)(ks:List Kid):Prop:=∀k∈ks,∃y,lk N k.at_=some y/\NdOk y/\y.h=n/\y.mea=k.m
theorem Zgk{j i:Nat}:∀ {L0 T:List Blk},findH j T=some i->findH j (L0++T)=some (L0.length+i)
 | [],T,h=>by simpa using h
 | b::L0,T,h=>by
  have:=Zgk (L0:=L0) h
  unfold findH;rw[lC];simp only[this,List.length_cons]
  congr 1;omega
theorem ZXr:∀ {L0 T:List Blk} {i:Nat} {b:Blk},(L0++T).set (L0.length+i) b=L0++T.set i b
 | [],T,i,b=>by simp
 | c::L0,T,i,b=>by
  rw[lC,List.length_cons,show L0.length+1+i=(L0.length+i)+1 by omega,List.set_cons_succ,ZXr];rfl
theorem JJ:∀ {L0 T:List Blk} {i:Nat},(L0++T)[L0.length+i]?=T[i]?
 | [],T,i=>by simp
 | c::L0,T,i=>by
  rw[lC,List.length_cons,show L0.length+1+i=(L0.length+i)+1 by omega,List.getElem?_cons_succ,JJ]
section
variable {O:Orc}{k:List Fr}{Q:Jh}{e:Env}{A:List (Bool × List Blk)}{L L0 T T':List Blk}{keep:List Nat}{is:List PI}{d:Nat}
theorem Znv{js:List Nat}(h:Is O is keep k Q e ⟨A,false,L++js.map Blk.hole⟩):Ru O (.regH js keep is) k Q e ⟨A,false,L⟩:=by
 obtain⟨e',st',h1,h2⟩:=h.h;refine⟨⟨.norm,Xn keep e',st',?_,h2⟩⟩;simp only[exec,Zlq,jB,if_false,oS,h1,ZUH]
theorem Zt7{i bytes:Nat}{l c:Opd}{n:Int}(hl:Zg e l=some (.int .i64 n))(hc:Zg e c=some (.int .i64 n))(hn:0<=n/\n<4294967296)(hb:bytes<=4096)(hf:findH j T=some i)
 (hL:YL (T.set i (Blk.arr w 0 (List.replicate n.toNat z)))=some T') (h:Is O is keep k Q ((d,.ref A.length (L0.length+i) 0 0 n.toNat)::e) ⟨A,false,L0++T'⟩):Is O (⟨some d,none,false,.w (.here j) (.mkslice w bytes z l c)⟩::is) keep k Q e ⟨A,false,L0++T⟩:=by
 rw[<- JG hL,<- ZXr]at h;refine Z4 (v:=.ref A.length (L0.length+i) 0 0 n.toNat) (st':=⟨A,false,(L0++T).set (L0.length+i) (Blk.arr w 0 (List.replicate n.toNat z))⟩) ?_ h
 simp only[Zl,QF,newOf,ZJ hl,ZJ hc,mkslB,if_pos (show 0<=n/\n<=n/\n<4294967296/\bytes<=4096 by omega),oS,ZX1,ZjT,and_self,if_true,Zgk hf,ZX0]
theorem Xu{m:Nat}(hx:Zg e x=some v)(hw:v.wide=some w)(hv:YS v=some v')(hm:Zc5 T=some m)(hL:YL (T++[Blk.arr w 0 [v']])=some T')(h:Is O is keep k Q ((d,.ptr A.length (L0.length+m) 0 0 0)::e) ⟨A,false,L0++T'⟩):Is O (⟨some d,none,false,.box x⟩::is) keep k Q e ⟨A,false,L0++T⟩:=by
 rw[<- JG hL,<- ZA4 hm,<- List.append_assoc,<- lL]at h;exact Zw hx hw hv h
theorem ZpA{m:Nat}(hm:Zc5 T=some m)(hL:YL (T++[Blk.map []])=some T')(h:Is O is keep k Q ((d,.map A.length (L0.length+m))::e) ⟨A,false,L0++T'⟩):Is O (⟨some d,none,false,.mkmap⟩::is) keep k Q e ⟨A,false,L0++T⟩:=by
 rw[<- JG hL,<- ZA4 hm,<- List.append_assoc,<- lL]at h
 exact Z4 (v:=.map A.length (L0++T).length) (st':=⟨A,false,L0++T++[Blk.map []]⟩) (by simp only[Zl,evalPO,oS,St.new_cur,ZNY]) h
theorem ZDs{a:Opd}{i o:Nat}{x:AV}(ha:Zg e a=some (.ptr A.length (L0.length+ix) ver i o))(hg:T[ix]?=some (Blk.arr w ver es))(hx:es[i]?=some x)(hv:Jk x agg o n=some v)
 (h:Is O is keep k Q ((d,v)::e) ⟨A,false,L0++T⟩):Is O (⟨some d,none,false,.ld agg n a⟩::is) keep k Q e ⟨A,false,L0++T⟩ :=
 ZQ ha (by rw[JJ];exact hg) hx hv h
theorem Znw{i:Opd}{s m:Nat}{n:Int}(hx:Zg e x=some (.ref A.length (L0.length+ix) ver s m))(hi:Zg e i=some (.int .i64 n))(hn:0<=n/\n<m)(hg:T[ix]?=some (Blk.arr w ver es))(h:Is O is keep k Q ((d,.ptr A.length (L0.length+ix) ver (s+n.toNat) 0)::e) ⟨A,false,L0++T⟩):Is O (⟨some d,none,false,.ixS w x i⟩::is) keep k Q e ⟨A,false,L0++T⟩ :=
 ZKr hx hi hn (by rw[JJ];exact hg) h
theorem Zmk{a:Opd}{i o:Nat}{y:AV}(ha:Zg e a=some (.ptr A.length (L0.length+ix) ver i o))(hx:Zg e x=some v)(hg:T[ix]?=some (Blk.arr w ver es))(hy:es[i]?=some y)
 (hs:ZY QO (A.length+1) ⟨A,false,L0++T⟩ v=some (v,⟨A,false,L0++T⟩)) (hv:(JU w y o n v).bind YS=some v') (hL:YL (T.set ix (Blk.arr w ver (es.set i v')))=some T') (h:Is O is keep k Q e ⟨A,false,L0++T'⟩):Is O (⟨none,none,false,.st n a x⟩::is) keep k Q e ⟨A,false,L0++T⟩:=by
 rw[<- JG hL,<- ZXr]at h
 exact Qs (by rw[JJ];exact hg) ha hx hy hs hv h
end
def JT(n g:Nat):AR:=⟨(List.range n).map fun (j:Nat)=>(n:Int)-1-j,n,0,List.replicate n 0,List.replicate n 1,g,[],n,0,0,0⟩
theorem ZL7{i:Nat}{k:IntKind}{f:Nat->Int}{z:Int}(hi:i<n):((List.range n).map fun j=>AV.int k (if j<i then f j else z)).set i (.int k (f i))=(List.range n).map fun j=>AV.int k (if j<i+1 then f j else z):=by
 apply List.ext_getElem
 ·simp
 ·intro j hj hj'
  simp only[List.getElem_set,List.getElem_map,List.getElem_range]
  by_cases q:i=j
  ·subst q;simp
  ·rw[if_neg q]
   have:j<i+1↔j<i:=by omega
   simp only[this]
theorem Zt8(n g:Nat)(hn:1<=n/\n<=16384)(hg:1<=g/\g<=4294967295)(A:List (Bool × List Blk))(L0:List Blk):
 S Tb ZC7 [.int .i64 n,.int .u64 g] ⟨A,false,L0⟩=some (.tup [.ptr A.length (L0.length+3) 0 0 0,.int .i64 0],⟨A,false,L0++[(JT n g).b0,(JT n g).b1,(JT n g).b2,(JT n g).b3 A.length L0.length]⟩):=by
 refine XW Y ?_
 have hmap:∀(k:IntKind) (z:Int),List.replicate n (AV.int k z)=(List.range n).map fun (j:Nat)=>AV.int k (if j<0 then (fun (j:Nat)=>(n:Int)-1-j) j else z):=by
  intro k z;simp only[Nat.not_lt_zero,if_false,List.map_const',List.length_range]
 have hmap1:List.replicate n (AV.int .u64 0)=(List.range n).map fun j=>AV.int .u64 (if j<0 then (fun _=>(1:Int)) j else 0):=by
  simp only[Nat.not_lt_zero,if_false,List.map_const',List.length_range]
 repeat'(first|refine ZE ?_|refine ZD ?_|refine ZG Y ?_|refine Z9 Y ?_|refine Zi Y Y Y Y ?_|refine ZB Y ?_|refine ZC ?_|(refine cm0 Y Y Y ?_ ?_<;>intro _<;>try omega)|refine ZF Y ?_|refine Zn Y Y Y ?_|refine Zw Y Y Y ?_|refine Znv ?_|refine Zt7 Y Y (by omega) (by decide) Y Y ?_|refine ZH ?_|refine ZS ?_)
 simp only[lL,List.length_cons,List.length_nil,List.append_assoc,lC,lE,Int.toNat_natCast,Nat.zero_add];rw[hmap .i64 0,hmap1]
 refine Z2 (α:=Nat) (fun i=>[(0,.int .i64 n),(6,.ptr A.length (L0.length+3) 0 0 0),(31,.int .i64 n),(32,.int .i64 i)])
  (fun i=>⟨A,false,L0++[.arr 1 0 (List.replicate n (.int .u8 0)),.arr 1 0 ((List.range n).map fun (j:Nat)=>.int .i64 (if j<i then (fun (j:Nat)=>(n:Int)-1-j) j else 0)),.arr 1 0 ((List.range n).map fun (j:Nat)=>.int .u64 (if j<i then (fun _=>(1:Int)) j else 0)),.arr 4 0 [.agg [.ref A.length (L0.length+1) 0 0 n,.ref A.length (L0.length+0) 0 0 n,.ref A.length (L0.length+2) 0 0 n,.int .u64 g]]]⟩)
  (fun i=>i<=n) (fun i=>n-i) 0 rfl rfl (Nat.zero_le _) ?_
 intro i hi
 repeat'(first|refine ZE ?_|refine ZD ?_|refine ZG Y ?_|refine ZI Y Y ?_|refine ZB Y ?_|refine ZC ?_|refine Ze Y Y ?_|(refine cm0 Y Y Y ?_ ?_<;>intro _<;>try omega)|refine ZU Y ?_|refine ZF Y ?_|refine Qe Y Y (by omega) ?_|refine ZDs Y Y Y Y ?_|refine Znw Y Y (by omega) Y ?_|refine ZH ?_|refine ZP ?_|refine Zz ?_|refine ZS ?_|refine ZL ?_|refine Zk ?_|refine Zh Y ?_|refine Zx ?_)
 ·simp only[Nat.zero_add,Int.toNat_natCast]
  refine Zmk (y:=.int .i64 0) Y Y Y ?_ Y Y Y ?_
  ·rw[jG,List.getElem?_range (by omega)];simp
  rw[ZL7 (f:=fun (j:Nat)=>(n:Int)-1-j) (by omega)]
  repeat'(first|refine ZD ?_|refine ZG Y ?_|refine ZI Y Y ?_|refine ZB Y ?_|refine ZC ?_|refine Ze Y Y ?_|refine ZDs Y Y Y Y ?_|refine Znw Y Y (by omega) Y ?_)
  simp only[Nat.zero_add,Int.toNat_natCast];refine Zmk (y:=.int .u64 0) Y Y Y ?_ Y Y Y ?_
  ·rw[jG,List.getElem?_range (by omega)];simp
  rw[ZL7 (f:=fun (j:Nat)=>(1:Int)) (by omega)]
  repeat'(first|refine ZD ?_|refine ZG Y ?_|refine ZB Y ?_|refine ZC ?_|refine Zr Y Y (by omega) ?_|refine Z5 ?_|refine QJ ?_)
  exact⟨i+1,⟨rfl,rfl⟩,by omega,by omega⟩
 ·obtain rfl:i=n:=by omega
  have e1:∀(k:IntKind) (f:Nat->Int),((List.range i).map fun (j:Nat)=>AV.int k (if j<i then f j else 0))=(List.range i).map fun j=>.int k (f j):=by
   intro k f
   apply List.map_congr_left
   intro j hj;rw[List.mem_range]at hj;rw[if_pos hj]
  simp only[e1,AR.b0,AR.b1,AR.b2,AR.b3,JT,List.map_replicate,List.map_map,List.length_replicate];simp only[List.map_const',List.length_range];rfl
theorem Znx(n g:Nat)(hn:1<=n/\n<=16384)(hg:1<=g/\g<=4294967295)(A:List (Bool × List Blk))(L0:List Blk):
 S Tb ZBV [.int .i64 n,.int .u64 g] ⟨A,false,L0⟩=some (.tup [.ptr A.length (L0.length+5) 0 0 0,.int .i64 0],⟨A,false,L0++[(JT n g).b0,(JT n g).b1,(JT n g).b2,(JT n g).b3 A.length L0.length,(JT n g).b4,(JT n g).b5 A.length L0.length]⟩):=by
 refine XW Y ?_
 repeat'(first|refine ZE ?_|refine ZD ?_|refine ZG Y ?_|refine Zp Y Y ?_|refine ZB Y ?_|refine ZC ?_|(refine cm0 Y Y Y ?_ ?_<;>intro _<;>try omega)|refine ZF Y ?_|refine Zn Y Y Y ?_|refine Zw Y Y Y ?_|refine ZA Y Y Y (Zt8 n g hn hg A L0) ?_|refine ZpA Y Y ?_|refine ZH ?_|refine ZP ?_|refine ZL ?_)
 simp only[lL,List.append_assoc,lC,lE];rfl
noncomputable def ZQB(N:ZO)(t:Tr)(a n:Int)(s:B8):Tr :=
 if n=0/\s=[] then t
 else ZAu N (ZAu N (ZB6 N t.h t a).1 (Jv s)) (ZB6 N (ZB6 N t.h t a).2.h (ZB6 N t.h t a).2 n).2
structure ReplOk(N:ZO)(t:Tr)(a n:Int)(s:B8)(r:Tr):Prop where
 ve:VE N r
 txt:r.txt N=(t.txt N).take a.toNat++s++(t.txt N).drop (a+n).toNat
 bytes:r.bytes=t.bytes-n+s.length
theorem Zk0{N:ZO}(hN:GoodN N)(ht:VE N t){a n:Int}{s:B8}(h0:0<=a)(h1:0<=n)(h2:a+n<=t.bytes)(hb:t.bytes<=65536)(hs:t.bytes-n+s.length<=65536):ReplOk N t a n s (ZQB N t a n s):=by
 unfold ZQB
 split
 ·rename_i h
  obtain⟨rfl,rfl⟩:=h
  exact⟨ht,by simp,by simp⟩
 ·have c1:=ZP8 hN t.h t a ht rfl h0 (by omega) hb
  generalize ZB6 N t.h t a=q at *
  obtain⟨l,m⟩:=q
  simp only at *
  have hm:=c1.rb;have hl:=c1.lb
  simp only at hm hl
  have c2:=ZP8 hN m.h m n c1.r rfl h1 (by omega) (by omega)
  generalize ZB6 N m.h m n=q at *
  obtain⟨d,r⟩:=q
  simp only at *
  have hr:=c2.rb
  simp only at hr
  obtain⟨b1,b2,b3⟩:=ZGA hN (s:=s) (by omega)
  have k1:=ZDr hN c1.l b1 (by rw[b3];simp only;omega)
  have k2:=ZDr hN k1.ve c2.r (by rw[k1.bytes,b3];simp only;omega)
  refine⟨k2.ve,?_,by rw[k2.bytes,k1.bytes,b3];simp only;omega⟩
  rw[k2.txt,k1.txt,b2];have e1:=c1.lt;have e2:=c1.rt;have e3:=c2.rt
  simp only at e1 e2 e3 ⊢
  rw[e1,e3,e2,List.drop_drop,show a.toNat+n.toNat=(a+n).toNat by omega]
theorem ZpB{N:ZO}(hN:GoodN N){lv:Nat}(hr:Rd st lv ix N)(ht:VE N t){a n:Int}{s:B8}(h0:0<=a)(h1:0<=n)(h2:a+n<=t.bytes)(hb:t.bytes<=65536)(hs:t.bytes-n+s.length<=65536):
 S Tb ZC8 [.ptr lv ix 0 0 0,t.av,.int .i64 a,.int .i64 n,.str s] st=some (.tup [(ZQB N t a n s).own.av,.int .i64 0],st):=by
 refine QA Y (fun A hA=>?_)
 have hrp:=fun L=>hr.push hA (ro:=false) (L:=L)
 have hC:=fun L=>Zkt (hrp L) ht hb
 have hB:=fun st=>ZCe t ht.pos.1 (by omega) st
 have hpos:=ht.pos.2
 by_cases hz:n=0/\s=[]
 ·have he:ZQB N t a n s=t:=by unfold ZQB;rw[if_pos hz]
  rw[he];obtain⟨rfl,rfl⟩:=hz
  have hO:=fun st=>Zuu t ht.pos.1 st
  generalize t.own=o at *
  repeat'(first|refine ZE ?_|refine ZD ?_|refine ZG Y ?_|refine Z9 Y ?_|refine Ji Y Y ?_|refine Zi Y Y Y Y ?_|refine ZB Y ?_|refine ZC ?_|refine Zqx Y Y ?_|(refine cm0 Y Y Y ?_ ?_<;>intro _<;>try omega)|(refine cm0 Y Y Y ?_ ?_<;>intro _<;>try omega)|(refine cm0 Y Y Y ?_ ?_<;>intro _<;>try omega)|(refine cm0 Y Y Y ?_ ?_<;>intro _<;>try omega)|(refine Y2 Y Y (fun _=>?_) (fun _=>?_)<;>try contradiction)|refine ZU Y ?_|refine ZF Y ?_|refine Qe Y Y (by omega) ?_|refine Zn Y Y Y ?_|refine Zc Y Y Y ?_|refine Zy Y Y Y Y Y Y ?_|refine ZQ Y Y Y (Z0 _) ?_|refine Zy Y Y Y (Qn _ _ _) (JR _ _) Y ?_|refine Zw Y (QI _) (Qc _) ?_|refine ZA Y Y (by first|rfl|(simp only[lE,lN,lC,Zm,Zb,ZZ];first|done|rfl)) (hC _) ?_|refine ZA Y Y (by first|rfl|(simp only[lE,lN,lC,Zm,Zb,ZZ];first|done|rfl)) (hB _) ?_|refine ZA Y Y (by first|rfl|(simp only[lE,lN,lC,Zm,Zb,ZZ];first|done|rfl)) (hO _) ?_|refine ZQp Y Y ?_|refine ZH ?_|refine ZP ?_|refine ZL ?_|refine ZW ?_)
  all_goals try (simp only[jB,if_false]at *)
  all_goals try omega
  all_goals first|(exact ZEc hA (.inr Y) Y Y Y Y)|(exact absurd ⟨by assumption,by assumption⟩ hz)
 ·have hK1:=fun L=>Zuv hN t.h (hrp L) ht rfl a h0 (by omega) hb
  have c1:=ZP8 hN t.h t a ht rfl h0 (by omega) hb
  have hrm:ZQB N t a n s=ZAu N (ZAu N (ZB6 N t.h t a).1 (Jv s)) (ZB6 N (ZB6 N t.h t a).2.h (ZB6 N t.h t a).2 n).2:=by unfold ZQB;rw[if_neg hz]
  have hO0:=(Zk0 hN ht h0 h1 h2 hb hs).ve.pos.1
  generalize ZB6 N t.h t a=q at *
  obtain⟨l,m⟩:=q
  simp only at *
  have hm:=c1.rb;have hl:=c1.lb;have vl:=c1.l;have vm:=c1.r
  simp only at hm hl vl vm
  have hK2:=fun L=>Zuv hN m.h (hrp L) vm rfl n h1 (by omega) (by omega)
  have c2:=ZP8 hN m.h m n vm rfl h1 (by omega) (by omega)
  generalize ZB6 N m.h m n=q at *
  obtain⟨d,r⟩:=q
  simp only at *
  have vr:=c2.r;have hrb:=c2.rb
  simp only at vr hrb
  obtain⟨b1,b2,b3⟩:=ZGA hN (s:=s) (by omega)
  have hBu:=fun st=>Znu hN s (by omega) st
  generalize Jv s=b at *
  have hc1:=fun L=>ZP9 hN (hrp L) vl b1
  have k1:=(ZDr hN vl b1 (by omega)).ve
  generalize ZAu N l b=z1 at *
  have hc2:=fun L=>ZP9 hN (hrp L) k1 vr
  generalize ZAu N z1 r=z2 at *
  rw[hrm]at hO0 ⊢
  have hO:=fun st=>Zuu z2 hO0 st
  generalize z2.own=zo at *
  have hmin:∀x:Int,min x 65536<=x/\min x 65536<=65536/\(min x 65536=x\/min x 65536=65536):=fun x=>by omega
  have hmin2:=hmin s.length
  repeat'(first|refine ZE ?_|refine ZD ?_|refine ZG Y ?_|refine Z9 Y ?_|refine Ji Y Y ?_|refine Zi Y Y Y Y ?_|refine Zp Y Y ?_|refine ZB Y ?_|refine ZC ?_|refine Q4 Y ?_|(refine cm0 Y Y Y ?_ ?_<;>intro _<;>try omega)|(refine cm0 Y Y Y ?_ ?_<;>intro _<;>try omega)|(refine cm0 Y Y Y ?_ ?_<;>intro _<;>try omega)|(refine cm0 Y Y Y ?_ ?_<;>intro _<;>try omega)|(refine Y2 Y Y (fun _=>?_) (fun _=>?_)<;>try contradiction)|refine ZU Y ?_|refine ZF Y ?_|refine Qe Y Y (by omega) ?_|refine Zn Y Y Y ?_|refine Zc Y Y Y ?_|refine Zy Y Y Y Y Y Y ?_|refine ZQ Y Y Y (Z0 _) ?_|refine Zy Y Y Y (Qn _ _ _) (JR _ _) Y ?_|refine Zw Y (QI _) (Qc _) ?_|refine ZA Y Y (by first|rfl|(simp only[lE,lN,lC,Zm,Zb,ZZ];first|done|rfl)) (hC _) ?_|refine ZA Y Y (by first|rfl|(simp only[lE,lN,lC,Zm,Zb,ZZ];first|done|rfl)) (hB _) ?_|refine ZA Y Y (by first|rfl|(simp only[lE,lN,lC,Zm,Zb,ZZ];first|done|rfl)) (hK1 _) ?_|refine ZA Y Y (by first|rfl|(simp only[lE,lN,lC,Zm,Zb,ZZ];first|done|rfl)) (hK2 _) ?_|refine ZA Y Y (by first|rfl|(simp only[lE,lN,lC,Zm,Zb,ZZ];first|done|rfl)) (hBu _) ?_|refine ZA Y Y (by first|rfl|(simp only[lE,lN,lC,Zm,Zb,ZZ];first|done|rfl)) (hc1 _) ?_|refine ZA Y Y (by first|rfl|(simp only[lE,lN,lC,Zm,Zb,ZZ];first|done|rfl)) (hc2 _) ?_|refine ZA Y Y (by first|rfl|(simp only[lE,lN,lC,Zm,Zb,ZZ];first|done|rfl)) (hO _) ?_|refine ZQp Y Y ?_|refine ZH ?_|refine ZP ?_|refine ZL ?_|refine ZW ?_)
  all_goals try (simp only[jB,if_false]at *)
  all_goals try omega
  all_goals first|(exact ZEc hA (.inr Y) Y Y Y Y)|(exact absurd ⟨by assumption,by assumption⟩ hz)
def hd(N:ZO):Nat:=1*65536+N.length
theorem ZcS:∀ {N M:ZO} {o:Nat},lk (N++M) o=(lk N o).or (lk M o)
 | [],M,o=>by simp[lk]
 | p::N,M,o=>by
  rw[lC,lk,lk]
  by_cases c:p.1=o
  ·rw[if_pos c,if_pos c];rfl
  ·rw[if_neg c,if_neg c,ZcS]
theorem ZDt:GoodN []:=fun o x h=>by simp[lk]at h
theorem ZQC(s:B8):s.countP QB<=s.countP ZAg:=by
 refine List.countP_mono_left (fun b _ h=>?_)
 unfold QB at h;unfold ZAg
 simp at h ⊢
 omega
theorem NdOk.kid{y:Nd}(h:NdOk y)(hl:(leastB y.h:Int)<=y.mea.b){a:Nat}(ha:ZCd a):KidOk y.h ⟨a,y.mea⟩:=by
 rcases h with h|⟨n,ks,h⟩
 ·have hm:y.mea=JQ y.text:=by unfold Nd.mea;rw[if_pos h.h]
  have h1:=h.hi;have h2:=ZQC y.text;have h3:=List.countP_le_length (p:=ZAg) (l:=y.text);refine⟨ha,hl,?_,?_,?_,?_,?_⟩
  all_goals simp only[hm,JQ,h.h,mostB]
  all_goals omega
 ·have e:=h.eq
  subst e;have hms:Nd.mea ⟨n+1,[],some ks⟩=Z7 (ks.map Kid.m):=rfl;have hs:=h.sum;have hhi:=h.hi;have hk:=h.kid
  have key:∀(l:List Kid),(∀k∈l,KidOk n k)->(Z7 (l.map Kid.m)).b<=l.length*(mostB n:Int)/\0<=(Z7 (l.map Kid.m)).r/\(Z7 (l.map Kid.m)).r<=(Z7 (l.map Kid.m)).b/\0<=(Z7 (l.map Kid.m)).l/\(Z7 (l.map Kid.m)).l<=(Z7 (l.map Kid.m)).r:=by
   intro l
   induction l with
   | nil=>intro _;simp[Z7,Mea.zero]
   | cons k l ih =>
    intro hk
    obtain⟨i1,i2,i3,i4,i5⟩:=ih (fun k hk'=>hk k (by simp[hk']))
    have hk1:=hk k (by simp)
    have a1:=hk1.hi;have a2:=hk1.r0;have a3:=hk1.rb;have a4:=hk1.l0;have a5:=hk1.lr;simp only[jC,Z7,Mea.add,List.length_cons]
    have:((l.length+1:Nat):Int)*(mostB n:Int)=l.length*(mostB n:Int)+mostB n:=by
     rw[Int.natCast_add,Int.add_mul];simp
    refine⟨?_,?_,?_,?_,?_⟩<;>omega
  obtain⟨k1,k2,k3,k4,k5⟩:=key ks hk
  have h4:(ks.length:Int)*(mostB n:Int)<=4*(mostB n:Int):=Int.mul_le_mul_of_nonneg_right (by omega) (by omega)
  have hm:=ZP1 n;refine⟨ha,hl,?_,?_,?_,?_,?_⟩
  all_goals simp only[hms,mostB]
  all_goals omega
def arK(lv b:Nat):List (Nat × Nat):=[(lv,b),(lv,b+1),(lv,b+2),(lv,b+3),(lv,b+4),(lv,b+5)]
def arB(lv b:Nat)(r:AR):List Blk:=[r.b0,r.b1,r.b2,r.b3 lv b,r.b4,r.b5 lv b]
def Qy(st:St)(lv b:Nat)(r:AR):St:=Zv st (arK lv b) (arB lv b r)
theorem ZTX(lv b:Nat):(arK lv b).Nodup:=by simp[arK]
section
variable {st:St}{lv b:Nat}{r:AR}
theorem Has.cl(h:Has st lv b r):Cl st (arK lv b) (arB lv b r):=by
 refine⟨ZTX lv b,rfl,fun k hk=>?_,fun j l i c h1 h2=>?_⟩
 ·simp only[arK,List.mem_cons,List.not_mem_nil,or_false]at hk
  rcases hk with rfl|rfl|rfl|rfl|rfl|rfl<;>exact h.wr
 ·match j,h1,h2 with
  | 0,h1,h2=>obtain⟨rfl,rfl⟩:=Prod.mk.inj (Option.some.inj h1);obtain rfl:=Option.some.inj h2;exact h.h0
  | 1,h1,h2=>obtain⟨rfl,rfl⟩:=Prod.mk.inj (Option.some.inj h1);obtain rfl:=Option.some.inj h2;exact h.h1
  | 2,h1,h2=>obtain⟨rfl,rfl⟩:=Prod.mk.inj (Option.some.inj h1);obtain rfl:=Option.some.inj h2;exact h.h2
  | 3,h1,h2=>obtain⟨rfl,rfl⟩:=Prod.mk.inj (Option.some.inj h1);obtain rfl:=Option.some.inj h2;exact h.h3
  | 4,h1,h2=>obtain⟨rfl,rfl⟩:=Prod.mk.inj (Option.some.inj h1);obtain rfl:=Option.some.inj h2;exact h.h4
  | 5,h1,h2=>obtain⟨rfl,rfl⟩:=Prod.mk.inj (Option.some.inj h1);obtain rfl:=Option.some.inj h2;exact h.h5
  | n+6,h1,h2=>simp[arK]at h1
theorem Has.of_cl(h:Cl st (arK lv b) (arB lv b r)):Has st lv b r :=
 ⟨h.wr (lv,b) (by simp[arK]),h.get 0 _ _ _ rfl rfl,h.get 1 _ _ _ rfl rfl,h.get 2 _ _ _ rfl rfl,h.get 3 _ _ _ rfl rfl,h.get 4 _ _ _ rfl rfl,h.get 5 _ _ _ rfl rfl⟩
theorem Has.same(h:Has st lv b r):Qy st lv b r=st:=h.cl.same
theorem Has.put(h:Has st lv b r)(r':AR):Has (Qy st lv b r') lv b r':=.of_cl (h.cl.put rfl rfl)
theorem ZpC:Qy (Qy st lv b r1) lv b r2=Qy st lv b r2:=ZCn (ZTX lv b) rfl rfl
theorem Has.out(h:Has st lv b r)(r':AR){l i:Nat}(hn:¬ (l=lv/\b<=i/\i<=b+5)):(Qy st lv b r').get l i=st.get l i:=by
 refine h.cl.out Y Y (fun q=>hn ?_)
 simp only[arK,List.mem_cons,jP,List.not_mem_nil,or_false]at q;omega
theorem ZKb(r':AR):(Qy st lv b r').A.length=st.A.length:=ZDn _ _ _
theorem Has.le(h:Has st lv b r):lv<=st.A.length:=St.get_le h.h5
theorem Has.push(h:Has st lv b r){L:List Blk}(hA:A=st.ps):Has ⟨A,ro,L⟩ lv b r:=.of_cl (h.cl.push hA)
theorem ZCp{L:List Blk}(hA:A=st.ps)(hl:lv<=st.A.length){r':AR}:Qy ⟨A,ro,L⟩ lv b r'=⟨(Qy st lv b r').ps,ro,L⟩:=by
 refine J4 hA (fun k hk=>?_)
 simp only[arK,List.mem_cons,List.not_mem_nil,or_false]at hk
 rcases hk with rfl|rfl|rfl|rfl|rfl|rfl<;>exact hl
theorem Zml(h:Has st lv b r)(s g:Nat)(x:Nd):ZAl st lv b r s g x=Qy st lv b (r.alloc s g x):=by
 have e:∀X Y',ZAl X lv b r s g x=Y'->X=st->ZAl st lv b r s g x=Y':=fun X Y' h1 h2=>by rw[<- h2];exact h1
 refine e (Qy st lv b r) _ ?_ h.same;unfold ZAl Q9 Qy;rw[ZAf (j:=3) (ZTX lv b) rfl rfl,ZAf (j:=0) (ZTX lv b) rfl rfl,ZAf (j:=4) (ZTX lv b) rfl rfl,ZAf (j:=5) (ZTX lv b) rfl rfl];rfl
end
theorem Jw{k:List Fr}{keep:List Nat}{is:List PI}{α:Type}{f:α->AV}{l:List α}{i:Opd}{n:Int}{a:α}(hx:Zg e x=some (.lit (l.map f)))(hi:Zg e i=some (.int .i64 n))(ha:0<=n/\l[n.toNat]?=some a)(hw:∀a,(f a).wide=some w)
 (h:Is O is keep k Q ((d,.lptr (f a) 0)::e) st):Is O (⟨some d,none,false,.ixS w x i⟩::is) keep k Q e st:=by
 have hlt:=(List.getElem?_eq_some_iff.1 ha.2).1
 refine Yi hx hi (by omega) hw (fun b hb=>?_)
 rw[ha.2]at hb;rw[<- Option.some.inj hb];exact h
theorem ZpD{lv b:Nat}{r:AR}(h:Has st lv b r){k s:Nat}(hc:CanTake r k s g)(n:Nat)(ks:List Kid)(hx:NdOk ⟨n+1,[],some ks⟩)(hL:ZrR r.nodes n ks):
 S Tb Jq [.ptr lv (b+5) 0 0 0,Nd.av ⟨n+1,[],some ks⟩] st=some (.tup [.int .u64 ((g*65536+s:Nat):Int),.int .i64 0],ZAl st lv b r s g ⟨n+1,[],some ks⟩):=by
 refine Jz Y (fun A hA=>?_)
 have hN:=fun st=>ZP2 ⟨n+1,[],some ks⟩ hx st
 have hk4:ks.length<=4:=hx.len
 have hn15:n<=15:=by
  rcases hx with hl|⟨m,l,hi⟩
  ·have:=hl.h;simp at this
  ·have h1:=hi.n15
   have h2:=congrArg Nd.h hi.eq
   simp only at h2
   omega
 simp only[Nd.av,slV]at hN ⊢
 have g5:=fun L=>ZV hA (ro:=false) (L:=L) h.h5
 have g4:=fun L=>ZV hA (ro:=false) (L:=L) h.h4
 unfold AR.b5 at g5;unfold AR.b4 at g4
 repeat'(first|refine ZE ?_|refine ZD ?_|refine ZG Y ?_|refine ZI Y Y ?_|refine ZQ Y Y Y Y ?_|refine ZB Y ?_|refine ZC ?_|refine Qo Y ?_|(refine cm0 Y Y Y ?_ ?_<;>intro _<;>try omega)|refine ZF Y ?_|refine JM Y Y Y Y ?_|refine Zc Y Y Y ?_|refine ZA Y Y Y (hN _) ?_|refine ZH ?_|refine ZS ?_)
 all_goals try omega
 have hle:=St.get_le h.h3
 refine Z2 (α:=Nat × List Blk) (fun p=>[(0,.ptr lv (b+5) 0 0 0),(3,.ptr A.length 0 0 0 0),(23,.lit (ks.map Kid.av)),(24,.int .i64 ks.length),(25,.int .i64 p.1)]) (fun p=>⟨A,false,.arr 3 0 [.agg [.int .i64 ((n+1:Nat):Int),.str [],.lit (ks.map Kid.av)]]::p.2⟩) (fun p=>p.1<=ks.length) (fun p=>ks.length-p.1) (0,[]) Y Y (by simp) ?_
 rintro⟨i,G⟩ hi
 simp only at hi ⊢
 rcases Nat.lt_or_ge i ks.length with hlt|hge
 ·obtain⟨kd,hk'⟩:∃k,ks[i]?=some k:=⟨ks[i]'(by omega),by simp[hlt]⟩
  obtain⟨y,y1,y2,y3,y4⟩:=hL kd (jM hk')
  have hlk:=fun L z=>Zgd (g4 L) y1 z
  have hMe:=fun st=>ZH6 y y2 st
  have hk1:0<=((i:Nat):Int)/\ks[((i:Nat):Int).toNat]?=some kd:=⟨by omega,by rw[show ((i:Nat):Int).toNat=i by omega];exact hk'⟩
  rw[y4]at hMe;obtain⟨yh,yt,yk⟩:=y
  simp only at y3
  subst y3
  cases yk
  all_goals simp only[Nd.av,slV,Mea.av]at *
  all_goals repeat'(first|refine Jw Y Y hk1 (fun _=>rfl) ?_|refine ZE ?_|refine ZD ?_|refine ZG Y ?_|refine ZI Y Y ?_|refine ZQ Y Y Y Y ?_|refine Z9 Y ?_|refine Zi Y Y Y Y ?_|refine Zp Y Y ?_|refine ZB Y ?_|refine ZC ?_|refine Ze Y Y ?_|refine Ql Y Y Y ?_|refine Qt Y Y ?_|(refine cm0 Y Y Y ?_ ?_<;>intro _<;>try omega)|refine ZU Y ?_|refine ZF Y ?_|refine YA Y Y ?_|refine Zr Y Y (by omega) ?_|refine Qe Y Y (by omega) ?_|refine Zw Y Y Y ?_|refine Q1 Y Y Y Y Y Y ?_|refine Zt Y (g5 _) Y Y ?_|refine ZAN Y Y (hlk _ _) ?_|refine ZA Y Y Y (hMe _) ?_|refine ZvM Y Y Y ?_|refine ZvN Y Y Y ?_|(refine ZEO Y Y (ZrA _ _ _ _ _ _) (fun _=>?_) (fun _=>?_))|refine ZH ?_|refine ZP ?_|refine ZS ?_|refine ZL ?_|refine ZW ?_|refine Z5 ?_|refine QS ?_|refine QJ ?_|refine ZC0 ?_)
  all_goals try omega
  all_goals first|exact⟨(i+1,G++[_]++[_]++[_]),⟨rfl,rfl⟩,by simp only;omega,by simp only;omega⟩|exact absurd ⟨rfl,rfl,rfl⟩ ‹_›
 ·obtain rfl:i=ks.length:=by omega
  have hTk:=fun L=>ZrN (st:=⟨A,false,L⟩) ⟨XL hA hle h.wr,ZV hA h.h0,ZV hA h.h1,ZV hA h.h2,ZV hA h.h3,ZV hA h.h4,ZV hA h.h5⟩ hc.n hc.blk hc.st hc.s16 hc.gen ⟨hc.g1,hc.g2⟩ hc.big
  repeat'(first|refine ZE ?_|refine ZD ?_|refine ZG Y ?_|refine ZI Y Y ?_|refine ZB Y ?_|refine ZC ?_|refine Ze Y Y ?_|(refine cm0 Y Y Y ?_ ?_<;>intro _<;>try omega)|refine ZF Y ?_|refine Zt Y (g5 _) Y Y ?_|refine Zz ?_|refine Zk ?_|refine Zh Y ?_|refine Zx ?_)
  all_goals try omega
  refine ZA Y Y Y (hTk _) ?_;rw[Zgi hA hle];obtain⟨A1,hA1⟩:∃A1,A1=(Q9 st lv b r s).A++[((Q9 st lv b r s).ro,(Q9 st lv b r s).L)]:=⟨_,rfl⟩;rw[<- hA1]
  have hlen:A.length=A1.length:=by rw[hA,hA1,lL,lL,ZrQ];rfl
  rw[hlen];refine ZG Y ?_;refine Zp Y Y ?_;refine Zp Y Y ?_;refine ZG Y ?_;refine ZG Y ?_;refine ZB Y ?_;refine ZC ?_;refine ZE ?_;refine ZE ?_;refine ZD ?_;refine ZG Y ?_
  refine Zd Y Y (fun q=>absurd Y q) (fun _=>?_)
  refine ZB Y ?_;refine ZC ?_;refine ZF Y ?_;refine ZH ?_;refine ZC ?_
  have:=Zgj h hc ⟨n+1,[],some ks⟩ (.lit (ks.map Kid.av)) rfl A1 G hA1 (fun L=>Zi1 ks (by omega) _)
  exact this
structure AROk(r:AR):Prop where
 nb:r.n<=r.blk.length
 n16:r.states.length<=16384
 nn:r.n<=r.states.length
 gl:r.gens.length=r.states.length
 stk:∀i,i<r.n->∃s:Nat,r.blk[i]?=some (s:Int)/\s<r.states.length/\r.states[s]?=some 0
 nd:∀i j,i<r.n->j<r.n->r.blk[i]?=r.blk[j]?->i=j
 gen:∀s,s<r.states.length->∃g:Nat,r.gens[s]?=some (g:Int)/\1<=g/\(g:Int)<=r.most
 most:r.most<=4294967295
 key:∀h x,lk r.nodes h=some x->∃s g:Nat,h=g*65536+s/\s<r.states.length/\r.states[s]?=some 1/\r.gens[s]?=some (g:Int)
 al:0<=r.allocs/\r.allocs+r.n<=r.frees+r.slots
 fr:0<=r.frees/\r.frees<=900000
 sl:r.slots<=16384
def AR.slot(r:AR):Nat:=((r.blk[r.n-1]?).getD 0).toNat
def AR.gen1(r:AR):Nat:=((r.gens[r.slot]?).getD 0).toNat
def AR.next(r:AR):Nat:=r.gen1*65536+r.slot
def AR.add(r:AR)(x:Nd):AR:=r.alloc r.slot r.gen1 x
theorem AROk.top{r:AR}(h:AROk r)(hn:0<r.n):r.blk[r.n-1]?=some (r.slot:Int)/\r.slot<r.states.length/\r.states[r.slot]?=some 0/\r.gens[r.slot]?=some (r.gen1:Int)/\1<=r.gen1/\(r.gen1:Int)<=r.most:=by
 obtain⟨s,h1,h2,h3⟩:=h.stk (r.n-1) (by omega)
 have e1:r.slot=s:=by unfold AR.slot;rw[h1];simp
 obtain⟨g,g1,g2,g3⟩:=h.gen s h2
 have e2:r.gen1=g:=by unfold AR.gen1;rw[e1,g1];simp
 rw[e2,e1];exact⟨h1,h2,h3,g1,g2,g3⟩
theorem AROk.can{r:AR}(h:AROk r)(hn:0<r.n):CanTake r (r.n-1) r.slot r.gen1:=by
 obtain⟨h1,h2,h3,h4,h5,h6⟩:=h.top hn
 have:=h.n16
 have:=h.nn
 have:=h.most
 have:=h.al
 have:=h.fr
 have:=h.sl
 refine⟨by omega,h1,h2,by omega,h4,h5,by omega,by omega,?_,by omega⟩
 cases hk:lk r.nodes (r.gen1*65536+r.slot) with
 | none=>rfl
 | some x =>
  obtain⟨s,g,k1,k2,k3,k4⟩:=h.key _ _ hk
  have:s=r.slot:=by omega
  subst this;rw[h3]at k3
  simp at k3
theorem AROk.add{r:AR}(h:AROk r)(hn:0<r.n)(x:Nd):AROk (r.add x):=by
 obtain⟨h1,h2,h3,h4,h5,h6⟩:=h.top hn;have e1:(r.add x).n=r.n-1:=rfl;have e2:(r.add x).states=r.states.set r.slot 1:=rfl;have e3:(r.add x).nodes=r.nodes++[(r.gen1*65536+r.slot,x.copy)]:=rfl;have e4:(r.add x).blk=r.blk:=rfl;have e5:(r.add x).gens=r.gens:=rfl;have e6:(r.add x).most=r.most:=rfl;have e7:(r.add x).allocs=r.allocs+1:=rfl;have e8:(r.add x).frees=r.frees:=rfl;have e9:(r.add x).slots=r.slots:=rfl
 have hne:∀i,i<r.n-1->r.blk[i]?≠some (r.slot:Int):=fun i hi q=>by
  have:=h.nd i (r.n-1) (by omega) (by omega) (by rw[q,h1])
  omega
 refine⟨by rw[e1,e4];have:=h.nb;omega,by rw[e2,List.length_set];exact h.n16,by rw[e1,e2,List.length_set];have:=h.nn;omega,by rw[e5,e2,List.length_set];exact h.gl,?_,?_,?_,by rw[e6];exact h.most,?_,by rw[e7,e1,e8,e9];have:=h.al;omega,by rw[e8];exact h.fr,by rw[e9];exact h.sl⟩
 ·intro i hi
  rw[e1]at hi
  obtain⟨s,k1,k2,k3⟩:=h.stk i (by omega)
  have:s≠r.slot:=fun q=>hne i hi (by rw[k1,q])
  exact⟨s,k1,by rw[e2,List.length_set];exact k2,by rw[e2,jS (fun q=>this q.symm)];exact k3⟩
 ·intro i j hi hj hij
  rw[e1]at hi hj
  exact h.nd i j (by omega) (by omega) hij
 ·intro s hs
  rw[e2,List.length_set]at hs;exact h.gen s hs
 ·intro a y hy
  rw[e3,ZcS]at hy
  cases hk:lk r.nodes a with
  | some z =>
   obtain⟨s,g,k1,k2,k3,k4⟩:=h.key a z hk
   have:s≠r.slot:=fun q=>by subst q;rw[h3]at k3;simp at k3
   exact⟨s,g,k1,by rw[e2,List.length_set];exact k2,by rw[e2,jS (fun q=>this q.symm)];exact k3,by rw[e5];exact k4⟩
  | none =>
   rw[hk]at hy;simp only[Option.none_or,lk]at hy
   split at hy
   ·rename_i q
    exact⟨r.slot,r.gen1,q.symm,by rw[e2,List.length_set];exact h2,by rw[e2,List.getElem?_set_self h2],by rw[e5];exact h4⟩
   ·simp at hy
theorem AROk.new{r:AR}(h:AROk r)(hn:0<r.n):lk r.nodes r.next=none:=(h.can hn).new
theorem ZKc{r:AR}(h:AROk r)(hn:0<r.n)(x:Nd)(o:Nat):lk (r.add x).nodes o=if o=r.next then some x.copy else lk r.nodes o:=by
 have e3:(r.add x).nodes=r.nodes++[(r.next,x.copy)]:=rfl;rw[e3,ZcS]
 by_cases q:o=r.next
 ·rw[if_pos q,q,h.new hn];simp[lk]
 ·rw[if_neg q]
  cases lk r.nodes o with
  | some y=>rfl
  | none=>simp only[Option.none_or,lk];rw[if_neg (fun w=>q w.symm)]
theorem ZrS{lv b:Nat}{r:AR}(h:Has st lv b r)(ho:AROk r)(hn:0<r.n){x:Nd}(hx:NdOk x)(hxk:x.h=0->x.kids=none)(hL:∀k∈x.ks,∃y,lk r.nodes k.at_=some y/\NdOk y/\y.h+1=x.h/\y.mea=k.m):
 S Tb Jq [.ptr lv (b+5) 0 0 0,x.av] st=some (.tup [.int .u64 r.next,.int .i64 0],Qy st lv b (r.add x)):=by
 have hc:=ho.can hn;unfold AR.add AR.next;rw[<- Zml h]
 rcases hx with hl|⟨n,ks,hi⟩
 ·obtain⟨xh,xt,xk⟩:=x
  have hh:xh=0:=hl.h;subst hh
  have:=hxk rfl
  simp only at this
  subst this;exact Zmj h hc xt ⟨hl.lo,hl.hi⟩
 ·have e:=hi.eq
  subst e
  refine ZpD h hc n ks (.inr ⟨n,ks,hi⟩) (fun k hk=>?_)
  obtain⟨y,y1,y2,y3,y4⟩:=hL k hk
  exact⟨y,y1,y2,by simpa using y3,y4⟩
end Go.Q15
namespace Go.QAbs
variable {a cv td v v' vx z:AV}{agg ro:Bool}{e:Env}{Q:Jh}{A:List (Bool × List Blk)}{cls es ys:LV}{L':List Blk}{d g ib ip ix j jx n ob vb ver w:Nat}{x:Opd}{O:Orc}{st:St}
theorem ZAI:∀l:List Blk,YL l=some l
 | []=>rfl
 | b::l=>by rw[YL,ZAI l]
theorem ZKd:∀l:LV,ZZ l=some l
 | []=>rfl
 | b::l=>by rw[ZZ,ZKd l]
theorem ZpE{k:IntKind}{α:Type}(f:α->Int)(l:List α):Ja 1 (l.map fun a=>AV.int k (f a))=true:=by
 induction l with
 | nil=>rfl
 | cons b s ih=>rw[jC,Ja,List.all_cons];exact Bool.and_eq_true_iff.2 ⟨rfl,ih⟩
theorem ZK1{k:IntKind}{α:Type}(f:α->Int)(n b:Nat)(st:St)(l:List α):mapSt (ZY (n+1) b) st (l.map fun a=>AV.int k (f a))=some (l.map fun a=>AV.int k (f a),st):=by
 induction l with
 | nil=>rfl
 | cons x s ih =>
  rw[jC,mapSt]
  show ((some (AV.int k (f x),st)).bind fun r=>(mapSt (ZY (n+1) b) r.2 (s.map fun a=>AV.int k (f a))).bind (Yd r.1))=_
  rw[oS,ih];rfl
section
variable {O:Orc}{k:List Fr}{Q:Jh}{e:Env}{A:List (Bool × List Blk)}{L:List Blk}{keep:List Nat}{is:List PI}{d:Nat}
theorem ZQD{bytes:Nat}{s:Opd}(hs:Zg e s=some (.ref A.length ix ver 0 n))(hx:Zg e x=some (.lit ys))(hg:L[ix]?=some (Blk.arr w ver es))(hn:n=es.length)(hw:Ja w ys=true)
 (hm:mapSt (ZY QO (A.length+1)) ⟨A,false,L⟩ ys=some (ys,⟨A,false,L⟩)) (hl:es.length+ys.length<4294967296) (hb:bytes<=4096)
 (h:Is O is keep k Q ((d,.ref A.length ix (ver+1) 0 (n+ys.length))::e) ⟨A,false,L.set ix (.arr w (ver+1) (es++ys))⟩):Is O (⟨some d,none,false,.app w bytes s x⟩::is) keep k Q e ⟨A,false,L⟩ :=
 ZXm hs hx hg rfl hn hl hb hw hm (ZAI _) h
theorem Zk1{bytes:Nat}{s:Opd}{vj:Nat}(hs:Zg e s=some (.ref A.length ix ver 0 n))(hx:Zg e x=some (.ref A.length jx vj 0 ys.length))(hj:L[jx]?=some (Blk.arr w vj ys))(hg:L[ix]?=some (Blk.arr w ver es))(hn:n=es.length)(hw:Ja w ys=true)
 (hm:mapSt (ZY QO (A.length+1)) ⟨A,false,L⟩ ys=some (ys,⟨A,false,L⟩)) (hl:es.length+ys.length<4294967296) (hb:bytes<=4096)
 (h:Is O is keep k Q ((d,.ref A.length ix (ver+1) 0 (n+ys.length))::e) ⟨A,false,L.set ix (.arr w (ver+1) (es++ys))⟩):Is O (⟨some d,none,false,.app w bytes s x⟩::is) keep k Q e ⟨A,false,L⟩:=by
 refine ZXm (ys:=ys) hs hx hg ?_ hn hl hb hw hm (ZAI _) h;simp only[elems,St.get_cur,hj,vis,ZBh,true_and,Nat.zero_add,Nat.le_refl,if_true,List.drop_zero,List.take_length]
theorem Zt9{t:Opd}(ht:Zg e t=some (.ref A.length ix ver 0 n))(hx:Zg e x=some vx)(hy:elems ⟨A,false,L⟩ vx=some ys)(hg:L[ix]?=some (Blk.arr w ver es))(hn:n=es.length)(hl:ys.length=n)(hw:Ja w ys=true)
 (hm:mapSt (ZY QO (A.length+1)) ⟨A,false,L⟩ ys=some (ys,⟨A,false,L⟩))
 (h:Is O is keep k Q ((d,.int .i64 ys.length)::e) ⟨A,false,L.set ix (.arr w ver ys)⟩):Is O (⟨some d,none,false,.cpy w t x⟩::is) keep k Q e ⟨A,false,L⟩:=by
 have hlt:ix<L.length:=(List.getElem?_eq_some_iff.1 hg).1;refine Z4 (v:=.int .i64 ys.length) (st':=⟨A,false,L.set ix (.arr w ver ys)⟩) ?_ h
 have e1:es.take 0++ys++es.drop (0+ys.length)=ys:=by rw[List.drop_of_length_le (by omega)];simp
 simp only[Zl,evalPO,ZJ ht,ZJ hx,hy,oS,Zln,hw,if_true,hm,St.get_cur,hg,vis,Zg7,true_and,if_pos (show 0+n<=es.length/\ys.length<=n by omega),e1]
 simp only[St.put,if_true,jB,if_false,if_pos hlt,oS]
theorem ZpF{lv:Nat}{es:List (AV × AV)}(hx:Zg e x=some (.map lv ix))(hg:st.get lv ix=some (.map es))(h:Is O is keep k Q ((d,.int .i64 es.length)::e) st):Is O (⟨some d,none,false,.len 2 x⟩::is) keep k Q e st:=by
 refine Z4 (v:=.int .i64 es.length) (st':=st) ?_ h;simp only[Zl,evalPO,ZJ hx,lenOf,hg,ZXx,oS]
end
end Go.QAbs
namespace Go.Q15
open Go Go.QAbs
variable {r1 r2:AR}{a cv td v v' vx z:AV}{agg ro:Bool}{e:Env}{Q:Jh}{A:List (Bool × List Blk)}{cls es ys:LV}{L':List Blk}{d g ib ip ix j jx n ob vb ver w:Nat}{x:Opd}{O:Orc}{st:St}{t:Tr}
structure HasR(st:St)(lv b:Nat)(r:AR):Prop where
 h0:st.get lv b=some r.b0
 h1:st.get lv (b+1)=some r.b1
 h2:st.get lv (b+2)=some r.b2
 h3:st.get lv (b+3)=some (r.b3 lv b)
 h4:st.get lv (b+4)=some r.b4
 h5:st.get lv (b+5)=some (r.b5 lv b)
theorem Has.r{lv b:Nat}{r:AR}(h:Has st lv b r):HasR st lv b r:=⟨h.h0,h.h1,h.h2,h.h3,h.h4,h.h5⟩
theorem HasR.push{lv b:Nat}{r:AR}{L:List Blk}(hA:A=st.A++[(st.ro,st.L)])(h:HasR st lv b r):HasR ⟨A,ro,L⟩ lv b r :=
 ⟨ZV hA h.h0,ZV hA h.h1,ZV hA h.h2,ZV hA h.h3,ZV hA h.h4,ZV hA h.h5⟩
theorem HasR.allRo{lv b:Nat}{r:AR}(h:HasR st lv b r):HasR st.allRo lv b r :=
 ⟨by rw[J0];exact h.h0,by rw[J0];exact h.h1,by rw[J0];exact h.h2,by rw[J0];exact h.h3,by rw[J0];exact h.h4,by rw[J0];exact h.h5⟩
theorem HasR.rd{lv b:Nat}{r:AR}(h:HasR st lv b r):Rd st lv (b+5) r.nodes:=⟨_,_,_,_,_,_,h.h5,h.h4⟩
theorem Zgl{i:Nat}(f:Nat->AV)(v:AV):((List.range n).map f).set i v=(List.range n).map fun j=>if j=i then v else f j:=by
 apply List.ext_getElem
 ·simp
 ·intro j hj hj'
  simp only[List.getElem_set,List.getElem_map,List.getElem_range]
  by_cases q:i=j
  ·subst q;simp
  ·rw[if_neg q,if_neg (fun w=>q w.symm)]
theorem Zgm{k:Nat}(f:Nat->AV)(h:k<n):((List.range n).map f)[0+((k:Nat):Int).toNat]?=some (f k):=by
 rw[show 0+((k:Nat):Int).toNat=k by omega]
 simp[h]
def ZBg(l:List Int)(i k:Nat):Int:=if k<i\/l.length<k+i+1 then (l[l.length-1-k]?).getD 0 else (l[k]?).getD 0
theorem ZvO(l:List Int):(List.range l.length).map (fun k=>AV.int .i64 (ZBg l 0 k))=l.map (.int .i64):=by
 apply List.ext_getElem
 ·simp
 ·intro k h1 h2
  simp only[List.length_map,List.length_range]at h1;simp only[List.getElem_map,List.getElem_range,ZBg,Nat.not_lt_zero,false_or]
  rw[if_neg (by omega),jE h1];rfl
theorem ZvP(l:List Int){i:Nat}(h:l.length<=2*i+1):(List.range l.length).map (fun k=>AV.int .i64 (ZBg l i k))=l.reverse.map (.int .i64):=by
 apply List.ext_getElem
 ·simp
 ·intro k h1 h2
  simp only[List.length_map,List.length_range]at h1;simp only[List.getElem_map,List.getElem_range,ZBg,List.getElem_reverse]
  split
  ·rw[jE (by omega)];rfl
  ·have:l.length-1-k=k:=by omega
   rw[jE h1];simp only[this,Option.getD_some]
theorem ZpG(l:List Int){i:Nat}(h:2*i+1<l.length):
 (((List.range l.length).map (fun k=>AV.int .i64 (ZBg l i k))).set i (.int .i64 (ZBg l i (l.length-1-i)))).set (l.length-1-i) (.int .i64 (ZBg l i i))=(List.range l.length).map (fun k=>AV.int .i64 (ZBg l (i+1) k)):=by
 rw[Zgl,Zgl]
 apply List.map_congr_left
 intro k hk;rw[List.mem_range]at hk
 by_cases q:k=l.length-1-i
 ·rw[if_pos q]
  simp only[ZBg]
  rw[if_neg (by omega),if_pos (by omega),q]
  rw[show l.length-1-(l.length-1-i)=i by omega]
 ·rw[if_neg q]
  by_cases q2:k=i
  ·rw[if_pos q2]
   simp only[ZBg]
   rw[if_neg (by omega),if_pos (by omega),q2]
  ·rw[if_neg q2]
   simp only[ZBg]
   by_cases q3:k<i\/l.length<k+i+1
   ·rw[if_pos q3,if_pos (by omega)]
   ·rw[if_neg q3,if_neg (by omega)]
def AR.free(r:AR):List Int:=(r.blk.take r.n).reverse
theorem AR.free_len{r:AR}(h:r.n<=r.blk.length):r.free.length=r.n:=by simp[AR.free];omega
theorem ZvQ{lv b:Nat}{r:AR}(h:HasR st lv b r)(hn:r.n<=r.blk.length)(hb:r.n<65536):S Tb XC [.ptr lv (b+3) 0 0 0] st=some (.lit (r.free.map (.int .i64)),st):=by
 refine QA Y (fun A hA=>?_)
 have g3:=fun L=>ZV hA (ro:=false) (L:=L) h.h3
 have g1:=fun L=>ZV hA (ro:=false) (L:=L) h.h1
 unfold AR.b3 at g3;unfold AR.b1 at g1
 have hl:(r.blk.take r.n).length=r.n:=by simp;omega
 have hel:∀L,elems ⟨A,false,L⟩ (.ref lv (b+1) r.ver 0 r.n)=some ((r.blk.take r.n).map (.int .i64)):=fun L=>by
  simp only[elems,g1,ZBh,true_and,Nat.zero_add,List.length_map,if_pos hn,List.drop_zero,List.map_take]
 unfold AR.free
 generalize hz:r.blk.take r.n=l at *
 repeat'(first|refine ZE ?_|refine ZD ?_|refine ZG Y ?_|refine ZI Y Y ?_|refine ZB Y ?_|refine ZC ?_|refine Ze Y Y ?_|refine JI Y ?_|refine ZF Y ?_|refine Qe Y Y (by omega) ?_|refine JM Y Y Y Y ?_|refine ZGT Y Y (by omega) (by decide) Y ?_|refine Zt Y (g3 _) Y Y ?_|refine Zt9 (ys:=l.map (.int .i64)) Y Y (hel _) Y (by simp) (by simp[hl]) (ZpE _ _) (ZK1 _ _ _ _ _) ?_|refine ZH ?_|refine ZS ?_)
 refine Z2 (α:=Nat) (fun i=>[(3,.ref A.length 0 0 0 r.n),(4,.int .i64 i),(5,.int .i64 ((l.length:Int)-1-i))]) (fun i=>⟨A,false,[.arr 1 0 ((List.range l.length).map fun k=>AV.int .i64 (ZBg l i k))]⟩) (fun i=>2*i<=l.length+1) (fun i=>l.length+1-2*i) 0 ?_ ?_ (by simp) ?_
 ·simp[hl]
 ·rw[ZvO];rfl
 intro i hi;replace hi:2*i<=l.length+1:=hi
 rcases Nat.lt_or_ge (2*i+1) l.length with hlt|hge
 ·have hj:(l.length:Int)-1-i=((l.length-1-i:Nat):Int):=by omega
  have q1:=Zgm (n:=l.length) (k:=i) (fun k=>AV.int .i64 (ZBg l i k)) (by omega)
  have q2:=Zgm (n:=l.length) (k:=l.length-1-i) (fun k=>AV.int .i64 (ZBg l i k)) (by omega)
  have q3:(((List.range l.length).map (fun k=>AV.int .i64 (ZBg l i k))).set (0+((i:Nat):Int).toNat) (.int .i64 (ZBg l i (l.length-1-i))))[0+((l.length-1-i:Nat):Int).toNat]?=some (.int .i64 (ZBg l i (l.length-1-i))):=by
   rw[jS (by omega)];exact q2
  rw[hj]
  repeat'(first|refine ZE ?_|refine ZD ?_|refine ZG Y ?_|refine ZB Y ?_|refine ZC ?_|(refine cm0 Y Y Y ?_ ?_<;>intro _<;>try omega)|refine ZU Y ?_|refine Zr Y Y (by omega) ?_|refine Qe Y Y (by omega) ?_|refine ZKr Y Y (by omega) Y ?_|refine ZQ Y Y q2 Y ?_|refine ZQ Y Y q1 Y ?_|refine Qs Y Y Y q1 Y Y ?_|refine Qs Y Y Y q3 Y Y ?_|refine ZH ?_|refine ZS ?_|refine Z5 ?_|refine QJ ?_)
  refine⟨i+1,⟨?_,?_⟩,by omega,by omega⟩
  ·rw[show ((l.length-1-i:Nat):Int)-1=(l.length:Int)-1-((i+1:Nat):Int) by omega];rfl
  ·rw[<- ZpG l hlt]
   rw[show 0+((i:Nat):Int).toNat=i by omega,show 0+((l.length-1-i:Nat):Int).toNat=l.length-1-i by omega]
   rfl
 ·repeat'(first|refine ZE ?_|refine ZD ?_|refine ZG Y ?_|refine ZB Y ?_|refine ZC ?_|(refine cm0 Y Y Y ?_ ?_<;>intro _<;>try omega)|refine ZF Y ?_|refine ZP ?_|refine Zz ?_|refine ZL ?_|refine Zk ?_|refine Zh Y ?_|refine Zx ?_)
  all_goals try omega
  refine ZGV (es:=l.reverse.map (.int .i64)) hA (.inr Y) Y (by rw[ZvP l (by omega)];rfl) (by simp;omega) (by intro v hv;obtain⟨x,_,rfl⟩:=List.mem_map.1 hv;rfl) ?_
  rfl
def XR(l:List Int)(s:Int)(n:Nat):List Nat:=(List.range n).filter fun i=>l[i]? == some s
def Zi4(l:List Int)(s:Int):List Nat:=XR l s l.length
def Zgn(n:Nat):AV:=.int .i64 n
theorem Zi5(l:List Int)(s:Int)(n:Nat):XR l s (n+1)=XR l s n++if l[n]?=some s then [n] else []:=by
 rw[XR,List.range_succ,List.filter_append,<- XR]
 congr 1
 by_cases q:l[n]?=some s
 ·rw[if_pos q];simp[q]
 ·rw[if_neg q];simp[q]
theorem Zk2(l:List Int)(s:Int)(n:Nat):(XR l s n).length<=n:=by
 have:=List.length_filter_le (fun i=>l[i]? == some s) (List.range n)
 rw[List.length_range]at this;exact this
theorem ZuA{lv b:Nat}{r:AR}(h:HasR st lv b r)(hb:r.states.length<=16384)(s:Int):S Tb Yz [.ptr lv (b+3) 0 0 0,.int .u8 s] st=some (.lit ((Zi4 r.states s).map Zgn),st):=by
 refine QA Y (fun A hA=>?_)
 have g3:=fun L=>ZV hA (ro:=false) (L:=L) h.h3
 have g0:=fun L=>ZV hA (ro:=false) (L:=L) h.h0
 unfold AR.b3 at g3;unfold AR.b0 at g0
 have hwi:∀L,wIs 1 0 (St.get ⟨A,false,L⟩ lv b)=true:=fun L=>by rw[g0];rfl
 repeat'(first|refine ZE ?_|refine ZD ?_|refine ZG Y ?_|refine ZI Y Y ?_|refine ZB Y ?_|refine ZC ?_|refine Ze Y Y ?_|refine JI Y ?_|refine ZF Y ?_|refine JM Y Y Y Y ?_|refine ZCJ Y ?_|refine Zt Y (g3 _) Y Y ?_|refine ZH ?_|refine ZS ?_)
 refine Z2 (α:=Nat) (fun i=>[(1,.int .u8 s),(5,.ref A.length 0 (XR r.states s i).length 0 (XR r.states s i).length),(14,.ref lv b 0 0 r.states.length),(15,.int .i64 r.states.length),(16,.int .i64 i)]) (fun i=>⟨A,false,[.arr 1 (XR r.states s i).length ((XR r.states s i).map Zgn)]⟩) (fun i=>i<=r.states.length) (fun i=>r.states.length-i) 0 Y Y (by simp) ?_
 intro i hi;replace hi:i<=r.states.length:=hi
 rcases Nat.lt_or_ge i r.states.length with hlt|hge
 ·obtain⟨x,hx⟩:∃x,r.states[i]?=some x:=⟨r.states[i]'hlt,by simp[hlt]⟩
  have q1:(r.states.map (.int .u8))[0+((i:Nat):Int).toNat]?=some (AV.int .u8 x):=by
   rw[show 0+((i:Nat):Int).toNat=i by omega,jG,hx];rfl
  have hs:=Zi5 r.states s i;have hl:=Zk2 r.states s i;rw[hx]at hs
  have hl2:((XR r.states s i).map Zgn).length+[AV.int .i64 (i:Int)].length<4294967296:=by simp;omega
  have hl3:(XR r.states s i).length=((XR r.states s i).map Zgn).length:=by simp
  repeat'(first|refine ZQD Y Y Y hl3 Y Y hl2 (by decide) ?_|refine ZE ?_|refine ZD ?_|refine ZG Y ?_|refine ZB Y ?_|refine ZC ?_|(refine cm0 Y Y Y ?_ ?_<;>intro _<;>try omega)|refine ZU Y ?_|refine ZF Y ?_|refine Zr Y Y (by omega) ?_|refine Q2 Y Y Y Y ?_|refine Xy Y Y (by omega) (hwi _) ?_|refine Zt Y (g0 _) q1 Y ?_|refine ZH ?_|refine ZS ?_|refine Z5 ?_|refine QJ ?_)
  ·rename_i e
   subst e;rw[if_pos rfl]at hs
   refine⟨i+1,⟨?_,?_⟩,by omega,by omega⟩
   ·rw[hs,lL];rfl
   ·rw[hs,List.map_append,lL];rfl
  ·rename_i e
   rw[if_neg (by simpa using e),lN]at hs
   exact⟨i+1,⟨by rw[hs];rfl,by rw[hs]⟩,by omega,by omega⟩
 ·obtain rfl:i=r.states.length:=by omega
  repeat'(first|refine ZE ?_|refine ZD ?_|refine ZG Y ?_|refine ZB Y ?_|refine ZC ?_|(refine cm0 Y Y Y ?_ ?_<;>intro _<;>try omega)|refine ZF Y ?_|refine ZP ?_|refine Zz ?_|refine ZL ?_|refine Zk ?_|refine Zh Y ?_|refine Zx ?_)
  refine ZGV (es:=(Zi4 r.states s).map Zgn) hA (.inr Y) Y Y (by simp;rfl) (by intro v hv;obtain⟨x,_,rfl⟩:=List.mem_map.1 hv;rfl) ?_
  rfl
theorem Zk3{lv b:Nat}{r:AR}(h:HasR st lv b r)(hb:r.states.length<=16384):S Tb YB [.ptr lv (b+3) 0 0 0] st=some (.lit ((Zi4 r.states 2).map Zgn),st):=by
 refine QA Y (fun A hA=>?_)
 have hs:=fun L=>ZuA (h.push hA (ro:=false) (L:=L)) hb 2
 repeat'(first|refine ZE ?_|refine ZD ?_|refine ZG Y ?_|refine ZB Y ?_|refine ZC ?_|refine ZA Y Y Y (hs _) ?_|refine ZP ?_|refine ZL ?_)
 refine ZX hA (by simp) Y Y Y Y ?_
 rfl
def AR.statsAV(r:AR):AV:=.agg [.int .i64 r.slots,.int .i64 r.n,.int .i64 r.nodes.length,.int .i64 (Zi4 r.states 2).length,.int .i64 r.allocs,.int .i64 r.frees,.int .i64 r.stale]
theorem Zi6{lv b:Nat}{r:AR}(h:HasR st lv b r)(hn:r.n<=r.blk.length)(hb:r.states.length<=16384)(h6:r.n<65536):S Tb XY [.ptr lv (b+5) 0 0 0] st=some (r.statsAV,st):=by
 refine QA Y (fun A hA=>?_)
 have g5:=fun L=>ZV hA (ro:=false) (L:=L) h.h5
 have g4:=fun L=>ZV hA (ro:=false) (L:=L) h.h4
 unfold AR.b5 at g5;unfold AR.b4 at g4
 have hF:=fun L=>ZvQ (h.push hA (ro:=false) (L:=L)).allRo hn h6
 have hW:=fun L=>Zk3 (h.push hA (ro:=false) (L:=L)).allRo hb
 repeat'(first|refine ZE ?_|refine ZD ?_|refine ZG Y ?_|refine ZI Y Y ?_|refine ZB Y ?_|refine ZC ?_|refine Ze Y Y ?_|refine Qo Y ?_|refine ZF Y ?_|refine Zn Y Y Y ?_|refine JM Y Y Y Y ?_|refine Zc Y Y Y ?_|refine Zy Y Y Y Y Y Y ?_|refine Zt Y (g5 _) Y Y ?_|refine ZpF Y (g4 _) ?_|refine Xf Y Y Y (hF _) ?_|refine Xf Y Y Y (hW _) ?_|refine ZH ?_|refine ZP ?_|refine ZL ?_)
 refine ZAB hA (by simp) Y Y Y Y Y ?_
 unfold AR.statsAV
 have e2:(r.nodes.map nodeAV).length=r.nodes.length:=List.length_map ..
 rw[<- AR.free_len hn,<- e2]
end Go.Q15
namespace Go.QAbs
variable {a cv td v v' vx z:AV}{agg ro:Bool}{e:Env}{Q:Jh}{A:List (Bool × List Blk)}{cls es ys:LV}{L':List Blk}{d g ib ip ix j jx n ob vb ver w:Nat}{x:Opd}{O:Orc}{st:St}
section
variable {O:Orc}{k:List Fr}{Q:Jh}{e:Env}{A:List (Bool × List Blk)}{L:List Blk}{keep:List Nat}{is:List PI}{d:Nat}{st:St}
theorem Zn0{od:Option Nat}{op op':PO}(he:Zl O e st op=Zl O e st op')(h:Is O (⟨od,none,false,op'⟩::is) keep k Q e st):Is O (⟨od,none,false,op⟩::is) keep k Q e st:=by
 obtain⟨⟨e',st2,h1,h2⟩⟩:=h;refine⟨⟨e',st2,?_,h2⟩⟩;rw[ZCv]at h1 ⊢
 have e1:JD O e st ⟨od,none,false,op⟩=JD O e st ⟨od,none,false,op'⟩:=by simp only[JD,jB,if_false];exact he
 have e2:wantedV e none=some true:=rfl;simp only[e2,oS,ZgA,e1]at h1 ⊢;exact h1
theorem Zn1{od:Option Nat}{bytes:Nat}{s b:Opd}{vs vb:AV}(hs:Zg e s=some vs)(hx:Zg e x=some vx)(hb:Zg e b=some vb)(hy:elems st vx=some ys)(ha:ZX2 vb vs=true)(hg:ZXz vs (some ys)=true)
 (h:Is O (⟨od,none,false,.app w bytes s x⟩::is) keep k Q e st):Is O (⟨od,none,false,.w (.grow b) (.app w bytes s x)⟩::is) keep k Q e st:=by
 refine Zn0 ?_ h;simp only[Zl,QF,Zf9,ZJ hs,ZJ hx,ZJ hb,hy,ha,hg,and_self,if_true]
theorem ZpH{a b:Opd}{i o:Nat}{x:AV}(ha:Zg e a=some (.ptr A.length ix ver i o))(hb:Zg e b=some (.ptr A.length ix vb ib ob))
 (hg:L[ix]?=some (Blk.arr w ver es)) (hx:es[i]?=some x) (hv:Jk x agg o n=some v) (h:Is O is keep k Q ((d,v)::e) ⟨A,false,L⟩):Is O (⟨some d,none,false,.w (.only b) (.ld agg n a)⟩::is) keep k Q e ⟨A,false,L⟩:=by
 refine Z4 (v:=v) (st':=⟨A,false,L⟩) ?_ h
 have hgt:(St.hide (fun lv ix=>!ZBN lv ix (b.get e)) ⟨A,false,L⟩).get A.length ix=some (Blk.arr w ver es):=by
  rw[ZBQ,St.get_cur,hg,ZJ hb]
  simp[ZBN,vis]
 simp only[Zl,QF,PO.reads,if_true,evalPO,ZJ ha,loadP,hgt,ZE4,hx,hv,oS,Qv,Qd]
theorem Zn2{o:Opd}(ho:Zg e o=some v)(hw:v.wide=some w)(h:Is O is keep k Q ((d,.ref A.length L.length 0 0 1)::e) ⟨A,false,L++[Blk.arr w 0 [v]]⟩):Is O (⟨some d,none,false,.bslice true w [z] [(0,o)]⟩::is) keep k Q e ⟨A,false,L⟩:=by
 refine Zqy (qs:=[(0,v)]) (es:=[v]) (es':=[v]) ?_ ?_ (ZKd _) (ZAI _) h
 ·simp only[ZGX,ho]
 ·simp only[fillE,hw,List.length_singleton,true_and,Nat.lt_one_iff,if_true,List.set_cons_zero]
theorem ZXs{o:Opd}(ho:Zg e o=some v)(hw:v.wide=some w)(hi:imm 6 v=true)(h:Is O is keep k Q ((d,.lit [v])::e) st):Is O (⟨some d,none,false,.w .imm (.bslice false w [z] [(0,o)])⟩::is) keep k Q e st:=by
 refine Z4 (od:=some d) (v:=.lit [v]) (st':=st) ?_ h;simp only[Zl,QF,Zlo,Jl,ZJ ho,fillE,hw,List.length_singleton,true_and,Nat.lt_one_iff,if_true,List.set_cons_zero,oS,Zc1,List.all_cons,List.all_nil,hi,Bool.and_self,List.isEmpty_cons,jB,if_false]
theorem ZNP(h:Is O is keep k Q ((d,.ptr A.length (L.length+1) 0 0 0)::e) ⟨A,false,L++[Blk.arr w 0 [],Blk.arr 1 0 [.ref A.length L.length 0 0 0]]⟩):Is O (⟨some d,none,false,.boxnil w⟩::is) keep k Q e ⟨A,false,L⟩ :=
 ZCm (by rw[List.append_assoc];exact ZAI _) h
theorem ZDu{bytes:Nat}{s:Opd}(hs:Zg e s=some .nils)(hx:Zg e x=some vx)(hy:elems ⟨A,false,L⟩ vx=some ys)(hl:ys.length<4294967296)(hb:bytes<=4096)(hw:Ja w ys=true)
 (h:Is O is keep k Q ((d,.ref A.length L.length 0 0 ys.length)::e) ⟨A,false,L++[Blk.arr w 0 ys]⟩):Is O (⟨some d,none,false,.app w bytes s x⟩::is) keep k Q e ⟨A,false,L⟩:=by
 refine Z4 (od:=some d) (v:=.ref A.length L.length 0 0 ys.length) (st':=⟨A,false,L++[Blk.arr w 0 ys]⟩) ?_ h;simp only[Zl,evalPO,ZJ hs,ZJ hx,hy,oS,Jc,hl,hb,hw,and_self,if_true,St.new_cur,Js]
end
end Go.QAbs
namespace Go.Q15
open Go Go.QAbs
variable {r1 r2:AR}{a cv td v v' vx z:AV}{agg ro:Bool}{e:Env}{Q:Jh}{A:List (Bool × List Blk)}{cls es ys:LV}{L':List Blk}{d g ib ip ix j jx n ob vb ver w:Nat}{x:Opd}{O:Orc}{st:St}{t:Tr}
namespace Tr
mutual
def cnt:Tr->Nat
 | .mk o _ _ _ k=>(if o=0 then 1 else 0)+cntO k
def cntO:Option (List Tr)->Nat
 | none=>0
 | some l=>cntL l
def cntL:List Tr->Nat
 | []=>0
 | t::l=>t.cnt+cntL l
end
theorem cntL_append:∀a b,cntL (a++b)=cntL a+cntL b
 | [],b=>by simp[cntL]
 | t::a,b=>by rw[lC,cntL,cntL,cntL_append a b];omega
theorem cntO_getD(k:Option (List Tr)):cntO k=cntL (k.getD []):=by cases k<;>rfl
end Tr
theorem ZTY{t:Tr}{c:Int}(hk:t.ks=[])(hK:∀st,S Tb JH [t.av] st=some (.int .i64 c,st))(st:St):S Tb ZA8 [t.av] st=some (.int .i64 (if c=3\/c=4 then 1 else 0),st):=by
 obtain⟨o,h,m,s,k⟩:=t
 obtain⟨ka,hka,hka2⟩:∃ka,Tr.avO k=ka/\(ka=.nils\/ka=.lit []):=by
  cases k with
  | none=>exact⟨_,rfl,.inl Y⟩
  | some l=>have:l=[]:=hk;subst this;exact⟨_,rfl,.inr Y⟩
 simp only[Tr.av,hka]at *
 refine QA Y (fun A hA=>?_)
 rcases hka2 with rfl|rfl
 all_goals repeat'(first|refine ZE ?_|refine ZD ?_|refine ZG Y ?_|refine ZI Y Y ?_|refine ZQ Y Y Y Y ?_|refine Z9 Y ?_|refine Ji Y Y ?_|refine Zi Y Y Y Y ?_|refine ZB Y ?_|refine ZC ?_|refine ZGZ Y Y ?_|refine J8 Y ?_|(refine cm0 Y Y Y ?_ ?_<;>intro _<;>try omega)|refine ZU Y ?_|refine ZF Y ?_|refine Zc Y Y Y ?_|refine ZA Y Y Y (hK _) ?_|refine YD ?_|refine ZH ?_|refine ZP ?_|refine Zz ?_|refine ZS ?_|refine ZL ?_|refine Zk ?_|refine Zh Y ?_)
 all_goals refine ZX hA (by simp) Y Y Y Y ?_
 all_goals simp[*]
theorem ZuB{l:List Tr}{t:Tr}(h:t∈l):t.cnt<=Tr.cntL l:=by
 induction l with
 | nil=>simp at h
 | cons u l ih =>
  rw[Tr.cntL]
  rcases List.mem_cons.1 h with rfl|h
  ·omega
  ·have:=ih h;omega
theorem ZQE(l:List Tr)(i:Nat):Tr.cntL (l.take i)<=Tr.cntL l:=by
 have h:Tr.cntL l=Tr.cntL (l.take i)+Tr.cntL (l.drop i):=by rw[<- Tr.cntL_append,List.take_append_drop]
 omega
theorem Zuw{N:ZO}{t:Tr}(hv:Val N t):t.cnt<4294967296->∀st,S Tb ZA8 [t.av] st=some (.int .i64 t.cnt,st):=by
 induction hv with
 | @kept o h m k x h0 hx hok hh hm hk =>
  intro hc st
  have:=ZTY (t:=.mk o h m [] k) hk (fun st=>ZKt (.mk o h m [] k) ⟨h0,rfl,hk⟩ st) st
  rw[this]
  have e:(Tr.mk o h m [] k).cnt=0:=by rw[Tr.cnt,Tr.cntO_getD,hk,if_neg h0];rfl
  rw[e];rfl
 | @leaf s k h1 h2 hk =>
  intro hc st
  have:=ZTY (t:=.mk 0 0 .zero s k) hk (fun st=>ZKu (.mk 0 0 .zero s k) ⟨rfl,rfl,rfl,h1,h2,hk⟩ st) st
  rw[this]
  have e:(Tr.mk 0 0 .zero s k).cnt=1:=by rw[Tr.cnt,Tr.cntO_getD,hk,if_pos rfl];rfl
  rw[e];rfl
 | @inner h l hh h2 h4 hl hb hv ih =>
  intro hc st
  have hK:=fun st=>ZH8 (.mk 0 (h+1) .zero [] (some l)) ⟨rfl,rfl,rfl,Nat.succ_le_succ (Nat.zero_le _),hh,h2,h4⟩ st
  have e:(Tr.mk 0 (h+1) .zero [] (some l)).cnt=1+Tr.cntL l:=by rw[Tr.cnt,if_pos rfl];rfl
  rw[e]at hc ⊢;simp only[Tr.av,Tr.avO,Tr.avL_map,Mea.zero]at hK ⊢
  refine QA Y (fun A hA=>?_)
  repeat'(first|refine ZE ?_|refine ZD ?_|refine ZG Y ?_|refine ZI Y Y ?_|refine ZQ Y Y Y Y ?_|refine Z9 Y ?_|refine Zi Y Y Y Y ?_|refine ZB Y ?_|refine ZC ?_|refine Qo Y ?_|(refine cm0 Y Y Y ?_ ?_<;>intro _<;>try omega)|refine ZU Y ?_|refine Zc Y Y Y ?_|refine ZA Y Y Y (hK _) ?_|refine ZS ?_)
  all_goals try contradiction
  refine Z2 (α:=Nat × List Blk) (fun p=>[(3,.int .i64 ((1+Tr.cntL (l.take p.1):Nat):Int)),(16,.lit (l.map Tr.av)),(17,.int .i64 l.length),(18,.int .i64 p.1)])
   (fun p=>⟨A,false,.arr 7 0 [.agg [.int .u64 (0:Nat),.int .i64 ((h+1:Nat):Int),.int .i64 0,.int .i64 0,.int .i64 0,.str [],.lit (l.map Tr.av)]]::p.2⟩) (fun p=>p.1<=l.length) (fun p=>l.length-p.1) (0,[]) ?_ rfl (by simp) ?_
  ·simp[Tr.cntL]
  rintro⟨i,G⟩ hi
  simp only at hi ⊢
  have h6:=ZQE l i;have h7:=ZQE l (i+1)
  repeat'(first|refine ZE ?_|refine ZD ?_|refine ZG Y ?_|refine ZB Y ?_|refine ZC ?_|(refine cm0 Y Y Y ?_ ?_<;>intro _<;>try omega)|refine ZU Y ?_|refine ZF Y ?_|refine Zw Y Y Y ?_|refine Yi Y Y (by omega) QI (fun _ _=>?_)|refine Qt Y (Z0 _) ?_|refine Ql Y Y (Z0 _) ?_|refine Q1 Y Y Y (Qn _ _ _) (JR _ _) Y ?_|refine ZH ?_|refine ZP ?_|refine Zz ?_|refine ZS ?_|refine ZL ?_|refine Zk ?_|refine Zh Y ?_|refine Zx ?_)
  ·rename_i t ht
   have ht2:l[i]?=some t:=ht;have hm:=jM ht2
   have h5:=ih t hm (by have:=ZuB hm;omega)
   rw[Zs ht2,Tr.cntL_append,Tr.cntL,Tr.cntL]at h7
   repeat'(first|refine ZD ?_|refine ZG Y ?_|refine ZB Y ?_|refine ZC ?_|refine Zr Y Y (by omega) ?_|refine ZA Y Y (by first|rfl|(simp only[lE,lN,lC,Zm,Zb,ZZ];first|done|rfl)) (h5 _) ?_|refine Z5 ?_|refine QJ ?_)
   refine⟨(i+1,G++[.arr 7 0 [t.av]]),⟨?_,rfl⟩,by simp only;omega,by simp only;omega⟩
   simp only[Zs ht2,Tr.cntL_append,Tr.cntL]
   rw[show ((1+Tr.cntL (l.take i):Nat):Int)+(t.cnt:Int)=((1+(Tr.cntL (l.take i)+(t.cnt+0)):Nat):Int) by omega]
   rfl
  ·have hi':i=l.length:=by omega
   subst hi';rw[List.take_length]
   refine ZX hA (by simp) Y Y Y Y ?_
   rfl
def exS:B8:=[97,98,99,100,101,102,103,104,105,106,107,108,109,110,111,112,113]
theorem Zk4:Jv exS=.mk 0 1 .zero [] (some [J9 [97,98,99,100,101,102,103,104,105],J9 [106,107,108,109,110,111,112,113]]):=by
 rfl
theorem ZDv(s:B8):QAbs.allBytes (Za s)=some s:=by
 induction s with
 | nil=>rfl
 | cons x s ih =>
  show ((QAbs.byteOf (AV.int .u8 x.toNat)).bind fun b=>(QAbs.allBytes (Za s)).map (b::·))=_
  rw[ih]
  simp[QAbs.byteOf]
theorem Zk5{b lv i1 i2 i3:Nat}{f:FuncId}(st:St)(h:lv<b):ZY QO b st (.func (.func f) [] [.ptr lv i1 0 0 0,.ptr lv i2 0 0 0,.ptr lv i3 0 0 0])=some (.func (.func f) [] [.ptr lv i1 0 0 0,.ptr lv i2 0 0 0,.ptr lv i3 0 0 0],st):=by
 simp only[ZY,QO,ZjO,if_true,mapSt,oS,if_pos h,Yd]
theorem ZDw{L T:List Blk}{i:Nat}{b:Blk}(h:L[i]?=some b):(L++T)[i]?=some b:=by
 rw[jL (List.getElem?_eq_some_iff.1 h).1];exact h
section
variable {O:Orc}{k:List Fr}{Q:Jh}{e:Env}{A:List (Bool × List Blk)}{L0 T:List Blk}{keep:List Nat}{is:List PI}{d:Nat}
theorem ZcT{a b:Opd}{i o:Nat}{x:AV}(ha:Zg e a=some (.ptr A.length (L0.length+ix) ver i o))(hb:Zg e b=some (.ptr A.length (L0.length+ix) vb ib ob))
 (hg:T[ix]?=some (Blk.arr w ver es)) (hx:es[i]?=some x) (hv:Jk x agg o n=some v) (h:Is O is keep k Q ((d,v)::e) ⟨A,false,L0++T⟩):Is O (⟨some d,none,false,.w (.only b) (.ld agg n a)⟩::is) keep k Q e ⟨A,false,L0++T⟩ :=
 ZpH ha hb (by rw[JJ];exact hg) hx hv h
theorem Zmm{m:Nat}(hm:Zc5 T=some m)(h:Is O is keep k Q ((d,.ptr A.length (L0.length+(m+1)) 0 0 0)::e) ⟨A,false,L0++(T++[Blk.arr w 0 [],Blk.arr 1 0 [.ref A.length (L0.length+m) 0 0 0]])⟩):Is O (⟨some d,none,false,.boxnil w⟩::is) keep k Q e ⟨A,false,L0++T⟩:=by
 refine ZNP ?_;rw[lL,ZA4 hm,List.append_assoc];exact h
theorem Zk6{m:Nat}{o:Opd}(ho:Zg e o=some v)(hw:v.wide=some w)(hm:Zc5 T=some m)(h:Is O is keep k Q ((d,.ref A.length (L0.length+m) 0 0 1)::e) ⟨A,false,L0++(T++[Blk.arr w 0 [v]])⟩):Is O (⟨some d,none,false,.bslice true w [z] [(0,o)]⟩::is) keep k Q e ⟨A,false,L0++T⟩:=by
 refine Zn2 ho hw ?_;rw[lL,ZA4 hm,List.append_assoc];exact h
end
theorem Zmn{L0 T:List Blk}(hg:T[ix]?=some (Blk.arr w ver ys))(hn:n=ys.length):elems ⟨A,false,L0++T⟩ (.ref A.length (L0.length+ix) ver 0 n)=some ys:=by
 subst hn;simp only[elems,St.get_cur,JJ,hg,vis,ZBh,true_and,Nat.zero_add,Nat.le_refl,if_true,List.drop_zero,List.take_length]
structure Frm(L:List Blk)(X:Nat->Prop)(L':List Blk)(X':Nat->Prop):Prop where
 len:L.length<=L'.length
 old:∀i,i<L.length->¬ X i->L'[i]?=L[i]?
 own:∀i,X' i->X i\/L.length<=i
theorem Frm.trans{L0 L1 L2:List Blk}{X0 X1 X2:Nat->Prop}(h:Frm L0 X0 L1 X1)(g:Frm L1 X1 L2 X2):Frm L0 X0 L2 X2:=by
 have h1:=h.len;have h2:=g.len
 refine⟨by omega,fun i hi hn=>?_,fun i hi=>?_⟩
 ·rw[g.old i (by omega) (fun q=>by rcases h.own i q with w|w;exact hn w;omega),h.old i hi hn]
 ·rcases g.own i hi with w|w
  ·exact h.own i w
  ·exact .inr (by omega)
theorem Frm.app{L:List Blk}{X:Nat->Prop}(T:List Blk):Frm L X (L++T) X :=
 ⟨by simp,fun i hi _=>jL hi,fun i h=>.inl h⟩
def Fx(L:List Blk)(X:Nat->Prop)(F:List (Nat × Blk)):Prop:=∀p∈F,L[p.1]?=some p.2/\¬ X p.1
theorem Fx.frm{L:List Blk}{X X':Nat->Prop}{F:List (Nat × Blk)}(h:Fx L X F)(g:Frm L X L' X'):Fx L' X' F:=by
 intro p hp;obtain⟨h1,h2⟩:=h p hp;have hlt:=(List.getElem?_eq_some_iff.1 h1).1
 exact⟨by rw[g.old _ hlt h2];exact h1,fun q=>by rcases g.own _ q with w|w;exact h2 w;omega⟩
theorem Fx.append{L:List Blk}{X:Nat->Prop}{F G:List (Nat × Blk)}(h:Fx L X F)(g:Fx L X G):Fx L X (F++G):=fun p hp=>by
 rcases List.mem_append.1 hp with q|q
 ·exact h p q
 ·exact g p q
def Rx(L:List Blk)(X:Nat->Prop)(R:List (Nat × Ro)):Prop:=Fx L X (R.map fun p=>(p.1,Blk.arr 5 0 [p.2.av]))
theorem Rx.frm{L:List Blk}{X X':Nat->Prop}{R:List (Nat × Ro)}(h:Rx L X R)(g:Frm L X L' X'):Rx L' X' R:=Fx.frm h g
theorem Rx.append{L:List Blk}{X:Nat->Prop}{R S:List (Nat × Ro)}(h:Rx L X R)(g:Rx L X S):Rx L X (R++S):=by
 unfold Rx;rw[List.map_append];exact Fx.append h g
theorem Rx.get{L:List Blk}{X:Nat->Prop}{R:List (Nat × Ro)}(h:Rx L X R){p:Nat × Ro}(hp:p∈R):L[p.1]?=some (.arr 5 0 [p.2.av])/\¬ X p.1:=h (p.1,.arr 5 0 [p.2.av]) (List.mem_map.2 ⟨p,hp,rfl⟩)
def Yb(ip:Nat)(td:AV)(i:Nat):Prop:=i=ip\/∃lv ver s n,td=.ref lv i ver s n
structure Pen(A:List (Bool × List Blk))(L:List Blk)(ip:Nat)(a:AV)(td:AV)(cls:LV):Prop where
 st:∃rp,L[ip]?=some (.arr 3 0 [.agg [a,td,rp]])
 td:(td=.nils/\cls=[])\/∃tx ver,td=.ref A.length tx ver 0 cls.length/\L[tx]?=some (.arr 1 ver cls)/\tx≠ip/\cls≠[]
theorem Pen.frm{L:List Blk}(h:Pen A L ip a td cls)(g:∀i,Yb ip td i->L'[i]?=L[i]?):Pen A L' ip a td cls:=by
 obtain⟨⟨rp,h1⟩,h2⟩:=h
 refine⟨⟨rp,by rw[g ip (.inl rfl)];exact h1⟩,?_⟩
 rcases h2 with q|⟨tx,ver,e1,e2,e3⟩
 ·exact .inl q
 ·exact .inr ⟨tx,ver,e1,by rw[g tx (.inr ⟨_,_,_,_,e1⟩)];exact e2,e3⟩
theorem Pen.lt{L:List Blk}(h:Pen A L ip a td cls){i:Nat}(hi:Yb ip td i):i<L.length:=by
 obtain⟨⟨rp,h1⟩,h2⟩:=h
 rcases hi with rfl|⟨lv,ver,s,n,e⟩
 ·exact (List.getElem?_eq_some_iff.1 h1).1
 ·rcases h2 with⟨q,_⟩|⟨tx,ver2,e1,e2,e3⟩
  ·rw[q]at e;simp at e
  ·rw[e1]at e
   simp only[AV.ref.injEq]at e;rw[<- e.2.1];exact (List.getElem?_eq_some_iff.1 e2).1
theorem Pen.app{L:List Blk}(h:Pen A L ip a td cls)(T:List Blk):Pen A (L++T) ip a td cls :=
 h.frm fun i hi=>jL (h.lt hi)
def clV(n b0 b1 b2:Nat):AV:=.func (.func XP) [] [.ptr n b0 0 0 0,.ptr n b1 0 0 0,.ptr n b2 0 0 0]
inductive Cv (n:Nat):AV->Prop
 | one (x:Nat):Cv n (.func (.func J3) [] [.ptr n x 0 0 0])
 | two (x y:Nat):Cv n (.func (.func JZ) [] [.ptr n x 0 0 0,.ptr n y 0 0 0])
def ZuC(n ip rx b:Nat)(cv:AV):List Blk:=[.arr 1 0 [.ptr n ip 0 0 0],.arr 1 0 [.ptr n rx 0 0 0],.arr 1 0 [cv],.arr 1 0 [clV n b (b+2) (b+1)]]
theorem Zux{L:List Blk}{rx:Nat}(h:Pen A L ip a td cls)(hcv:Cv A.length cv)(hl:cls.length<1000000):
 ∃L' td',S Tb ZAW [.ptr A.length ip 0 0 0,.ptr A.length rx 0 0 0,cv] ⟨A,false,L⟩=some (.tup [],⟨A,false,L'⟩)/\Pen A L' ip a td' (cls++[clV A.length L.length (L.length+2) (L.length+1)])/\Frm L (Yb ip td) L' (Yb ip td') /\
  Fx L' (Yb ip td') [(L.length,.arr 1 0 [.ptr A.length ip 0 0 0]),(L.length+1,.arr 1 0 [.ptr A.length rx 0 0 0]),(L.length+2,.arr 1 0 [cv])]:=by
 obtain⟨⟨rp,h1⟩,h2⟩:=h;have hip:=(List.getElem?_eq_some_iff.1 h1).1
 have e0:(⟨A,false,L⟩:St)=⟨A,false,L++[]⟩:=by rw[lN]
 have hg1:∀T,(L++T)[ip]?=some (.arr 3 0 [.agg [a,td,rp]]):=fun T=>ZDw h1
 rcases h2 with⟨rfl,rfl⟩|⟨tx,ver,rfl,h3,h4,_⟩
 ·refine⟨(L++(ZuC A.length ip rx L.length cv++[Blk.arr 1 0 [clV A.length L.length (L.length+2) (L.length+1)]])).set ip (Blk.arr 3 0 [.agg [a,.ref A.length (L.length+4) 0 0 1,rp]]),.ref A.length (L.length+4) 0 0 1,XW Y ?_,?_⟩
  ·rw[e0]
   have hg1':∀T,(L++T)[ip]?=some (.arr 3 0 [.agg [a,.nils,rp]]):=hg1;unfold ZuC clV
   cases hcv
   all_goals repeat'(first|refine Xu Y Y Y Y Y ?_|refine ZcT Y Y Y Y Y ?_|refine ZDs Y Y Y Y ?_|refine Zk6 Y Y Y ?_|refine ZE ?_|refine ZD ?_|refine ZI Y Y ?_|refine ZB Y ?_|refine ZC ?_|refine Ze Y Y ?_|refine YN Y Y ?_|refine ZQ Y (hg1' _) Y Y ?_)
   all_goals refine Zn1 Y Y Y (Zmn Y Y) Y Y ?_
   all_goals refine ZDu Y Y (Zmn Y Y) (by simp) (by decide) Y ?_
   all_goals repeat'(first|refine ZI Y Y ?_|refine Ze Y Y ?_)
   all_goals refine Qs (by rw[List.append_assoc];exact hg1' _) Y Y Y (Qu _ (Nat.lt_succ_self _)) Y ?_
   all_goals refine ZB Y ?_
   all_goals refine ZL ?_
   all_goals refine (Jo (.inl Y) Y Y Y Y).trans ?_
   all_goals simp
  ·have hnX : ∀i, L.length <= i -> i ≠ L.length + 4 -> ¬ Yb ip (.ref A.length (L.length + 4) 0 0 1) i := by
    rintro i hi hne (q|⟨_,_,_,_,q⟩)
    ·omega
    ·simp only[AV.ref.injEq]at q;omega
   refine⟨⟨⟨rp,List.getElem?_set_self (by simp;omega)⟩,.inr ⟨L.length+4,0,rfl,?_,by omega,by simp⟩⟩,⟨by simp,fun i hi hn=>?_,fun i hi=>?_⟩,?_⟩
   ·rw[jS (by omega),JJ];rfl
   ·have:i≠ip:=fun q=>hn (.inl q)
    rw[jS (fun q=>this q.symm),jL hi]
   ·rcases hi with q|⟨_,_,_,_,q⟩
    ·exact .inl (.inl q)
    ·simp only[AV.ref.injEq]at q;exact .inr (by omega)
   ·intro p hp
    simp only[List.mem_cons,List.not_mem_nil,or_false]at hp
    rcases hp with rfl|rfl|rfl
    ·refine⟨?_,hnX _ (by simp) (by simp)⟩
     simp only
     rw[jS (by omega)]
     exact JJ (i:=0)
    ·refine⟨?_,hnX _ (by simp) (by simp)⟩
     simp only
     rw[jS (by omega)]
     exact JJ (i:=1)
    ·refine⟨?_,hnX _ (by simp) (by simp)⟩
     simp only
     rw[jS (by omega)]
     exact JJ (i:=2)
 ·have htx:=(List.getElem?_eq_some_iff.1 h3).1
  refine⟨((L++ZuC A.length ip rx L.length cv).set tx (Blk.arr 1 (ver+1) (cls++[clV A.length L.length (L.length+2) (L.length+1)]))).set ip (Blk.arr 3 0 [.agg [a,.ref A.length tx (ver+1) 0 (cls.length+1),rp]]),.ref A.length tx (ver+1) 0 (cls.length+1),XW Y ?_,?_⟩
  ·rw[e0]
   have hgt:∀T,(L++T)[tx]?=some (.arr 1 ver cls):=fun T=>ZDw h3
   have hap:ZX2 (.ptr A.length (L.length+0) 0 0 0) (.ref A.length tx ver 0 cls.length)=true:=by
    simp[ZX2,ZBN];omega
   have hgr:∀f x y z,ZXz (.ref A.length tx ver 0 cls.length) (some [.func (.func f) [] [.ptr A.length x 0 0 0,.ptr A.length y 0 0 0,.ptr A.length z 0 0 0]])=true:=by
    intro f x y z;simp[ZXz,ZBO,ZjO]
   have hsl:∀(st:St) f x y z,mapSt (ZY QO (A.length+1)) st [.func (.func f) [] [.ptr A.length x 0 0 0,.ptr A.length y 0 0 0,.ptr A.length z 0 0 0]]=some ([.func (.func f) [] [.ptr A.length x 0 0 0,.ptr A.length y 0 0 0,.ptr A.length z 0 0 0]],st):=by
    intro st f x y z;rw[mapSt,Zk5 _ (Nat.lt_succ_self _)];rfl
   unfold ZuC clV
   cases hcv
   all_goals repeat'(first|refine Xu Y Y Y Y Y ?_|refine ZcT Y Y Y Y Y ?_|refine ZDs Y Y Y Y ?_|refine Zk6 Y Y Y ?_|refine ZE ?_|refine ZD ?_|refine ZI Y Y ?_|refine ZB Y ?_|refine ZC ?_|refine Ze Y Y ?_|refine YN Y Y ?_|refine ZQ Y (hg1 _) Y Y ?_)
   all_goals refine Zn1 Y Y Y (Zmn Y Y) hap (hgr _ _ _ _) ?_
   all_goals refine Zk1 Y Y (by rw[JJ];rfl) (hgt _) rfl rfl (hsl _ _ _ _ _) (by simp;omega) (by decide) ?_
   all_goals repeat'(first|refine ZI Y Y ?_|refine Ze Y Y ?_)
   all_goals refine Qs (by rw[jS h4];exact hg1 _) Y Y Y (Qu _ (Nat.lt_succ_self _)) Y ?_
   all_goals refine ZB Y ?_
   all_goals refine ZL ?_
   all_goals refine (Jo (.inl Y) Y Y Y Y).trans ?_
   all_goals simp
  ·have hnX : ∀i, L.length <= i -> ¬ Yb ip (.ref A.length tx (ver + 1) 0 (cls.length + 1)) i := by
    rintro i hi (q|⟨_,_,_,_,q⟩)
    ·omega
    ·simp only[AV.ref.injEq]at q;omega
   refine⟨⟨⟨rp,List.getElem?_set_self (by simp;omega)⟩,.inr ⟨tx,ver+1,by simp,?_,h4,by simp⟩⟩,⟨by simp,fun i hi hn=>?_,fun i hi=>?_⟩,?_⟩
   ·rw[jS (fun q=>h4 q.symm),List.getElem?_set_self (by simp;omega)]
   ·have n1:i≠ip:=fun q=>hn (.inl q)
    have n2:i≠tx:=fun q=>hn (.inr ⟨A.length,ver,0,cls.length,by rw[q]⟩)
    rw[jS (fun q=>n1 q.symm),jS (fun q=>n2 q.symm),jL hi]
   ·rcases hi with q|⟨_,_,_,_,q⟩
    ·exact .inl (.inl q)
    ·simp only[AV.ref.injEq]at q
     exact .inl (.inr ⟨A.length,ver,0,cls.length,by rw[q.2.1]⟩)
   ·intro p hp
    simp only[List.mem_cons,List.not_mem_nil,or_false]at hp
    rcases hp with rfl|rfl|rfl
    ·refine⟨?_,hnX _ (by simp)⟩
     simp only
     rw[jS (by omega),jS (by omega)]
     exact JJ (i:=0)
    ·refine⟨?_,hnX _ (by simp)⟩
     simp only
     rw[jS (by omega),jS (by omega)]
     exact JJ (i:=1)
    ·refine⟨?_,hnX _ (by simp)⟩
     simp only
     rw[jS (by omega),jS (by omega)]
     exact JJ (i:=2)
inductive ItC where
 | leaf (s:B8)
 | inn (h:Nat) (ks:List Nat)
structure It where
 rx:Nat
 c:ItC
def ZQF(n:Nat)(rs:List Nat):LV:=rs.map fun r=>.ptr n r 0 0 0
def CvOk(n:Nat)(F:List (Nat × Blk))(cv:AV):ItC->Prop
 | .leaf s=>∃xb,cv=.func (.func J3) [] [.ptr n xb 0 0 0]/\(xb,Blk.arr 3 0 [.agg [.int .i64 0,.str s,.nils]])∈F
 | .inn h ks=>∃tb kb kx,∃t:Tr,cv=.func (.func JZ) [] [.ptr n tb 0 0 0,.ptr n kb 0 0 0]/\t.h=h/\(tb,Blk.arr 7 0 [t.av])∈F/\(kb,Blk.arr 1 0 [.ref n kx ks.length 0 ks.length])∈F/\(kx,Blk.arr 1 ks.length (ZQF n ks))∈F
theorem CvOk.mono{n:Nat}{F G:List (Nat × Blk)}(hs:∀p∈F,p∈G){cv:AV}:∀ {c:ItC},CvOk n F cv c->CvOk n G cv c
 | .leaf s,⟨xb,h1,h2⟩=>⟨xb,h1,hs _ h2⟩
 | .inn h ks,⟨tb,kb,kx,t,h1,h2,h3,h4,h5⟩=>⟨tb,kb,kx,t,h1,h2,hs _ h3,hs _ h4,hs _ h5⟩
def ClOk(n ip:Nat)(F:List (Nat × Blk))(cl:AV)(it:It):Prop :=
 ∃b0 b1 b2 cv,cl=clV n b0 b1 b2/\(b0,Blk.arr 1 0 [.ptr n ip 0 0 0])∈F/\(b1,Blk.arr 1 0 [cv])∈F/\(b2,Blk.arr 1 0 [.ptr n it.rx 0 0 0])∈F/\CvOk n F cv it.c
theorem ClOk.mono{F G:List (Nat × Blk)}(hs:∀p∈F,p∈G){cl:AV}{it:It}(h:ClOk n ip F cl it):ClOk n ip G cl it:=by
 obtain⟨b0,b1,b2,cv,h1,h2,h3,h4,h5⟩:=h;exact⟨b0,b1,b2,cv,h1,hs _ h2,hs _ h3,hs _ h4,h5.mono hs⟩
inductive ClsOk (n ip:Nat) (F:List (Nat × Blk)):LV->List It->Prop
 | nil:ClsOk n ip F [] []
 | cons {c i cs is} (h:ClOk n ip F c i) (t:ClsOk n ip F cs is):ClsOk n ip F (c::cs) (i::is)
theorem ClsOk.mono{F G:List (Nat × Blk)}(hs:∀p∈F,p∈G){cs:LV}{is:List It}(h:ClsOk n ip F cs is):ClsOk n ip G cs is:=by
 induction h with
 | nil=>exact .nil
 | cons h t ih=>exact .cons (h.mono hs) ih
theorem ClsOk.append{F:List (Nat × Blk)}{cs ds:LV}{is js:List It}(h:ClsOk n ip F cs is)(g:ClsOk n ip F ds js):ClsOk n ip F (cs++ds) (is++js):=by
 induction h with
 | nil=>exact g
 | cons h t ih=>exact .cons h ih
theorem ClsOk.len{F:List (Nat × Blk)}{cs:LV}{is:List It}(h:ClsOk n ip F cs is):cs.length=is.length:=by
 induction h with
 | nil=>rfl
 | cons h t ih=>simp[ih]
namespace Tr
mutual
def mea:Tr->Mea
 | .mk o h m s k=>if o≠0 then m else if h=0 then JQ s else Z7 (meaO k)
def meaO:Option (List Tr)->List Mea
 | none=>[]
 | some l=>ZuD l
def ZuD:List Tr->List Mea
 | []=>[]
 | t::l=>t.mea::ZuD l
end
theorem meaL_map:∀l,ZuD l=l.map mea
 | []=>rfl
 | t::l=>by rw[ZuD,meaL_map l];rfl
end Tr
theorem Zi7(h:Nat)(l:List Tr):(Tr.mk 0 (h+1) .zero [] (some l)).mea=Z7 (l.map Tr.mea):=by
 rw[Tr.mea,Tr.meaO,Tr.meaL_map];simp
theorem ZQG(s:B8)(k:Option (List Tr)):(Tr.mk 0 0 .zero s k).mea=JQ s:=by rw[Tr.mea];simp
theorem ZQH{o h:Nat}{m:Mea}{s:B8}{k:Option (List Tr)}(h0:o≠0):(Tr.mk o h m s k).mea=m:=by rw[Tr.mea];simp[h0]
structure Mea.Chn(m:Mea):Prop where
 l0:0<=m.l
 lr:m.l<=m.r
 rb:m.r<=m.b
theorem ZcU:∀ {l:List Mea},(∀m∈l,m.Chn)->(Z7 l).Chn
 | [],_=>⟨by decide,by decide,by decide⟩
 | m::l,h=>by
  obtain⟨a1,a2,a3⟩:=h m (by simp)
  obtain⟨b1,b2,b3⟩:=ZcU (l:=l) (fun x hx=>h x (by simp[hx]))
  constructor<;>simp only[Z7,Mea.add]<;>omega
theorem Zk7(s:B8):(JQ s).Chn:=by
 have h2:=ZQC s;have h3:=List.countP_le_length (p:=ZAg) (l:=s)
 constructor<;>simp only[JQ]<;>omega
theorem NdOk.chn{x:Nd}(h:NdOk x):x.mea.Chn:=by
 rcases h with h|⟨n,ks,h⟩
 ·have hm:x.mea=JQ x.text:=by unfold Nd.mea;rw[if_pos h.h]
  rw[hm];exact Zk7 _
 ·have e:=h.eq
  subst e;have hms:Nd.mea ⟨n+1,[],some ks⟩=Z7 (ks.map Kid.m):=rfl;rw[hms]
  refine ZcU (fun m hm=>?_)
  obtain⟨k,hk,rfl⟩:=List.mem_map.1 hm
  have:=h.kid k hk
  exact⟨this.l0,this.lr,this.rb⟩
theorem Zmo:∀l:List Tr,(∀t∈l,t.mea.b=t.bytes)->(Z7 (l.map Tr.mea)).b=Tr.bytesL l
 | [],_=>rfl
 | t::l,h=>by
  rw[jC,Z7,Mea.add,Tr.bytesL]
  simp only
  rw[h t (by simp),Zmo l (fun u hu=>h u (by simp[hu]))]
theorem Val.mea_ok{N:ZO}{t:Tr}(hv:Val N t):t.mea.b=t.bytes/\t.mea.Chn:=by
 induction hv with
 | @kept o h m k x h0 hx hok hh hm hk =>
  rw[ZQH h0]
  refine⟨?_,by rw[<- hm];exact hok.chn⟩
  rw[Tr.bytes,Tr.bytesO_getD,hk];simp[Tr.bytesL]
 | @leaf s k h1 h2 hk =>
  rw[ZQG];refine⟨?_,Zk7 s⟩;rw[Tr.bytes,Tr.bytesO_getD,hk];simp[Tr.bytesL,JQ,Mea.zero]
 | @inner h l hh h2 h4 hl hb hv ih =>
  rw[Zi7]
  refine⟨?_,ZcU (fun m hm=>?_)⟩
  ·rw[Zmo l (fun u hu=>(ih u hu).1),Tr.bytes,Tr.bytesO];simp[Mea.zero]
  ·obtain⟨u,hu,rfl⟩:=List.mem_map.1 hm
   exact (ih u hu).2
theorem Val.mea_fit{N:ZO}{t:Tr}(hv:Val N t)(hb:t.bytes<=65536):t.mea.Fit 65536:=by
 obtain⟨h1,h2⟩:=hv.mea_ok;obtain⟨c1,c2,c3⟩:=h2
 constructor<;>omega
mutual
inductive AddT:Tr->Nat->List It->List (Nat × Ro)->Prop
 | kept {o h m k rx} (h0:o≠0):AddT (.mk o h m [] k) rx [] [(rx,⟨o,h,m⟩)]
 | leaf {s k rx}:AddT (.mk 0 0 .zero s k) rx [⟨rx,.leaf s⟩] [(rx,⟨0,0,JQ s⟩)]
 | inner {h l rx rs its R} (hl:AddL l rs its R) (hn:(R.map Prod.fst).Nodup) (hx:rx∉R.map Prod.fst):AddT (.mk 0 (h+1) .zero [] (some l)) rx (its++[⟨rx,.inn (h+1) rs⟩]) (R++[(rx,⟨0,h+1,Z7 (l.map Tr.mea)⟩)])
inductive AddL:List Tr->List Nat->List It->List (Nat × Ro)->Prop
 | nil:AddL [] [] [] []
 | cons {t l rx rs i1 i2 R1 R2} (ht:AddT t rx i1 R1) (hl:AddL l rs i2 R2):AddL (t::l) (rx::rs) (i1++i2) (R1++R2)
end
theorem AddL.snoc{t:Tr}{rx:Nat}{i1:List It}{R1:List (Nat × Ro)}(ht:AddT t rx i1 R1):∀ {l:List Tr} {rs:List Nat} {its:List It} {R:List (Nat × Ro)},AddL l rs its R->AddL (l++[t]) (rs++[rx]) (its++i1) (R++R1)
 | _,_,_,_,.nil=>by have:=AddL.cons ht .nil;simpa using this
 | _,_,_,_,.cons h g=>by
  have:=AddL.cons h (AddL.snoc ht g)
  simpa [List.append_assoc] using this
theorem AddL.len:∀ {l:List Tr} {rs:List Nat} {its:List It} {R:List (Nat × Ro)},AddL l rs its R->rs.length=l.length
 | _,_,_,_,.nil=>rfl
 | _,_,_,_,.cons h g=>by simp[g.len]
mutual
theorem AddT.cnt:∀ {t:Tr} {rx:Nat} {its:List It} {R:List (Nat × Ro)},AddT t rx its R->its.length<=t.cnt
 | _,_,_,_,.kept h0=>Nat.zero_le _
 | _,_,_,_,.leaf=>by rw[Tr.cnt];simp
 | _,_,_,_,.inner hl hn hx=>by
  have:=AddL.cnt hl
  rw[Tr.cnt,Tr.cntO];simp;omega
theorem AddL.cnt:∀ {l:List Tr} {rs:List Nat} {its:List It} {R:List (Nat × Ro)},AddL l rs its R->its.length<=Tr.cntL l
 | _,_,_,_,.nil=>Nat.le_refl _
 | _,_,_,_,.cons h g=>by
  have h1:=h.cnt;have h2:=g.cnt;rw[Tr.cntL];simp;omega
end
def No5(F:List (Nat × Blk)):Prop:=∀p∈F,∃w v es,p.2=Blk.arr w v es/\w≠5
theorem No5.nil:No5 []:=fun p hp=>by simp at hp
theorem No5.cons{F:List (Nat × Blk)}{i w v:Nat}{es:LV}(hw:w≠5)(h:No5 F):No5 ((i,Blk.arr w v es)::F):=fun p hp=>by
 rcases List.mem_cons.1 hp with rfl|q
 ·exact⟨w,v,es,rfl,hw⟩
 ·exact h p q
theorem No5.append{F G:List (Nat × Blk)}(h:No5 F)(g:No5 G):No5 (F++G):=fun p hp=>by
 rcases List.mem_append.1 hp with q|q
 ·exact h p q
 ·exact g p q
structure Added(A:List (Bool × List Blk))(L:List Blk)(ip:Nat)(a td:AV)(cls:LV)(t:Tr)(L':List Blk)(td':AV)(rx:Nat)(its:List It)(cs:LV)(R:List (Nat × Ro))(F:List (Nat × Blk)):Prop where
 pen:Pen A L' ip a td' (cls++cs)
 frm:Frm L (Yb ip td) L' (Yb ip td')
 fx:Fx L' (Yb ip td') F
 rts:Rx L' (Yb ip td') R
 flo:∀p∈F,L.length<=p.1
 rlo:∀p∈R,L.length<=p.1
 cl:ClsOk A.length ip F cs its
 tr:AddT t rx its R
 nd:(R.map Prod.fst).Nodup
 fw:No5 F
theorem Rx.one{L:List Blk}{X:Nat->Prop}{i:Nat}{r:Ro}(h:L[i]?=some (.arr 5 0 [r.av]))(hn:¬ X i):Rx L X [(i,r)]:=by
 intro p hp;simp only[jC,List.map_nil,List.mem_singleton]at hp;subst hp;exact⟨h,hn⟩
theorem ZrT{A:List (Bool × List Blk)}{L:List Blk}{ip:Nat}{a td:AV}{cls:LV}(h:Pen A L ip a td cls){o hh:Nat}{m:Mea}{k:Option (List Tr)}(h0:o≠0)(hk:k.getD []=[]):
 ∃L' td' rx its cs R F,S Tb Q7 [.ptr A.length ip 0 0 0,(Tr.mk o hh m [] k).av] ⟨A,false,L⟩=some (.ptr A.length rx 0 0 0,⟨A,false,L'⟩)/\Added A L ip a td cls (.mk o hh m [] k) L' td' rx its cs R F:=by
 refine⟨L++[.arr 7 0 [(Tr.mk o hh m [] k).av],.arr 5 0 [Ro.av ⟨o,hh,m⟩]],td,L.length+1,[],[],[(L.length+1,⟨o,hh,m⟩)],[],XW Y ?_,?_⟩
 ·have e0:(⟨A,false,L⟩:St)=⟨A,false,L++[]⟩:=by rw[lN]
  rw[e0]
  obtain⟨ka,hka,hka2⟩:∃ka,Tr.avO k=ka/\(ka=.nils\/ka=.lit []):=by
   cases k with
   | none=>exact⟨_,rfl,.inl Y⟩
   | some l=>have:l=[]:=hk;subst this;exact⟨_,rfl,.inr Y⟩
  simp only[Tr.av,hka]at *
  rcases hka2 with rfl|rfl
  all_goals repeat'(first|refine Xu Y Y Y Y Y ?_|refine ZDs Y Y Y Y ?_|refine ZE ?_|refine ZD ?_|refine ZG Y ?_|refine ZI Y Y ?_|refine Ji Y Y ?_|refine Zv8 Y ?_|refine Zi Y Y Y Y ?_|refine ZB Y ?_|refine ZC ?_|(refine cm0 Y Y Y ?_ ?_<;>intro _<;>try omega)|refine ZU Y ?_|refine Zn Y Y Y ?_|refine ZH ?_|refine ZP ?_|refine ZS ?_|refine ZL ?_|refine Z5 ?_)
  all_goals try omega
  all_goals refine (Jo (.inr Y) Y Y Y Y).trans ?_
  all_goals rfl
 ·refine⟨by rw[lN];exact h.app _,.app _,fun p hp=>by simp at hp,Rx.one ?_ (fun q=>by have:=h.lt q;omega),fun p hp=>by simp at hp,fun p hp=>?_,.nil,.kept h0,by simp,.nil⟩
  ·exact JJ (i:=1)
  ·simp only[List.mem_singleton]at hp;subst hp;simp
theorem ZrU{A:List (Bool × List Blk)}{L:List Blk}{ip:Nat}{a td:AV}{cls:LV}(h:Pen A L ip a td cls)(hl:cls.length<1000000){s:B8}{k:Option (List Tr)}(hs:ZCD s)(hk:k.getD []=[]):
 ∃L' td' rx its cs R F,S Tb Q7 [.ptr A.length ip 0 0 0,(Tr.mk 0 0 .zero s k).av] ⟨A,false,L⟩=some (.ptr A.length rx 0 0 0,⟨A,false,L'⟩)/\Added A L ip a td cls (.mk 0 0 .zero s k) L' td' rx its cs R F:=by
 obtain⟨T,hT⟩:∃T:List Blk,T=[.arr 7 0 [(Tr.mk 0 0 .zero s k).av],.arr 5 0 [Ro.av ⟨0,0,JQ s⟩],.arr 3 0 [.agg [.int .i64 0,.str s,.nils]]]:=⟨_,rfl⟩
 have hlen:T.length=3:=by rw[hT];rfl
 obtain⟨L1,td1,hS,hp,hf,hx⟩:=Zux (h.app T) (rx:=L.length+1) (Cv.one (n:=A.length) (L.length+2)) hl
 have hM:=fun st=>ZH6 ⟨0,s,none⟩ (.inl ⟨rfl,hs.1,hs.2,rfl⟩) st
 have hm0:Nd.mea ⟨0,s,none⟩=JQ s:=rfl;rw[hm0]at hM
 have hne:s≠[]:=fun q=>by rw[q]at hs;have:=hs.1;simp at this
 have hff:=(Frm.app (L:=L) (X:=Yb ip td) T).trans hf
 have hltX:∀i,Yb ip td i->i<L.length:=fun i hi=>h.lt hi
 have hnX:∀i,L.length<=i->i<L.length+3->¬ Yb ip td1 i:=fun i h1 h2 q=>by
  rcases hf.own i q with w|w
  ·have:=hltX i w;omega
  ·rw[lL]at w;omega
 have hg:∀j b,T[j]?=some b->L1[L.length+j]?=some b:=fun j b hb=>by
  have hj:=(List.getElem?_eq_some_iff.1 hb).1
  rw[hf.old _ (by rw[lL];omega) (fun q=>by have:=hltX _ q;omega),JJ];exact hb
 refine⟨L1,td1,L.length+1,[⟨L.length+1,.leaf s⟩],_,[(L.length+1,⟨0,0,JQ s⟩)],(L.length+2,Blk.arr 3 0 [.agg [.int .i64 0,.str s,.nils]])::[((L++T).length,Blk.arr 1 0 [.ptr A.length ip 0 0 0]),((L++T).length+1,Blk.arr 1 0 [.ptr A.length (L.length+1) 0 0 0]),((L++T).length+2,Blk.arr 1 0 [.func (.func J3) [] [.ptr A.length (L.length+2) 0 0 0]])],XW Y ?_,⟨hp,hff,?_,Rx.one (hg 1 _ (by rw[hT];rfl)) (hnX _ (by omega) (by omega)),?_,?_,.cons ⟨_,_,_,_,rfl,List.mem_cons_of_mem _ ?_,List.mem_cons_of_mem _ ?_,List.mem_cons_of_mem _ ?_,⟨L.length+2,rfl,?_⟩⟩ .nil,.leaf,by simp,.cons (by decide) (.cons (by decide) (.cons (by decide) (.cons (by decide) .nil)))⟩⟩
 ·have e0:(⟨A,false,L⟩:St)=⟨A,false,L++[]⟩:=by rw[lN]
  rw[e0]
  obtain⟨ka,hka,hka2⟩:∃ka,Tr.avO k=ka/\(ka=.nils\/ka=.lit []):=by
   cases k with
   | none=>exact⟨_,rfl,.inl Y⟩
   | some l=>have:l=[]:=hk;subst this;exact⟨_,rfl,.inr Y⟩
  rw[hT]at hS
  simp only[Tr.av,Nd.av,slV,Mea.zero,hka]at *
  rcases hka2 with rfl|rfl
  all_goals repeat'(first|refine Xu Y Y Y Y Y ?_|refine ZDs Y Y Y Y ?_|refine Zmk Y Y Y Y Y Y Y ?_|refine ZE ?_|refine ZD ?_|refine ZG Y ?_|refine ZI Y Y ?_|refine Z9 Y ?_|refine Ji Y Y ?_|refine Zi Y Y Y Y ?_|refine Zp Y Y ?_|refine ZB Y ?_|refine ZC ?_|refine Ze Y Y ?_|(refine cm0 Y Y Y ?_ ?_<;>intro _<;>try omega)|(refine Y2 Y Y (fun _=>?_) (fun _=>?_)<;>try contradiction)|refine ZU Y ?_|refine ZF Y ?_|refine Zn Y Y Y ?_|refine YN Y Y ?_|refine ZA Y Y Y (hM _) ?_|refine ZA Y Y Y (hS) ?_|refine ZP ?_|refine ZS ?_|refine ZL ?_|refine Z5 ?_)
  all_goals try contradiction
  all_goals exact Jo (.inr Y) Y Y Y Y
 ·intro p hp
  rcases List.mem_cons.1 hp with rfl|q
  ·exact⟨hg 2 _ (by rw[hT];rfl),hnX _ (by omega) (by omega)⟩
  ·exact hx p q
 ·intro p hp
  simp only[List.mem_cons,List.not_mem_nil,or_false,lL]at hp
  rcases hp with rfl|rfl|rfl|rfl<;>simp only<;>omega
 ·intro p hp
  simp only[List.mem_singleton]at hp;subst hp;simp
 ·simp
 ·simp
 ·simp
 ·simp
theorem ZuE{k:List Fr}{Q:Jh}{A:List (Bool × List Blk)}{X:List Blk}{jb rx:Nat}{o hh v0 v3 v7 v20 v21 v22:AV}{mb mr ml:Int}{r:Ro}(h1:X[jb]?=some (Blk.arr 5 0 [.agg [o,hh,.int .i64 mb,.int .i64 mr,.int .i64 ml]]))(h2:X[rx]?=some (Blk.arr 5 0 [r.av]))(hne:jb≠rx)
 (hb:0<=mb/\mb<=262144/\0<=mr/\mr<=262144/\0<=ml/\ml<=262144) (hr:0<=r.m.b/\r.m.b<=65536/\0<=r.m.r/\r.m.r<=65536/\0<=r.m.l/\r.m.l<=65536)
 (h:Rk (S Tb) k Q .norm [(0,v0),(3,v3),(5,.ptr A.length jb 0 0 0),(7,v7),(20,v20),(21,v21),(22,v22)] ⟨A,false,X.set jb (.arr 5 0 [.agg [o,hh,.int .i64 (mb+r.m.b),.int .i64 (mr+r.m.r),.int .i64 (ml+r.m.l)]])⟩) :
 Ru (S Tb) (.seq ZEY (.seq ZEZ ZEa)) k Q [(0,v0),(3,v3),(5,.ptr A.length jb 0 0 0),(7,v7),(10,.ptr A.length rx 0 0 0),(20,v20),(21,v21),(22,v22)] ⟨A,false,X⟩:=by
 have hlt:=(List.getElem?_eq_some_iff.1 h1).1
 have h3:∀b,(X.set jb b)[rx]?=some (Blk.arr 5 0 [r.av]):=fun b=>by rw[jS hne];exact h2
 unfold Ro.av at h2 h3
 repeat'(first|refine ZQ Y h1 Y Y ?_|refine ZQ Y h2 Y Y ?_|refine ZE ?_|refine ZD ?_|refine ZG Y ?_|refine ZI Y Y ?_|refine Ze Y Y ?_|refine Zr Y Y (by omega) ?_)
 refine Qs h1 Y Y Y Y Y ?_
 repeat'(first|refine ZQ Y (List.getElem?_set_self hlt) Y Y ?_|refine ZQ Y (h3 _) Y Y ?_|refine ZE ?_|refine ZD ?_|refine ZG Y ?_|refine ZI Y Y ?_|refine ZB Y ?_|refine ZC ?_|refine Ze Y Y ?_|refine Zr Y Y (by omega) ?_)
 refine Qs (List.getElem?_set_self hlt) Y Y Y Y Y ?_;rw[List.set_set]
 repeat'(first|refine ZQ Y (List.getElem?_set_self hlt) Y Y ?_|refine ZQ Y (h3 _) Y Y ?_|refine ZD ?_|refine ZG Y ?_|refine ZI Y Y ?_|refine ZB Y ?_|refine ZC ?_|refine Ze Y Y ?_|refine Zr Y Y (by omega) ?_)
 refine Qs (List.getElem?_set_self hlt) Y Y Y Y Y ?_;rw[List.set_set];refine ZB Y ?_;exact h
structure AInv(A:List (Bool × List Blk))(L:List Blk)(ip:Nat)(a td:AV)(cls:LV)(h:Nat)(l:List Tr)(i:Nat)(Li:List Blk)(td':AV)(rs:List Nat)(its:List It)(cs:LV)(R:List (Nat × Ro))(F:List (Nat × Blk)):Prop where
 le:i<=l.length
 pen:Pen A Li ip a td' (cls++cs)
 frm:Frm L (Yb ip td) Li (Yb ip td')
 fx:Fx Li (Yb ip td') F
 rts:Rx Li (Yb ip td') R
 flo:∀p∈F,L.length+4<=p.1
 rlo:∀p∈R,L.length+4<=p.1
 plo:∀j,Yb ip td' j->Yb ip td j\/L.length+4<=j
 nd:(R.map Prod.fst).Nodup
 cl:ClsOk A.length ip F cs its
 tr:AddL (l.take i) rs its R
 len:L.length+4<=Li.length
 b0:Li[L.length]?=some (.arr 7 0 [(Tr.mk 0 (h+1) .zero [] (some l)).av])
 b1:Li[L.length+1]?=some (.arr 5 0 [Ro.av ⟨0,h+1,Z7 ((l.take i).map Tr.mea)⟩])
 b2:Li[L.length+2]?=some (.arr 1 i (ZQF A.length rs))
 b3:Li[L.length+3]?=some (.arr 1 0 [.ref A.length (L.length+2) i 0 i])
 fw:No5 F
theorem ZrV(n:Nat)(st:St)(r:Nat):mapSt (ZY QO (n+1)) st [.ptr n r 0 0 0]=some ([.ptr n r 0 0 0],st):=by
 simp only[mapSt,ZY,QO,if_pos (Nat.lt_succ_self n),oS,Yd]
theorem ZwE(h:weak a=a)(t:Tr):ZZ (Zm ([]++[a,t.av]++[]))=some [a,t.av]:=by
 simp only[lE,lN,lC,Zm,Zb,ZZ,h]
theorem ZuF{L:List Blk}{X:Nat->Prop}{R:List (Nat × Ro)}(h:Rx L X R):∀k∈R.map Prod.fst,k<L.length:=by
 intro k hk;obtain⟨p,hp,rfl⟩:=List.mem_map.1 hk;exact (List.getElem?_eq_some_iff.1 (h.get hp).1).1
theorem AInv.step{L:List Blk}(hP:Pen A L ip a td cls){h:Nat}{l:List Tr}{i:Nat}{Li:List Blk}{td1:AV}{rs:List Nat}{its:List It}{cs:LV}{R:List (Nat × Ro)}{F:List (Nat × Blk)}
 (hi:AInv A L ip a td cls h l i Li td1 rs its cs R F) {u:Tr} (hu:l[i]?=some u) {B:Blk} {L1:List Blk} {td2:AV} {rx:Nat} {its2:List It} {cs2:LV} {R2:List (Nat × Ro)} {F2:List (Nat × Blk)} (ha:Added A (Li++[B]) ip a td1 (cls++cs) u L1 td2 rx its2 cs2 R2 F2)
 {T:List Blk} {L2:List Blk} (hl2:L2.length=(L1++T).length) (hold:∀j,j<L1.length->j≠L.length+1->j≠L.length+2->j≠L.length+3->L2[j]?=L1[j]?)
 (b1:L2[L.length+1]?=some (.arr 5 0 [Ro.av ⟨0,h+1,Z7 ((l.take (i+1)).map Tr.mea)⟩])) (b2:L2[L.length+2]?=some (.arr 1 (i+1) (ZQF A.length (rs++[rx])))) (b3:L2[L.length+3]?=some (.arr 1 0 [.ref A.length (L.length+2) (i+1) 0 (i+1)])) :
 AInv A L ip a td cls h l (i+1) L2 td2 (rs++[rx]) (its++its2) (cs++cs2) (R++R2) (F++F2):=by
 have hlt:=(List.getElem?_eq_some_iff.1 hu).1;have hlen:=hi.len;have hl1:=ha.frm.len;rw[lL,List.length_singleton]at hl1;rw[lL]at hl2
 have hX1:∀j,Yb ip td1 j->j<Li.length:=fun j hj=>hi.pen.lt hj
 have plo2:∀j,Yb ip td2 j->Yb ip td j\/L.length+4<=j:=fun j hj=>by
  rcases ha.frm.own j hj with q|q
  ·exact hi.plo j q
  ·rw[lL,List.length_singleton]at q;exact .inr (by omega)
 have hltL:∀j,Yb ip td j->j<L.length:=fun j hj=>hP.lt hj
 have hfrm:Frm L1 (Yb ip td2) L2 (Yb ip td2)->Frm L1 (Yb ip td2) L2 (Yb ip td2):=id
 -- what is Zv6 of L1 stays in L2
 have keep:∀ {j:Nat} {b:Blk},L1[j]?=some b->j≠L.length+1->j≠L.length+2->j≠L.length+3->L2[j]?=some b:=fun {j b} hb n1 n2 n3=>by
  rw[hold j (List.getElem?_eq_some_iff.1 hb).1 n1 n2 n3];exact hb
 have f1:=(Frm.app (L:=Li) (X:=Yb ip td1) [B]).trans ha.frm;have k1:Fx L1 (Yb ip td2) F:=hi.fx.frm f1;have k2:Rx L1 (Yb ip td2) R:=hi.rts.frm f1
 have lo2:∀p∈R2,Li.length+1<=p.1:=fun p hp=>by have:=ha.rlo p hp;rwa [lL,List.length_singleton]at this
 have flo2:∀p∈F2,Li.length+1<=p.1:=fun p hp=>by have:=ha.flo p hp;rwa [lL,List.length_singleton]at this
 refine⟨hlt,?_,?_,?_,?_,?_,?_,plo2,?_,?_,?_,by omega,?_,b1,b2,b3,hi.fw.append ha.fw⟩
 ·rw[<- List.append_assoc]
  refine ha.pen.frm fun j hj=>hold j (ha.pen.lt hj) ?_ ?_ ?_<;>intro q<;>rcases plo2 j hj with w|w<;>first|omega|(have:=hltL j w;omega)
 ·refine⟨by have:=hi.frm.len;omega,fun j hj hn=>?_,fun j hj=>?_⟩
  ·have hn1:¬ Yb ip td1 j:=fun q=>by rcases hi.plo j q with w|w;exact hn w;omega
   rw[hold j (by omega) (by omega) (by omega) (by omega),f1.old j (by omega) hn1,hi.frm.old j hj hn]
  ·rcases plo2 j hj with q|q
   ·exact .inl q
   ·exact .inr (by omega)
 ·refine Fx.append (fun p hp=>?_) (fun p hp=>?_)
  ·have:=hi.flo p hp
   exact⟨keep (k1 p hp).1 (by omega) (by omega) (by omega),(k1 p hp).2⟩
  ·have:=flo2 p hp
   exact⟨keep (ha.fx p hp).1 (by omega) (by omega) (by omega),(ha.fx p hp).2⟩
 ·refine Rx.append (fun p hp=>?_) (fun p hp=>?_)
  ·obtain⟨q,hq,rfl⟩:=List.mem_map.1 hp
   have:=hi.rlo q hq
   exact⟨keep (k2.get hq).1 (by simp only;omega) (by simp only;omega) (by simp only;omega),(k2.get hq).2⟩
  ·obtain⟨q,hq,rfl⟩:=List.mem_map.1 hp
   have:=lo2 q hq
   exact⟨keep (ha.rts.get hq).1 (by simp only;omega) (by simp only;omega) (by simp only;omega),(ha.rts.get hq).2⟩
 ·intro p hp
  rcases List.mem_append.1 hp with q|q
  ·exact hi.flo p q
  ·have:=flo2 p q;omega
 ·intro p hp
  rcases List.mem_append.1 hp with q|q
  ·exact hi.rlo p q
  ·have:=lo2 p q;omega
 ·rw[List.map_append,List.nodup_append]
  refine⟨hi.nd,?_,?_⟩
  ·exact ha.nd
  ·intro x hx y hy e
   subst e;have h1:=ZuF hi.rts x hx;obtain⟨p,hp,rfl⟩:=List.mem_map.1 hy
   have:=lo2 p hp
   omega
 ·exact (hi.cl.mono (fun p hp=>by simp[hp])).append (ha.cl.mono (fun p hp=>by simp[hp]))
 ·rw[Zs hu]
  exact hi.tr.snoc ha.tr
 ·have hb0:=hi.b0
  rw[<- f1.old _ (by omega) (fun q=>by rcases hi.plo _ q with w|w;have:=hltL _ w;omega;omega)]at hb0
  exact keep hb0 (by omega) (by omega) (by omega)
theorem AddT.root{rx:Nat}{its:List It}{R:List (Nat × Ro)}(h:AddT t rx its R):∃r:Ro,(rx,r)∈R/\r.m=t.mea/\r.h=t.h:=by
 cases h with
 | @kept o h m k _ h0=>exact⟨⟨o,h,m⟩,by simp,(ZQH h0).symm,rfl⟩
 | @leaf s k _=>exact⟨⟨0,0,JQ s⟩,by simp,(ZQG _ _).symm,rfl⟩
 | @inner h l _ rs its R hl hn hx=>exact⟨⟨0,h+1,Z7 (l.map Tr.mea)⟩,by simp,(Zi7 _ _).symm,rfl⟩
theorem ZvR {l:List Tr} {A:List (Bool × List Blk)} (ih:∀u∈l,∀ {L:List Blk} {ip:Nat} {a td:AV} {cls:LV},Pen A L ip a td cls->cls.length+u.cnt<1000000 ->
 ∃L' td' rx its cs R F,S Tb Q7 [.ptr A.length ip 0 0 0,u.av] ⟨A,false,L⟩=some (.ptr A.length rx 0 0 0,⟨A,false,L'⟩)/\Added A L ip a td cls u L' td' rx its cs R F)
 (hl4:1<=l.length/\l.length<=4) (hfit:∀u∈l,u.mea.Fit 65536) {h:Nat} (hh:h<=16) {L:List Blk} {ip:Nat} {a td:AV} {cls:LV} (hP:Pen A L ip a td cls) (hc:cls.length+(Tr.mk 0 (h+1) .zero [] (some l)).cnt<1000000) :
 ∃L' td' rx its cs R F,S Tb Q7 [.ptr A.length ip 0 0 0,(Tr.mk 0 (h+1) .zero [] (some l)).av] ⟨A,false,L⟩=some (.ptr A.length rx 0 0 0,⟨A,false,L'⟩)/\Added A L ip a td cls (.mk 0 (h+1) .zero [] (some l)) L' td' rx its cs R F:=by
 have hav:(Tr.mk 0 (h+1) .zero [] (some l)).av=.agg [.int .u64 (0:Nat),.int .i64 ((h+1:Nat):Int),.int .i64 0,.int .i64 0,.int .i64 0,.str [],.lit (l.map Tr.av)]:=by
  rw[Tr.av,Tr.avO_sl];rfl
 have hcn:(Tr.mk 0 (h+1) .zero [] (some l)).cnt=1+Tr.cntL l:=by rw[Tr.cnt,Tr.cntO];simp
 rw[hcn]at hc
 have hltL:∀j,Yb ip td j->j<L.length:=fun j hj=>hP.lt hj
 have hmain:Sp Tb Q7 [.ptr A.length ip 0 0 0,(Tr.mk 0 (h+1) .zero [] (some l)).av] ⟨A,false,L⟩ fun v st'=>∃L' td' rx its cs R F,v=.ptr A.length rx 0 0 0/\st'=⟨A,false,L'⟩/\Added A L ip a td cls (.mk 0 (h+1) .zero [] (some l)) L' td' rx its cs R F:=by
  refine ZhX Y ?_
  have e0:(⟨A,false,L⟩:St)=⟨A,false,L++[]⟩:=by rw[lN]
  rw[e0,hav]
  repeat'(first|refine Xu Y Y Y Y Y ?_|refine ZDs Y Y Y Y ?_|refine Zmm Y ?_|refine ZE ?_|refine ZD ?_|refine ZG Y ?_|refine ZI Y Y ?_|refine Z9 Y ?_|refine Zi Y Y Y Y ?_|refine ZB Y ?_|refine ZC ?_|refine Qo Y ?_|(refine cm0 Y Y Y ?_ ?_<;>intro _<;>try omega)|(refine Y2 Y Y (fun _=>?_) (fun _=>?_)<;>try contradiction)|refine ZF Y ?_|refine Zn Y Y Y ?_|refine ZS ?_)
  refine Z2 (α:=Nat × List Blk) (fun p=>[(0,.ptr A.length ip 0 0 0),(3,.ptr A.length L.length 0 0 0),(5,.ptr A.length (L.length+1) 0 0 0),(7,.ptr A.length (L.length+3) 0 0 0),(20,.lit (l.map Tr.av)),(21,.int .i64 l.length),(22,.int .i64 p.1)])
   (fun p=>⟨A,false,p.2⟩) (fun p=>∃td' rs its cs R F,AInv A L ip a td cls h l p.1 p.2 td' rs its cs R F) (fun p=>l.length-p.1) (0,_) ?_ rfl ?_ ?_
  ·simp
  ·refine⟨td,[],[],[],[],[],Nat.zero_le _,?_,.app _,fun p hp=>by simp at hp,fun p hp=>by simp at hp,fun p hp=>by simp at hp,fun p hp=>by simp at hp,fun j hj=>.inl hj,by simp,.nil,.nil,by simp,?_,?_,?_,?_,.nil⟩
   ·rw[lN];exact hP.app _
   ·exact (JJ (i:=0)).trans (by rw[hav];rfl)
   ·exact JJ (i:=1)
   ·exact JJ (i:=2)
   ·exact JJ (i:=3)
  rintro⟨i,Li⟩ ⟨td1,rs,its,cs,R,F,hi⟩
  simp only at hi ⊢
  have hle:=hi.le
  have hrs:rs.length=i:=by rw[hi.tr.len,List.length_take];omega
  have hplen:i=(ZQF A.length rs).length:=by simp[ZQF,hrs]
  have hll:=hi.len
  rcases Nat.lt_or_ge i l.length with hlt|hge
  ·obtain⟨u,hu⟩:∃u,l[i]?=some u:=⟨l[i]'hlt,by simp[hlt]⟩
   have hum:=jM hu
   have ht1:0<=((i:Nat):Int)/\l[((i:Nat):Int).toNat]?=some u:=⟨by omega,by rw[show ((i:Nat):Int).toNat=i by omega];exact hu⟩
   have hc1:(cls++cs).length+u.cnt<1000000:=by
    have h1:=hi.cl.len;have h2:=hi.tr.cnt
    have h3:Tr.cntL l=Tr.cntL (l.take i)+(u.cnt+Tr.cntL (l.drop (i+1))):=by
     conv=>lhs;rw[<- List.take_append_drop (i+1) l,Zs hu,Tr.cntL_append,Tr.cntL_append]
     simp[Tr.cntL];omega
    rw[lL];omega
   obtain⟨L1,td2,rx,its2,cs2,R2,F2,hS,ha⟩:=ih u hum (hi.pen.app [Blk.arr 7 0 [u.av]]) hc1;obtain⟨r,hr,hrm,hrh⟩:=ha.tr.root;have hrx:=ha.rlo _ hr;have hrg:=(ha.rts.get hr).1
   simp only at hrx hrg
   rw[lL,List.length_singleton]at hrx;have f1:=(Frm.app (L:=Li) (X:=Yb ip td1) [Blk.arr 7 0 [u.av]]).trans ha.frm
   have hnx:∀j,j<4->¬ Yb ip td1 (L.length+j):=fun j hj q=>by
    rcases hi.plo _ q with w|w
    ·have:=hltL _ w;omega
    ·omega
   have g1:=hi.b1;have g2:=hi.b2;have g3:=hi.b3
   rw[<- f1.old _ (by omega) (hnx 1 (by omega))]at g1
   rw[<- f1.old _ (by omega) (hnx 2 (by omega))]at g2
   rw[<- f1.old _ (by omega) (hnx 3 (by omega))]at g3
   have hl1:=ha.frm.len;rw[lL,List.length_singleton]at hl1
   have gA2:∀T,(L1++T)[L.length+2]?=some (.arr 1 i (ZQF A.length rs)):=fun T=>ZDw g2
   have gA3:∀T b,((L1++T).set (L.length+2) b)[L.length+3]?=some (.arr 1 0 [.ref A.length (L.length+2) i 0 i]):=fun T b=>by
    rw[jS (by omega)];exact ZDw g3
   have gA1:∀T b c,(((L1++T).set (L.length+2) b).set (L.length+3) c)[L.length+1]?=some (.arr 5 0 [.agg [.int .u64 (0:Nat),.int .i64 ((h+1:Nat):Int),.int .i64 (Z7 ((l.take i).map Tr.mea)).b,.int .i64 (Z7 ((l.take i).map Tr.mea)).r,.int .i64 (Z7 ((l.take i).map Tr.mea)).l]]):=fun T b c=>by
    rw[jS (by omega),jS (by omega)];exact ZDw g1
   have gAr:∀T b c,(((L1++T).set (L.length+2) b).set (L.length+3) c)[rx]?=some (.arr 5 0 [r.av]):=fun T b c=>by
    rw[jS (by omega),jS (by omega)];exact ZDw hrg
   have hsf:=ZDo (l:=(l.take i).map Tr.mea) (fun m hm=>by obtain⟨w,hw,rfl⟩:=List.mem_map.1 hm;exact hfit w (List.mem_of_mem_take hw))
   have hsl:(((l.take i).map Tr.mea).length:Int)*65536<=262144:=by simp;omega
   have huf:=hfit u hum;rw[<- hrm]at huf;obtain⟨s1,s2,s3,s4,s5,s6⟩:=hsf;obtain⟨m1,m2,m3,m4,m5,m6⟩:=huf
   have hbb:0<=(Z7 ((l.take i).map Tr.mea)).b/\(Z7 ((l.take i).map Tr.mea)).b<=262144/\0<=(Z7 ((l.take i).map Tr.mea)).r/\(Z7 ((l.take i).map Tr.mea)).r<=262144/\0<=(Z7 ((l.take i).map Tr.mea)).l/\(Z7 ((l.take i).map Tr.mea)).l<=262144:=⟨s1,by omega,s3,by omega,s5,by omega⟩
   have hpl:(ZQF A.length rs).length+[AV.ptr A.length rx 0 0 0].length<4294967296:=by simp;omega
   repeat'(first|refine Jw Y Y ht1 QI ?_|refine ZuE (gA1 _ _ _) (gAr _ _ _) (by omega) hbb ⟨m1,m2,m3,m4,m5,m6⟩ ?_|refine ZE ?_|refine ZD ?_|refine ZG Y ?_|refine ZB Y ?_|refine ZC ?_|(refine cm0 Y Y Y ?_ ?_<;>intro _<;>try omega)|refine ZU Y ?_|refine Zr Y Y (by omega) ?_|refine Zw Y Y Y ?_|refine Qt Y (Z0 _) ?_|refine Ql Y Y (Z0 _) ?_|refine Q1 Y Y Y (Qn _ _ _) (JR _ _) Y ?_|refine ZA Y Y (by first|rfl|(simp only[lE,lN,lC,Zm,Zb,ZZ];first|done|rfl)) (hS) ?_|refine ZQ Y g3 Y Y ?_|refine Zn2 Y Y ?_|refine Zk1 (ys:=[.ptr A.length rx 0 0 0]) Y Y (ZcR _ _ []) (gA2 _) hplen Y (ZrV _ _ _) hpl (by decide) ?_|refine Qs (gA3 _ _) Y Y Y (Qu _ (Nat.lt_succ_self _)) Y ?_|refine ZH ?_|refine ZS ?_|refine Z5 ?_|refine QJ ?_)
   have hT3:(((L1++[Blk.arr 1 0 [.ptr A.length rx 0 0 0]]).set (L.length+2) (.arr 1 (i+1) (ZQF A.length rs++[.ptr A.length rx 0 0 0]))).set (L.length+3) (.arr 1 0 ([AV.ref A.length (L.length+2) i 0 i].set 0 (.ref A.length (L.length+2) (i+1) 0 (i+[AV.ptr A.length rx 0 0 0].length))))).length=(L1++[Blk.arr 1 0 [.ptr A.length rx 0 0 0]]).length:=by simp
   refine⟨(i+1,_),⟨rfl,rfl⟩,⟨td2,rs++[rx],its++its2,cs++cs2,R++R2,F++F2,hi.step hP hu ha (T:=[Blk.arr 1 0 [.ptr A.length rx 0 0 0]]) (by simp) ?_ ?_ ?_ ?_⟩,by simp only;omega⟩
   ·intro j hj n1 n2 n3
    rw[jS (by omega),jS (by omega),jS (by omega),jL hj]
   ·rw[List.getElem?_set_self (by rw[hT3,lL];omega),Zs hu,List.map_append,ZAH]
    rw[jC,List.map_nil,Z7,Z7,Mea.add_zero,<- hrm];rfl
   ·rw[jS (by omega),jS (by omega),List.getElem?_set_self (by rw[lL];omega)]
    simp[ZQF]
   ·rw[jS (by omega),List.getElem?_set_self (by rw[List.length_set,lL];omega)]
    rfl
  ·obtain rfl:i=l.length:=by omega
   have htr:=hi.tr;have g1:=hi.b1;rw[List.take_length]at htr g1;have g0:=hi.b0
   have g2:Li[L.length+2]?=some (.arr 1 rs.length (ZQF A.length rs)):=by rw[hrs];exact hi.b2
   have g3:Li[L.length+3]?=some (.arr 1 0 [.ref A.length (L.length+2) rs.length 0 rs.length]):=by rw[hrs];exact hi.b3
   have hcl:(cls++cs).length<1000000:=by
    have h1:=hi.cl.len;have h2:=htr.cnt;rw[lL];omega
   have hnx:∀j,j<4->¬ Yb ip td1 (L.length+j):=fun j hj q=>by
    rcases hi.plo _ q with w|w
    ·have:=hltL _ w;omega
    ·omega
   obtain⟨L1,td2,hS,hp,hf,hx⟩:=Zux hi.pen (rx:=L.length+1) (Cv.two (n:=A.length) L.length (L.length+3)) hcl
   have hnx2:∀j,j<4->¬ Yb ip td2 (L.length+j):=fun j hj q=>by
    rcases hf.own _ q with w|w
    ·exact hnx j hj w
    ·omega
   rw[<- hf.old L.length (by omega) (hnx 0 (by omega))]at g0
   rw[<- hf.old _ (by omega) (hnx 1 (by omega))]at g1
   rw[<- hf.old _ (by omega) (hnx 2 (by omega))]at g2
   rw[<- hf.old _ (by omega) (hnx 3 (by omega))]at g3
   have hkl:∀k∈R.map Prod.fst,L.length+4<=k:=fun k hk=>by
    obtain⟨p,hp,rfl⟩:=List.mem_map.1 hk;exact hi.rlo p hp
   repeat'(first|refine ZE ?_|refine ZD ?_|refine ZG Y ?_|refine ZB Y ?_|refine ZC ?_|(refine cm0 Y Y Y ?_ ?_<;>intro _<;>try omega)|refine ZF Y ?_|refine YN Y Y ?_|refine ZA Y Y Y (hS) ?_|refine ZP ?_|refine Zz ?_|refine ZL ?_|refine Zk ?_|refine Z5 ?_|refine Zh Y ?_|refine Zx ?_)
   all_goals try omega
   refine⟨_,_,Jo (.inr Y) Y Y Y Y,L1,td2,L.length+1,its++[⟨L.length+1,.inn (h+1) rs⟩],cs++[clV A.length Li.length (Li.length+2) (Li.length+1)],R++[(L.length+1,⟨0,h+1,Z7 (l.map Tr.mea)⟩)],
    (F++[(L.length,Blk.arr 7 0 [(Tr.mk 0 (h+1) .zero [] (some l)).av]),(L.length+3,Blk.arr 1 0 [.ref A.length (L.length+2) rs.length 0 rs.length]),(L.length+2,Blk.arr 1 rs.length (ZQF A.length rs))]) ++
     [(Li.length,Blk.arr 1 0 [.ptr A.length ip 0 0 0]),(Li.length+1,Blk.arr 1 0 [.ptr A.length (L.length+1) 0 0 0]),(Li.length+2,Blk.arr 1 0 [.func (.func JZ) [] [.ptr A.length L.length 0 0 0,.ptr A.length (L.length+3) 0 0 0]])],rfl,rfl,
    ⟨by rw[<- List.append_assoc];exact hp,hi.frm.trans hf,?_,?_,?_,?_,?_,.inner htr hi.nd (fun q=>by have:=hkl _ q;omega),?_,(hi.fw.append (.cons (by decide) (.cons (by decide) (.cons (by decide) .nil)))).append (.cons (by decide) (.cons (by decide) (.cons (by decide) .nil)))⟩⟩
   ·refine Fx.append (Fx.append (hi.fx.frm hf) (fun p hp=>?_)) hx
    simp only[List.mem_cons,List.not_mem_nil,or_false]at hp
    rcases hp with rfl|rfl|rfl
    ·exact⟨g0,hnx2 0 (by omega)⟩
    ·exact⟨g3,hnx2 3 (by omega)⟩
    ·exact⟨g2,hnx2 2 (by omega)⟩
   ·exact Rx.append (hi.rts.frm hf) (Rx.one g1 (hnx2 1 (by omega)))
   ·intro p hp
    simp only[List.mem_append,List.mem_cons,List.not_mem_nil,or_false]at hp
    rcases hp with (q|rfl|rfl|rfl)|rfl|rfl|rfl
    ·have:=hi.flo p q;omega
    all_goals simp only
    all_goals omega
   ·intro p hp
    simp only[List.mem_append,List.mem_singleton]at hp
    rcases hp with q|rfl
    ·have:=hi.rlo p q;omega
    ·simp only;omega
   ·refine (hi.cl.mono (fun p hp=>by simp[hp])).append (.cons ⟨Li.length,Li.length+2,Li.length+1,.func (.func JZ) [] [.ptr A.length L.length 0 0 0,.ptr A.length (L.length+3) 0 0 0],rfl,by simp,by simp,by simp,⟨L.length,L.length+3,L.length+2,Tr.mk 0 (h+1) .zero [] (some l),rfl,rfl,by simp,by simp,by simp⟩⟩ .nil)
   ·rw[List.map_append,List.nodup_append]
    refine⟨hi.nd,by simp,?_⟩
    intro x hx y hy e;simp only[jC,List.map_nil,List.mem_singleton]at hy
    have:=hkl x hx
    omega
 obtain⟨v,st',h1,L',td',rx,its,cs,R,F,rfl,rfl,h2⟩:=hmain;exact⟨L',td',rx,its,cs,R,F,h1,h2⟩
theorem ZwF{N:ZO}(hv:Val N t):t.bytes<=65536->∀ {L:List Blk} {ip:Nat} {a td:AV} {cls:LV},Pen A L ip a td cls->cls.length+t.cnt<1000000 ->
 ∃L' td' rx its cs R F,S Tb Q7 [.ptr A.length ip 0 0 0,t.av] ⟨A,false,L⟩=some (.ptr A.length rx 0 0 0,⟨A,false,L'⟩)/\Added A L ip a td cls t L' td' rx its cs R F:=by
 induction hv with
 | @kept o h m k x h0 hx hok hh hm hk=>intro _ L ip a td cls hP hc;exact ZrT hP h0 hk
 | @leaf s k h1 h2 hk=>intro _ L ip a td cls hP hc;exact ZrU hP (by omega) ⟨h1,h2⟩ hk
 | @inner h l hh h2 h4 hl hb hv ih =>
  intro hb2 L ip a td cls hP hc
  have hbs:∀u∈l,u.bytes<=65536:=fun u hu=>by
   obtain⟨i,hi,rfl⟩:=List.getElem_of_mem hu
   have h3:Tr.bytesL l=Tr.bytesL (l.take i)+(l[i].bytes+Tr.bytesL (l.drop (i+1))):=by
    conv=>lhs;rw[<- List.take_append_drop (i+1) l,Zs (jE hi),Tr.bytesL_append,Tr.bytesL_append]
    simp[Tr.bytesL];omega
   have n1:=Tr.bytesL_nonneg (l:=l.take i) (fun t ht=>by have:=(hv t (List.mem_of_mem_take ht)).pos.2;omega)
   have n2:=Tr.bytesL_nonneg (l:=l.drop (i+1)) (fun t ht=>by have:=(hv t (List.mem_of_mem_drop ht)).pos.2;omega)
   rw[Tr.bytes,Tr.bytesO]at hb2
   simp[Mea.zero]at hb2
   omega
  exact ZvR (fun u hu=>ih u hu (hbs u hu)) ⟨by omega,h4⟩ (fun u hu=>(hv u hu).mea_fit (hbs u hu)) (by omega) hP hc
theorem ZuG{xb:Nat}{s:B8}(h:st.get n xb=some (.arr 3 0 [.agg [.int .i64 0,.str s,.nils]])):S Tb J3 [.ptr n xb 0 0 0] st=some (Nd.av ⟨0,s,none⟩,st):=by
 refine QA Y (fun A hA=>?_)
 have g:=fun L=>ZV hA (ro:=false) (L:=L) h
 repeat'(first|refine ZE ?_|refine ZD ?_|refine ZB Y ?_|refine ZC ?_|refine Zc Y Y Y ?_|refine Zy Y Y Y Y Y Y ?_|refine Zt Y (g _) Y Y ?_|refine ZP ?_|refine ZL ?_)
 refine ZAB hA (by simp) Y Y Y Y Y ?_
 rfl
theorem ZcV(n b:Nat)(st:St):∀l:List Kid,mapSt (ZY (n+2) b) st (l.map Kid.av)=some (l.map Kid.av,st)
 | []=>rfl
 | k::l=>by
  rw[jC,mapSt]
  show ((some (k.av,st)).bind fun r=>(mapSt (ZY (n+2) b) r.2 (l.map Kid.av)).bind (Yd r.1))=_
  rw[oS,ZcV n b st l];rfl
theorem ZrW{b lv q:Nat}{h:Int}{s:B8}(st:St)(hl:lv<b):ZY QO b st (.agg [.int .i64 h,.str s,.ref lv ix ver q n])=some (.agg [.int .i64 h,.str s,.ref lv ix ver q n],st):=by
 show (mapSt (keepN (ZY 5 b)) _ _).bind ZE1=_
 simp only[mapSt,keepN,Y5,jB,if_false,ZY,oS,if_pos hl,Yd,ZE1]
theorem ZvS{L:List Blk}{l:List Kid}{h:Int}{s:B8}(hg:L[ix]?=some (.arr 4 ver (l.map Kid.av)))(hn:n=l.length):
 ZY QO A.length ⟨A,false,L⟩ (.agg [.int .i64 h,.str s,.ref A.length ix ver 0 n])=some (.agg [.int .i64 h,.str s,.lit (l.map Kid.av)],⟨A,false,L.set ix .dead⟩):=by
 subst hn
 have h1:=ZFF (n:=4) (A:=A) (s:=0) (m:=l.length) hg (by simp) (es':=l.map Kid.av) (by rw[List.drop_zero,List.take_of_length_le (by simp)];exact ZcV 2 0 _ l)
 show (mapSt (keepN (ZY 5 A.length)) _ _).bind ZE1=_
 simp only[mapSt,keepN,Y5,jB,if_false,ZY,oS]at h1 ⊢;rw[h1];simp only[oS,Yd,ZE1]
def kgV(lv kx:Nat):Nat->AV
 | 0=>.nils
 | i+1=>.ref lv kx i 0 (i+1)
def kgB(ks:List Kid):Nat->List Blk
 | 0=>[]
 | i+1=>[.arr 4 i ((ks.take (i+1)).map Kid.av)]
def Ro.kid(r:Ro):Kid:=⟨r.at_,r.m⟩
theorem ZuH{tb kb kx:Nat}{rs:List Nat}{ρ:Nat->Ro}(h1:st.get n tb=some (.arr 7 0 [t.av]))(h2:st.get n kb=some (.arr 1 0 [.ref n kx rs.length 0 rs.length]))(h3:st.get n kx=some (.arr 1 rs.length (ZQF n rs)))(h4:∀r∈rs,st.get n r=some (.arr 5 0 [(ρ r).av]))
 (hl:1<=rs.length/\rs.length<=4):S Tb JZ [.ptr n tb 0 0 0,.ptr n kb 0 0 0] st=some (Nd.av ⟨t.h,[],some (rs.map fun r=>(ρ r).kid)⟩,st):=by
 refine QA Y (fun A hA=>?_)
 have g1:=fun L=>ZV hA (ro:=false) (L:=L) h1
 have g2:=fun L=>ZV hA (ro:=false) (L:=L) h2
 have g3:=fun L=>ZV hA (ro:=false) (L:=L) h3
 obtain⟨ks,hks⟩:∃ks,ks=rs.map fun r=>(ρ r).kid:=⟨_,rfl⟩
 rw[<- hks]
 have hkl:ks.length=rs.length:=by rw[hks,List.length_map]
 have hwi:∀L,wIs 1 rs.length (St.get ⟨A,false,L⟩ n kx)=true:=fun L=>by rw[g3];simp[wIs]
 repeat'(first|refine ZE ?_|refine ZD ?_|refine ZG Y ?_|refine ZI Y Y ?_|refine ZB Y ?_|refine ZC ?_|refine JI Y ?_|refine Zn Y Y Y ?_|refine Zc Y Y Y ?_|refine Zy Y Y Y Y Y Y ?_|refine Zt Y (g1 _) Y (ZAh _) ?_|refine Zt Y (g2 _) Y Y ?_|refine ZS ?_)
 refine Z2 (α:=Nat) (fun i=>[(2,.ptr A.length 0 0 0 0),(3,.ptr A.length 1 0 0 0),(9,.ref n kx rs.length 0 rs.length),(10,.int .i64 rs.length),(11,.int .i64 i)])
  (fun i=>⟨A,false,[.arr 3 0 [.agg [.int .i64 0,.str [],.nils]],.arr 3 0 [.agg [.int .i64 t.h,.str [],kgV A.length 2 i]]]++kgB ks i⟩) (fun i=>i<=rs.length) (fun i=>rs.length-i) 0 rfl rfl (Nat.zero_le _) ?_
 intro i hi;replace hi:i<=rs.length:=hi
 rcases Nat.lt_or_ge i rs.length with hlt|hge
 ·obtain⟨r,hr⟩:∃r,rs[i]?=some r:=⟨rs[i]'hlt,by simp[hlt]⟩
  have g4:=fun L=>ZV hA (ro:=false) (L:=L) (h4 r (jM hr))
  have hp:(ZQF n rs)[0+((i:Nat):Int).toNat]?=some (.ptr n r 0 0 0):=by
   rw[show 0+((i:Nat):Int).toNat=i by omega,ZQF,jG,hr];rfl
  have hki:ks[i]?=some (ρ r).kid:=by rw[hks,jG,hr];rfl
  have htk:=Zs hki;unfold Ro.av at g4
  cases i with
  | zero =>
   simp only[kgV,kgB]
   repeat'(first|refine ZE ?_|refine ZD ?_|refine ZG Y ?_|refine ZI Y Y ?_|refine ZQ Y Y Y Y ?_|refine ZB Y ?_|refine ZC ?_|refine Ze Y Y ?_|(refine cm0 Y Y Y ?_ ?_<;>intro _<;>try omega)|refine ZU Y ?_|refine Zr Y Y (by omega) ?_|refine Zn Y Y Y ?_|refine Zy Y Y Y (Qu _ (Nat.lt_succ_self _)) Y Y ?_|refine Xy Y Y (by omega) (hwi _) ?_|refine Zt Y (g3 _) hp Y ?_|refine Zt Y (g4 _) Y Y ?_|refine ZXs Y Y Y ?_|refine ZDu Y Y Y (by simp) (by decide) Y ?_|refine ZH ?_|refine ZS ?_|refine Z5 ?_|refine QJ ?_)
   refine⟨0+1,⟨rfl,?_⟩,by omega,by omega⟩
   simp only[kgB,htk];rfl
  | succ i =>
   simp only[kgV,kgB]
   have hl2:∀x:AV,((ks.take (i+1)).map Kid.av).length+[x].length<4294967296:=fun x=>by simp;omega
   have hn2:i+1=((ks.take (i+1)).map Kid.av).length:=by simp;omega
   repeat'(first|refine ZQD Y Y Y hn2 Y Y (hl2 _) (by decide) ?_|refine ZE ?_|refine ZD ?_|refine ZG Y ?_|refine ZI Y Y ?_|refine ZQ Y Y Y Y ?_|refine ZB Y ?_|refine ZC ?_|refine Ze Y Y ?_|(refine cm0 Y Y Y ?_ ?_<;>intro _<;>try omega)|refine ZU Y ?_|refine Zr Y Y (by omega) ?_|refine Zn Y Y Y ?_|refine Zy Y Y Y (Qu _ (Nat.lt_succ_self _)) Y Y ?_|refine Xy Y Y (by omega) (hwi _) ?_|refine Zt Y (g3 _) hp Y ?_|refine Zt Y (g4 _) Y Y ?_|refine ZXs Y Y Y ?_|refine ZH ?_|refine ZS ?_|refine Z5 ?_|refine QJ ?_)
   refine⟨i+1+1,⟨rfl,?_⟩,by omega,by omega⟩
   simp only[kgB,htk,List.map_append];rfl
 ·obtain rfl:i=rs.length:=by omega
  obtain⟨m,hm⟩:∃m,rs.length=m+1:=⟨rs.length-1,by omega⟩
  have htk:ks.take (m+1)=ks:=List.take_of_length_le (by omega)
  rw[hm];simp only[kgV,kgB,htk]
  repeat'(first|refine ZE ?_|refine ZD ?_|refine ZQ Y Y Y Y ?_|refine ZB Y ?_|refine ZC ?_|(refine cm0 Y Y Y ?_ ?_<;>intro _<;>try omega)|refine ZF Y ?_|refine Zy Y Y Y (ZrW _ (Nat.lt_succ_self _)) Y Y ?_|refine ZP ?_|refine Zz ?_|refine ZL ?_|refine Zk ?_|refine Zh Y ?_|refine Zx ?_)
  all_goals try omega
  refine ZAB hA (.inr Y) Y Y Y (ZvS (l:=ks) Y (by omega)) Y ?_
  rfl
def JN(ρ:Nat->Ro):ItC->Nd
 | .leaf s=>⟨0,s,none⟩
 | .inn h ks=>⟨h,[],some (ks.map fun k=>(ρ k).kid)⟩
def Zmp:ItC->List Nat
 | .leaf _=>[]
 | .inn _ ks=>ks
theorem ZuI(x:Nd):weak x.av=x.av:=by
 obtain⟨h,s,k⟩:=x
 cases k<;>rfl
theorem wkPN(h:weak a=a)(x:Nd):ZZ (Zm ([]++[a,x.av]++[]))=some [a,x.av]:=by
 simp only[lE,lN,lC,Zm,ZuI,ZZ,h]
theorem ZpI{ρ:Nat->Ro}{c:ItC}(h:NdOk (JN ρ c)):((JN ρ c).h=0->(JN ρ c).kids=none)/\∀hh ks,c=.inn hh ks->1<=ks.length/\ks.length<=4:=by
 cases c with
 | leaf s=>exact⟨fun _=>rfl,fun hh ks q=>by simp at q⟩
 | inn hh ks =>
  rcases h with q|⟨n,l,q⟩
  ·have:=q.lo;simp[JN]at this
  ·have e:=q.eq
   have h1:=q.lo;have h2:=q.hi;simp only[JN,Nd.mk.injEq,oJ]at e;obtain⟨e1,_,e3⟩:=e
   refine⟨fun w=>by simp[JN]at w;omega,fun hh' ks' q2=>?_⟩
   simp only[ItC.inn.injEq]at q2;obtain⟨rfl,rfl⟩:=q2;rw[<- e3,List.length_map]at h1 h2;omega
theorem ZpJ{F:List (Nat × Blk)}{ρ:Nat->Ro}{c:ItC}(hcv:CvOk n F cv c)(hF:∀p∈F,st.get n p.1=some p.2)(hR:∀r∈Zmp c,st.get n r=some (.arr 5 0 [(ρ r).av]))(hl:∀h ks,c=.inn h ks->1<=ks.length/\ks.length<=4):
 S Tb (match cv with|.func (.func g) _ _=>g|_=>0) (match cv with|.func _ _ cap=>cap|_=>[]) st=some ((JN ρ c).av,st):=by
 cases c with
 | leaf s =>
  obtain⟨xb,rfl,h2⟩:=hcv;exact ZuG (hF _ h2)
 | inn h ks =>
  obtain⟨tb,kb,kx,t,rfl,h2,h3,h4,h5⟩:=hcv;subst h2;exact ZuH (hF _ h3) (hF _ h4) (hF _ h5) hR (hl _ _ Y)
theorem CvOk.form{F:List (Nat × Blk)}{c:ItC}(h:CvOk n F cv c):Cv n cv:=by
 cases c with
 | leaf s=>obtain⟨xb,rfl,_⟩:=h;exact .one _
 | inn h ks=>obtain⟨tb,kb,kx,t,rfl,_⟩:=h;exact .two _ _
def Ro.wr(r:Ro)(h:Nat):Ro:=⟨h,r.h,r.m⟩
theorem ZuJ{la b b0 b1 b2:Nat}{rp:AV}{r:AR}{F:List (Nat × Blk)}{ρ:Nat->Ro}{it:It}(hb0:st.get n b0=some (.arr 1 0 [.ptr n ip 0 0 0]))(hb1:st.get n b1=some (.arr 1 0 [cv]))(hb2:st.get n b2=some (.arr 1 0 [.ptr n it.rx 0 0 0]))
 (hip:st.get n ip=some (.arr 3 0 [.agg [.ptr la (b+5) 0 0 0,td,rp]])) (hcv:CvOk n F cv it.c) (hF:∀p∈F,st.get n p.1=some p.2) (hR:∀k∈Zmp it.c,st.get n k=some (.arr 5 0 [(ρ k).av])) (hrx:st.get n it.rx=some (.arr 5 0 [(ρ it.rx).av]))
 (hA:Has st la b r) (ho:AROk r) (hn:0<r.n) (hx:NdOk (JN ρ it.c)) (hL:∀k∈(JN ρ it.c).ks,∃y,lk r.nodes k.at_=some y/\NdOk y/\y.h+1=(JN ρ it.c).h/\y.mea=k.m) (hw:st.wr n)
 (hs:∀i,i=it.rx\/i=b2->¬ (n=la/\b<=i/\i<=b+5)) :
 S Tb XP [.ptr n b0 0 0 0,.ptr n b1 0 0 0,.ptr n b2 0 0 0] st=some (.tup [.int .u64 r.next,.int .i64 0],(Qy st la b (r.add (JN ρ it.c))).upd n it.rx (.arr 5 0 [((ρ it.rx).wr r.next).av])):=by
 obtain⟨hk0,hk4⟩:=ZpI hx
 refine Jz Y (fun A hA'=>?_)
 have g0:=fun L=>ZV hA' (ro:=false) (L:=L) hb0
 have g1:=fun L=>ZV hA' (ro:=false) (L:=L) hb1
 have g2:=fun L=>ZV hA' (ro:=false) (L:=L) hb2
 have g3:=fun L=>ZV hA' (ro:=false) (L:=L) hip
 have hC:=fun L=>ZpJ (st:=St.allRo ⟨A,false,L⟩) (ρ:=ρ) hcv (fun p hp=>by rw[J0];exact ZV hA' (hF p hp)) (fun k hk=>by rw[J0];exact ZV hA' (hR k hk)) hk4
 have hAl:=fun L=>ZrS (hA.push hA' (ro:=false) (L:=L)) ho hn hx hk0 hL
 have hle:=hA.le;have hP:=hA.put (r.add (JN ρ it.c));have hw1:(Qy st la b (r.add (JN ρ it.c))).wr n:=ZP0 hA.cl.wr hw
 have hg2:(Qy st la b (r.add (JN ρ it.c))).get n b2=some (.arr 1 0 [.ptr n it.rx 0 0 0]):=by rw[hA.out _ (hs _ (.inr rfl))];exact hb2
 have hgr:(Qy st la b (r.add (JN ρ it.c))).get n it.rx=some (.arr 5 0 [(ρ it.rx).av]):=by rw[hA.out _ (hs _ (.inl rfl))];exact hrx
 cases hcv.form
 all_goals simp only at hC
 all_goals repeat'(first|refine ZA Y Y (wkPN Y _) (hAl _) ?_|refine ZE ?_|refine ZD ?_|refine ZG Y ?_|refine ZI Y Y ?_|refine Zp Y Y ?_|refine ZB Y ?_|refine ZC ?_|refine Ze Y Y ?_|(refine cm0 Y Y Y ?_ ?_<;>intro _<;>try omega)|refine ZU Y ?_|refine Zt Y (g0 _) Y Y ?_|refine Zt Y (g1 _) Y Y ?_|refine Zt Y (g3 _) Y Y ?_|refine Xf Y Y Y (hC _) ?_)
 all_goals rw[ZCp hA' hle]
 all_goals obtain⟨A1,hA1⟩:∃A1,A1=(Qy st la b (r.add (JN ρ it.c))).ps:=⟨_,rfl⟩
 all_goals rw[<- hA1]
 all_goals generalize Qy st la b (r.add (JN ρ it.c))=st1 at *
 all_goals have q2:=fun L=>ZV hA1 (ro:=false) (L:=L) hg2
 all_goals repeat'(first|refine ZG Y ?_|refine ZI Y Y ?_|refine Ze Y Y ?_|refine Zt Y (q2 _) Y Y ?_)
 all_goals refine ZJc hA1 Y Y hw1 hgr Y Y Y (fun A2 hA2=>?_)
 all_goals repeat'(first|refine ZE ?_|refine ZD ?_|refine ZG Y ?_|refine ZB Y ?_|refine ZC ?_|refine ZP ?_|refine ZL ?_)
 all_goals refine ZX hA2 (.inr Y) Y Y Y Y ?_
 all_goals rfl
theorem ZvT{la b b0 b1 b2 tx:Nat}{rp cv cl:AV}{r:AR}{F:List (Nat × Blk)}{ρ:Nat->Ro}{it:It}(htd:st.get n tx=some (.arr 1 ver cls))(hj:cls[j]?=some cl)(hcl:ClOk n ip F cl it)(hlen:cls.length<1000000)
 (hip:st.get n ip=some (.arr 3 0 [.agg [.ptr la (b+5) 0 0 0,.ref n tx ver j (cls.length-j),rp]])) (hF:∀p∈F,st.get n p.1=some p.2) (hR:∀k∈Zmp it.c,st.get n k=some (.arr 5 0 [(ρ k).av])) (hrx:st.get n it.rx=some (.arr 5 0 [(ρ it.rx).av]))
 (hA:Has st la b r) (ho:AROk r) (hn:0<r.n) (hx:NdOk (JN ρ it.c)) (hL:∀k∈(JN ρ it.c).ks,∃y,lk r.nodes k.at_=some y/\NdOk y/\y.h+1=(JN ρ it.c).h/\y.mea=k.m) (hw:st.wr n)
 (hs:∀i,i=it.rx\/i=ip\/i=tx\/(∃p∈F,i=p.1)->¬ (n=la/\b<=i/\i<=b+5)) (hne:it.rx≠ip/\it.rx≠tx/\tx≠ip) :
 S Tb Xo [.ptr n ip 0 0 0] st=some (.tup [.int .u64 r.next,.bool (decide (cls.length=j+1)),.int .i64 0],
  ((Qy st la b (r.add (JN ρ it.c))).upd n it.rx (.arr 5 0 [((ρ it.rx).wr r.next).av])).upd n ip (.arr 3 0 [.agg [.ptr la (b+5) 0 0 0,.ref n tx ver (j+1) (cls.length-j-1),rp]])):=by
 obtain⟨b0,b1,b2,cv,rfl,h0,h1,h2,hcv⟩:=hcl;have hjl:=(List.getElem?_eq_some_iff.1 hj).1
 refine Jz Y (fun A hA'=>?_)
 have g3:=fun L=>ZV hA' (ro:=false) (L:=L) hip
 have gt:=fun L=>ZV hA' (ro:=false) (L:=L) htd
 have hwi:∀L,wIs 1 ver (St.get ⟨A,false,L⟩ n tx)=true:=fun L=>by rw[gt];simp[wIs]
 have hle:=hA.le;have hnl:n<=st.A.length:=St.get_le hip;have hP:=hA.put (r.add (JN ρ it.c));have hw1:(Qy st la b (r.add (JN ρ it.c))).wr n:=ZP0 hA.cl.wr hw;have hp1:=hs ip (.inr (.inl rfl));have hp2:=hs tx (.inr (.inr (.inl rfl)));have hp3:=hs it.rx (.inl rfl);have k1:(Qy st la b (r.add (JN ρ it.c))).get n it.rx=_:=(hA.out _ hp3).trans hrx;have k2:(Qy st la b (r.add (JN ρ it.c))).get n ip=_:=(hA.out _ hp1).trans hip;have k3:(Qy st la b (r.add (JN ρ it.c))).get n tx=_:=(hA.out _ hp2).trans htd
 have hput:=fun L=>ZuJ (st:=⟨A,false,L⟩) (ρ:=ρ) (ZV hA' (hF _ h0)) (ZV hA' (hF _ h1)) (ZV hA' (hF _ h2)) (g3 L) hcv (fun p hp=>ZV hA' (hF p hp)) (fun k hk=>ZV hA' (hR k hk)) (ZV hA' hrx) (hA.push hA' (ro:=false) (L:=L)) ho hn hx hL (XL hA' hnl hw)
  (fun i hi=>by
   rcases hi with rfl|rfl
   ·exact hp3
   ·exact hs _ (.inr (.inr (.inr ⟨_,h2,rfl⟩))))
 have e1:∀L,(Qy ⟨A,false,L⟩ la b (r.add (JN ρ it.c))).upd n it.rx (.arr 5 0 [((ρ it.rx).wr r.next).av])=⟨((Qy st la b (r.add (JN ρ it.c))).upd n it.rx (.arr 5 0 [((ρ it.rx).wr r.next).av])).ps,false,L⟩:=fun L=>by
  rw[ZCp hA' hle]
  exact Yt Y (by rw[ZKb];exact hnl)
 simp only[e1]at hput;clear e1
 have m1:∀l' i',((Qy st la b (r.add (JN ρ it.c))).upd n it.rx (.arr 5 0 [((ρ it.rx).wr r.next).av])).get l' i'=if l'=n/\i'=it.rx then some (.arr 5 0 [((ρ it.rx).wr r.next).av]) else (Qy st la b (r.add (JN ρ it.c))).get l' i':=fun l' i'=>St.get_upd k1 rfl
 have n2:=(m1 n ip).trans ((if_neg (fun q=>hne.1 q.2.symm)).trans k2)
 have n3:=(m1 n tx).trans ((if_neg (fun q=>hne.2.1 q.2.symm)).trans k3)
 have hw2:((Qy st la b (r.add (JN ρ it.c))).upd n it.rx (.arr 5 0 [((ρ it.rx).wr r.next).av])).wr n:=St.wr_upd hw1 hw1;clear m1 k1 k2 k3
 generalize (Qy st la b (r.add (JN ρ it.c))).upd n it.rx (.arr 5 0 [((ρ it.rx).wr r.next).av])=st1 at *
 have hj2:cls[j+((0:Nat):Int).toNat]?=some (clV n b0 b1 b2):=by simpa using hj
 unfold clV at hj2
 repeat'(first|refine ZE ?_|refine ZD ?_|refine ZG Y ?_|refine ZI Y Y ?_|refine ZB Y ?_|refine ZC ?_|refine Ze Y Y ?_|refine JI Y ?_|(refine cm0 Y Y Y ?_ ?_<;>intro _<;>try omega)|refine ZF Y ?_|refine JM Y Y Y Y ?_|refine Zt Y (g3 _) Y Y ?_|refine Xy Y Y (by omega) (hwi _) ?_|refine Zt Y (gt _) hj2 Y ?_|refine ZH ?_)
 all_goals try omega
 refine ZA Y Y Y (hput _) ?_;obtain⟨A1,hA1⟩:∃A1,A1=st1.ps:=⟨_,rfl⟩;rw[<- hA1]
 have q2:=fun L=>ZV hA1 (ro:=false) (L:=L) n2
 have q3:=fun L=>ZV hA1 (ro:=false) (L:=L) n3
 have hwi1:∀L,wIs 1 ver (St.get ⟨A1,false,L⟩ n tx)=true:=fun L=>by rw[q3];simp[wIs]
 repeat'(first|refine ZE ?_|refine ZD ?_|refine ZG Y ?_|refine ZI Y Y ?_|refine Zp Y Y ?_|refine ZB Y ?_|refine ZC ?_|refine Ze Y Y ?_|(refine cm0 Y Y Y ?_ ?_<;>intro _<;>try omega)|refine ZF Y ?_|refine Zt Y (q2 _) Y Y ?_|refine ZMQ Y Y (by omega) (hwi1 _) ?_|refine ZH ?_)
 all_goals try contradiction
 refine ZJc hA1 Y Y hw2 n2 Y (Qu _ (Nat.lt_succ_self _)) Y (fun A2 hA2=>?_)
 have eB:Blk.arr 3 0 ([AV.agg [.ptr la (b+5) 0 0 0,.ref n tx ver j (cls.length-j),rp]].set 0 (.agg [.ptr la (b+5) 0 0 0,.ref n tx ver (j+(1:Int).toNat) (cls.length-j-(1:Int).toNat),rp]))=Blk.arr 3 0 [.agg [.ptr la (b+5) 0 0 0,.ref n tx ver (j+1) (cls.length-j-1),rp]]:=rfl;rw[eB]at hA2;have r2:(st1.upd n ip (Blk.arr 3 0 [.agg [.ptr la (b+5) 0 0 0,.ref n tx ver (j+1) (cls.length-j-1),rp]])).get n ip=_:=(St.get_upd n2 rfl).trans (if_pos ⟨rfl,rfl⟩)
 have p2:=fun L=>ZV hA2 (ro:=false) (L:=L) r2
 repeat'(first|refine ZE ?_|refine ZD ?_|refine ZG Y ?_|refine ZI Y Y ?_|refine ZB Y ?_|refine ZC ?_|refine Ze Y Y ?_|refine JI Y ?_|(refine cm0 Y Y Y ?_ ?_<;>intro _<;>try omega)|refine Zt Y (p2 _) Y Y ?_|refine ZP ?_|refine ZL ?_)
 ·rename_i hz
  rw[decide_eq_true (show cls.length=j+1 by omega)]
  exact ZX hA2 (.inr Y) Y Y Y Y Y
 ·rename_i hz
  rw[decide_eq_false (show ¬ cls.length=j+1 by omega)]
  exact ZX hA2 (.inr Y) Y Y Y Y Y
def Ext(N M:ZO):Prop:=∀o x,lk N o=some x->lk M o=some x
theorem Ext.refl(N:ZO):Ext N N:=fun _ _ h=>h
theorem Ext.trans{N M K:ZO}(h:Ext N M)(g:Ext M K):Ext N K:=fun o x q=>g o x (h o x q)
theorem ZK2{N M:ZO}(hN:GoodN N)(hs:Ext N M):∀n o x,lk N o=some x->x.h=n->QT M n o=QT N n o:=by
 intro n
 induction n with
 | zero=>intro o x hx hh;rw[QT,QT,hx,hs _ _ hx]
 | succ n ih =>
  intro o x hx hh;rw[QT,QT,hx,hs _ _ hx];simp only[Option.map_some,Option.getD_some];have hk:=(hN o x hx).2
  have key:∀l:List Kid,(∀k∈l,k∈x.ks)->(l.flatMap fun k=>QT M n k.at_)=l.flatMap fun k=>QT N n k.at_:=by
   intro l
   induction l with
   | nil=>intro _;rfl
   | cons k l ih2 =>
    intro h
    obtain⟨_,y,y1,y2,_⟩:=hk k (h k (by simp))
    rw[List.flatMap_cons,List.flatMap_cons,ih k.at_ y y1 (by omega),ih2 (fun q hq=>h q (by simp[hq]))]
  exact key _ fun _ h=>h
theorem Zi8{r:AR}(ho:AROk r)(hn:0<r.n)(x:Nd):Ext r.nodes (r.add x).nodes:=fun o y h=>by
 rw[ZKc ho hn,if_neg]
 ·exact h
 ·intro q;rw[q,ho.new hn]at h;simp at h
def ZTZ(N:ZO)(x:Nd):Prop:=∀k∈x.ks,∃y,lk N k.at_=some y/\NdOk y/\y.h+1=x.h/\y.mea=k.m
theorem ZrX{r:AR}(ho:AROk r)(hn:0<r.n)(hg:GoodN r.nodes){x:Nd}(hx:NdOk x)(hk:ZTZ r.nodes x)(h0:∀k∈x.ks,k.at_≠0):GoodN (r.add x).nodes:=by
 intro o y h;have hE:=Zi8 ho hn x;rw[ZKc ho hn]at h
 split at h
 ·simp only[oJ]at h
  subst h
  refine⟨hx.copy,fun k hkk=>?_⟩
  have hkk':k∈x.ks:=hkk;obtain⟨z,z1,z2,z3,z4⟩:=hk k hkk';exact⟨h0 k hkk',z,hE _ _ z1,z3,z4⟩
 ·obtain⟨h1,h2⟩:=hg o y h
  refine⟨h1,fun k hkk=>?_⟩
  obtain⟨g0,z,z1,z2,z3⟩:=h2 k hkk;exact⟨g0,z,hE _ _ z1,z2,z3⟩
theorem AROk.hnd{r:AR}(h:AROk r){o:Nat}{x:Nd}(hx:lk r.nodes o=some x):ZCd o/\o≠0:=by
 obtain⟨s,g,h1,h2,h3,h4⟩:=h.key o x hx;obtain⟨g',g1,g2,g3⟩:=h.gen s h2;rw[h4]at g1;simp only[oJ]at g1
 have:=h.n16
 have:=h.most
 unfold ZCd;omega
def ZQI(ρ:Nat->Ro)(k h:Nat):Nat->Ro:=fun i=>if i=k then (ρ i).wr h else ρ i
inductive RunOk:List It->AR->(Nat->Ro)->AR->(Nat->Ro)->List Nat->Prop
 | nil {r ρ}:RunOk [] r ρ r ρ []
 | cons {it its r ρ r' ρ' hs} (hn:0<r.n) (hx:NdOk (JN ρ it.c)) (hk:ZTZ r.nodes (JN ρ it.c)) (h:RunOk its (r.add (JN ρ it.c)) (ZQI ρ it.rx r.next) r' ρ' hs):RunOk (it::its) r ρ r' ρ' (r.next::hs)
theorem RunOk.append{i1 i2:List It}{r:AR}{ρ ρ1 ρ2:Nat->Ro}{h1 h2:List Nat}(h:RunOk i1 r ρ r1 ρ1 h1)(g:RunOk i2 r1 ρ1 r2 ρ2 h2):RunOk (i1++i2) r ρ r2 ρ2 (h1++h2):=by
 induction h with
 | nil=>exact g
 | cons hn hx hk h ih=>exact .cons hn hx hk (ih g)
namespace Tr
mutual
def wr:Tr->AR->AR × Ro × List Nat
 | .mk o h m s k,r =>
  if o≠0 then (r,⟨o,h,m⟩,[])
  else if h=0 then (r.add ⟨0,s,none⟩,⟨r.next,0,JQ s⟩,[r.next])
  else ((wrO k r).1.add ⟨h,[],some (wrO k r).2.1⟩,⟨(wrO k r).1.next,h,Z7 ((wrO k r).2.1.map Kid.m)⟩,(wrO k r).2.2++[(wrO k r).1.next])
def wrO:Option (List Tr)->AR->AR × List Kid × List Nat
 | none,r=>(r,[],[])
 | some l,r=>wrL l r
def wrL:List Tr->AR->AR × List Kid × List Nat
 | [],r=>(r,[],[])
 | t::l,r=>((wrL l (t.wr r).1).1,(t.wr r).2.1.kid::(wrL l (t.wr r).1).2.1,(t.wr r).2.2++(wrL l (t.wr r).1).2.2)
end
end Tr
structure WrB(r:AR)(c:Nat)(r':AR)(hs:List Nat):Prop where
 ok:AROk r'
 good:GoodN r'.nodes
 ext:Ext r.nodes r'.nodes
 n:r'.n+c=r.n
 len:hs.length=c
 new:∀h∈hs,lk r.nodes h=none
 all:∀h x,lk r'.nodes h=some x->lk r.nodes h=some x\/h∈hs
 has:∀h∈hs,∃x,lk r'.nodes h=some x
 nodup:hs.Nodup
 frees:r'.frees=r.frees
 stale:r'.stale=r.stale
 slots:r'.slots=r.slots
 allocs:r'.allocs=r.allocs+c
 nl:r'.nodes.length=r.nodes.length+c
theorem WrB.refl{r:AR}(ho:AROk r)(hg:GoodN r.nodes):WrB r 0 r [] :=
 ⟨ho,hg,.refl _,by simp,rfl,fun h q=>by simp at q,fun h x q=>.inl q,fun h q=>by simp at q,by simp,rfl,rfl,rfl,by simp,by simp⟩
theorem WrB.trans{r r1 r2:AR}{c d:Nat}{h1 h2:List Nat}(h:WrB r c r1 h1)(g:WrB r1 d r2 h2):WrB r (c+d) r2 (h1++h2):=by
 refine⟨g.ok,g.good,h.ext.trans g.ext,by have:=h.n;have:=g.n;omega,by rw[lL,h.len,g.len],fun o ho=>?_,fun o x ho=>?_,fun o ho=>?_,?_,g.frees.trans h.frees,g.stale.trans h.stale,g.slots.trans h.slots,by rw[g.allocs,h.allocs];omega,by rw[g.nl,h.nl];omega⟩
 ·rcases List.mem_append.1 ho with q|q
  ·exact h.new o q
  ·cases hk:lk r.nodes o with
   | none=>rfl
   | some x=>have:=g.new o q;rw[h.ext _ _ hk]at this;simp at this
 ·rcases g.all o x ho with q|q
  ·rcases h.all o x q with w|w
   ·exact .inl w
   ·exact .inr (by simp[w])
  ·exact .inr (by simp[q])
 ·rcases List.mem_append.1 ho with q|q
  ·obtain⟨x,hx⟩:=h.has o q
   exact⟨x,g.ext _ _ hx⟩
  ·exact g.has o q
 ·rw[List.nodup_append]
  refine⟨h.nodup,g.nodup,fun x hx y hy e=>?_⟩
  subst e;obtain⟨z,hz⟩:=h.has x hx;rw[g.new x hy]at hz
  simp at hz
theorem WrB.one{r:AR}(ho:AROk r)(hn:0<r.n)(hg:GoodN r.nodes){x:Nd}(hx:NdOk x)(hk:ZTZ r.nodes x)(h0:∀k∈x.ks,k.at_≠0):WrB r 1 (r.add x) [r.next]:=by
 refine⟨ho.add hn x,ZrX ho hn hg hx hk h0,Zi8 ho hn x,?_,rfl,fun o q=>?_,fun o y q=>?_,fun o q=>?_,by simp,rfl,rfl,rfl,rfl,by simp[AR.add,AR.alloc]⟩
 ·show r.n-1+1=r.n;omega
 ·simp only[List.mem_singleton]at q;subst q;exact ho.new hn
 ·rw[ZKc ho hn]at q
  split at q
  ·rename_i e;exact .inr (by simp[e])
  ·exact .inl q
 ·simp only[List.mem_singleton]at q
  exact⟨x.copy,by rw[ZKc ho hn,if_pos q]⟩
end Go.Q15
