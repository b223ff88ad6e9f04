/- A part of the proof: M12, M13, M16, M2b, M19, PB, M14, M20, M21, PEa, M15, MW, RA, M1b, RB, M42, M17, RC, RD, RE, RF, RG. No condition. -/
import Derived.Test.YtbogmijilfefnaaPeT6
set_option linter.unusedVariables false
set_option linter.unusedSimpArgs false
namespace Go.Q15
open Go Go.QAbs
set_option maxRecDepth 100000
set_option maxHeartbeats 8000000
section
variable {O:Orc} {k:List Fr} {Q:Jv} {e:Env} {A:List (Bool × List Blk)} {L:List Blk} {keep:List Nat} {is:List PI} {d:Nat}
theorem ZII {a b:Opd} {agg:Bool} {n ix ver i o jx vb ib ob w:Nat} {es:List AV} {x v:AV} (ha:Zc e a=some (.ptr A.length ix ver i o)) (hb:Zc e b=some (.ptr A.length jx vb ib ob)) (hne:Nat.beq ix jx=false)
 (hg:L[ix]?=some (Blk.arr w ver es)) (hx:es[i]?=some x) (hv:Qm x agg o n=some v) (h:Is O is keep k Q ((d,v)::e) ⟨A,false,L⟩):Is O (⟨some d,none,false,.w (.hide [b]) (.ld agg n a)⟩::is) keep k Q e ⟨A,false,L⟩:=by
 refine Zi5 ?_ h
 have hp:ZAT (ZAD e [b]) A.length ix=false:=by
  have hxy:ix≠jx:=fun q=>by subst q;simp at hne
  simp [ZAT,ZAD,ZG hb,ZBP,hxy]
 have hgt:(St.hide (ZAT (ZAD e [b])) ⟨A,false,L⟩).get A.length ix=some (Blk.arr w ver es):=by
  rw [ZBR,hp,St.get_cur,hg];rfl
 simp only [QB,PO.reads,if_true,evalPO,ZG ha,loadP,hgt,ZGE,hx,hv,oS,Qi,QO]
theorem ZF5 {a x:Opd} {n ix ver i o w:Nat} {es:List AV} {v v' y:AV} (hg:L[ix]?=some (Blk.arr w ver es)) (ha:Zc e a=some (.ptr A.length ix ver i o)) (hx:Zc e x=some v) (hy:es[i]?=some y) (him:imm 6 v=true)
 (hs:ZY QD (A.length+1) ⟨A,false,L⟩ v=some (v,⟨A,false,L⟩)) (hv:(Qu w y o n v).bind Jw=some v') (h:Is O is keep k Q e ⟨A,false,L.set ix (Blk.arr w ver (es.set i v'))⟩):Is O (⟨none,none,false,.w (.plain a) (.st n a x)⟩::is) keep k Q e ⟨A,false,L⟩:=by
 have hlt:ix<L.length:=by
  rw [List.getElem?_eq_some_iff] at hg;exact hg.1
 have hv':Qu w y o n v=some v':=by
  simp only [oB] at hv;obtain ⟨u,h1,h2⟩:=hv;rw [h1,ZAN h2]
 refine Z1 (od:=none) (v:=.undef) (st':=⟨A,false,L.set ix (Blk.arr w ver (es.set i v'))⟩) ?_ h
 have hsb:ZKY (.ptr A.length ix ver i o) (.ptr A.length ix ver i o)=true:=by simp [ZKY]
 simp only [Zf,QB,ZNP,ZG ha,ZG hx,hsb,him,and_self,if_true];simp only [evalPO,ZG ha,ZG hx,ZBd,hs,oS,ZFB,St.get_cur,hg,vis,ZAC,if_true,hy,hv',St.put,if_false,jB,if_pos hlt,ZBO]
end
theorem ZDk {e:Env} {A:List (Bool × List Blk)} {st:St} {L:List Blk} {x:Ex} {b b2 c ix ver w ix2 ver2 w2:Nat} {t t2:Tr} {k:IntKind} {n:Int} {u:AV} (hA:A=st.A++[(st.ro,st.L)]) (hx:x=.norm\/x=.ret) (ht:J0 e b=some (.ptr A.length ix ver 0 0)) (hg:L[ix]?=some (.arr w ver [t.av]))
 (ht2:J0 e b2=some (.ptr A.length ix2 ver2 0 0)) (hg2:L[ix2]?=some (.arr w2 ver2 [t2.av])) (hc:J0 e c=some (.int k n)) (hu:.tup [t.av,t2.av,.int k n]=u):Q9 false [.c b true 7,.c b2 true 7,.s c] (x,e,⟨A,false,L⟩)=some (u,st):=by
 subst hu;refine ZBC (v:=.tup [t.av,t2.av,.int k n]) (ro:=false) (L':=L) hA hx ?_ ?_ rfl
 ·simp only [QQ,ZDo,ZIE ht hg,ZIE ht2 hg2,oS]
  simp only [ZBe,QK hc,oS,Option.map_some,ZGF]
 ·show (mapSt (ZY 5 A.length) _ _).bind Zbe=_
  rw [mapSt,ZM2 3,oS,mapSt,ZM2 3];rfl
theorem Zkv {N:ZJ} (hN:GoodN N):∀ (n:Nat) {st:St} {lv ix:Nat} (hr:Rd st lv ix N) {t:Tr} (ht:VE N t) (hn:t.h=n) (a:Int) (h0:0<=a) (h1:a<=t.bytes) (hb:t.bytes<=65536),
 S Tb ZAI [.ptr lv ix 0 0 0,t.av,.int .i64 a] st=some (.tup [(cutF N n t a).1.av,(cutF N n t a).2.av,.int .i64 0],st):=by
 intro n
 induction n with
 | zero =>
  intro st lv ix hr t ht hn a h0 h1 hb
  refine QJ rfl (fun A hA=>?_)
  have hrp:=fun L=>hr.push hA (ro:=false) (L:=L)
  have hB:=fun st=>X9 t ht.pos.1 (by omega) st
  rw [cutF]
  by_cases ha:a=0
  ·rw [if_pos ha]
   repeat' (first|refine ZE ?_|refine ZD ?_|refine ZF rfl ?_|refine ZA rfl ?_|refine ZC ?_|(refine Zp rfl rfl (fun _=>?_) (fun _=>?_)<;>try (exfalso;omega))|refine ZV rfl ?_|refine Zn rfl rfl rfl ?_|refine Za rfl rfl rfl ?_|refine Zl rfl rfl rfl (Z8 _ _ _) (QY _ _) rfl ?_|refine Zw rfl (Z5 _) (QI _) ?_|refine ZII rfl rfl rfl rfl rfl (Zq _) ?_|refine ZF5 rfl rfl rfl rfl rfl rfl rfl ?_|refine ZS ?_|refine ZO ?_|refine Zd ?_)
   all_goals try (exfalso;omega)
   exact ZDk (t:=.zero) hA (.inr rfl) rfl rfl rfl rfl rfl rfl
  ·rw [if_neg ha]
   by_cases ha2:a=t.bytes
   ·rw [if_pos ha2]
    repeat' (first|refine ZE ?_|refine ZD ?_|refine ZF rfl ?_|refine ZA rfl ?_|refine ZC ?_|(refine Zp rfl rfl (fun _=>?_) (fun _=>?_)<;>try (exfalso;omega))|refine ZV rfl ?_|refine ZH rfl ?_|refine Zn rfl rfl rfl ?_|refine Za rfl rfl rfl ?_|refine Zl rfl rfl rfl rfl rfl rfl ?_|refine ZP rfl rfl rfl (Zq _) ?_|refine Zl rfl rfl rfl (Z8 _ _ _) (QY _ _) rfl ?_|refine Zw rfl (Z5 _) (QI _) ?_|refine ZB rfl rfl (by first|rfl|(simp only [lE,lN,lC,ZZ,ZW,ZX];first|done|rfl)) (hB _) ?_|refine ZI ?_|refine ZS ?_|refine ZO ?_|refine Zd ?_)
    all_goals try (exfalso;omega)
    exact ZDk (t2:=.zero) hA (.inr rfl) rfl rfl rfl rfl rfl rfl
   ·rw [if_neg ha2]
    have hv:=ht.val (by omega)
    have hl:=hv.line hn
    have hL:=fun L=>Zgx (hrp L) hv
    have hC:=fun st=>Zo0 (Qc N t) a st
    rw [<- Zhx hl.2 (by omega)] at hC
    generalize Qc N t=s at *
    repeat' (first|refine ZE ?_|refine ZD ?_|refine ZF rfl ?_|refine ZQ rfl rfl ?_|refine Zs rfl rfl ?_|refine ZA rfl ?_|refine ZC ?_|(refine Zp rfl rfl (fun _=>?_) (fun _=>?_)<;>try (exfalso;omega))|(refine Zk rfl rfl (fun _=>?_) (fun _=>?_)<;>try (exfalso;omega))|refine ZV rfl ?_|refine ZH rfl ?_|refine Zn rfl rfl rfl ?_|refine Za rfl rfl rfl ?_|refine Zl rfl rfl rfl rfl rfl rfl ?_|refine ZP rfl rfl rfl (Zq _) ?_|refine Zw rfl (Z5 _) (QI _) ?_|refine ZP rfl rfl rfl (ZAn _) ?_|refine ZB rfl rfl (by first|rfl|(simp only [lE,lN,lC,ZZ,ZW,ZX];first|done|rfl)) (hB _) ?_|refine ZB rfl rfl (by first|rfl|(simp only [lE,lN,lC,ZZ,ZW,ZX];first|done|rfl)) (hL _) ?_|refine ZB rfl rfl (by first|rfl|(simp only [lE,lN,lC,ZZ,ZW,ZX];first|done|rfl)) (hC _) ?_|refine ZI ?_|refine ZS ?_|refine ZO ?_|refine Zd ?_)
    all_goals try (exfalso;omega)
    exact ZDk (t:=Ja (s.take a.toNat)) (t2:=Ja (s.drop a.toNat)) hA (.inr rfl) rfl rfl rfl rfl rfl rfl
 | succ n ih =>
  intro st lv ix hr t ht hn a h0 h1 hb
  refine QJ rfl (fun A hA=>?_)
  have hrp:=fun L=>hr.push hA (ro:=false) (L:=L)
  have hB:=fun st=>X9 t ht.pos.1 (by omega) st
  rw [cutF]
  by_cases ha:a=0
  ·rw [if_pos ha]
   repeat' (first|refine ZE ?_|refine ZD ?_|refine ZF rfl ?_|refine ZA rfl ?_|refine ZC ?_|(refine Zp rfl rfl (fun _=>?_) (fun _=>?_)<;>try (exfalso;omega))|refine ZV rfl ?_|refine Zn rfl rfl rfl ?_|refine Za rfl rfl rfl ?_|refine Zl rfl rfl rfl (Z8 _ _ _) (QY _ _) rfl ?_|refine Zw rfl (Z5 _) (QI _) ?_|refine ZII rfl rfl rfl rfl rfl (Zq _) ?_|refine ZF5 rfl rfl rfl rfl rfl rfl rfl ?_|refine ZS ?_|refine ZO ?_|refine Zd ?_)
   all_goals try (exfalso;omega)
   exact ZDk (t:=.zero) hA (.inr rfl) rfl rfl rfl rfl rfl rfl
  ·rw [if_neg ha]
   by_cases ha2:a=t.bytes
   ·rw [if_pos ha2]
    repeat' (first|refine ZE ?_|refine ZD ?_|refine ZF rfl ?_|refine ZA rfl ?_|refine ZC ?_|(refine Zp rfl rfl (fun _=>?_) (fun _=>?_)<;>try (exfalso;omega))|refine ZV rfl ?_|refine ZH rfl ?_|refine Zn rfl rfl rfl ?_|refine Za rfl rfl rfl ?_|refine Zl rfl rfl rfl rfl rfl rfl ?_|refine ZP rfl rfl rfl (Zq _) ?_|refine Zl rfl rfl rfl (Z8 _ _ _) (QY _ _) rfl ?_|refine Zw rfl (Z5 _) (QI _) ?_|refine ZB rfl rfl (by first|rfl|(simp only [lE,lN,lC,ZZ,ZW,ZX];first|done|rfl)) (hB _) ?_|refine ZI ?_|refine ZS ?_|refine ZO ?_|refine Zd ?_)
    all_goals try (exfalso;omega)
    exact ZDk (t2:=.zero) hA (.inr rfl) rfl rfl rfl rfl rfl rfl
   ·rw [if_neg ha2]
    have vt:=ht.val (by omega)
    have h16:=vt.h16
    obtain ⟨c1,c2,c3,c4⟩:=Qy hN vt (by omega)
    have hC:=fun L=>ZC9 (hrp L) vt (by omega)
    generalize childs N t=l at *
    have hl:∀ u∈l,Val N u/\u.h=n/\Big u:=fun u hu=>⟨(c1 u hu).1,by have:=(c1 u hu).2.1;omega,(c1 u hu).2.2⟩
    have hpos:∀ u∈l,0<=u.bytes:=fun u hu=>by have:=(hl u hu).1.pos.2;omega
    obtain ⟨s1,s2,s3,s4⟩:=ZM6 l a (by omega) hpos h0 (by omega)
    have key:∀ k Q p6 p7 L,
     (Rk (S Tb) k Q (.ex 0) [(0,.ptr lv ix 0 0 0),(2,.int .i64 (Qs l a).2),(6,.ptr A.length p6 0 0 0),(7,.ptr A.length p7 0 0 0),(13,.lit (l.map Tr.av)),(14,.int .i64 (Qs l a).1),(77,.bool false)] ⟨A,false,L⟩) ->
     Ru (S Tb) (.loop ZI4) k Q [(0,.ptr lv ix 0 0 0),(2,.int .i64 a),(6,.ptr A.length p6 0 0 0),(7,.ptr A.length p7 0 0 0),(13,.lit (l.map Tr.av)),(14,.int .i64 0)] ⟨A,false,L⟩:=by
     intro k Q p6 p7 L hex
     refine Z2 (α:=Nat × Int) (fun p=>[(0,.ptr lv ix 0 0 0),(2,.int .i64 p.2),(6,.ptr A.length p6 0 0 0),(7,.ptr A.length p7 0 0 0),(13,.lit (l.map Tr.av)),(14,.int .i64 p.1)]) (fun p=>⟨A,false,L⟩)
      (fun p=>p.1<l.length/\0<=p.2/\p.2<=a/\(Qs l a).1=p.1+(Qs (l.drop p.1) p.2).1/\(Qs l a).2=(Qs (l.drop p.1) p.2).2) (fun p=>l.length-p.1) (0,a) rfl rfl ⟨by simp only;omega,h0,Int.le_refl _,by simp,by simp⟩ ?_
     rintro ⟨i,b⟩ ⟨i1,i2,i3,i4,i5⟩
     simp only at i1 i2 i3 i4 i5 ⊢
     have hu:l[i]?=some l[i]:=by simp [i1]
     generalize l[i]=u at hu;have hum:=jM hu;have hub:=hpos u hum
     have hu16:u.bytes<=65536:=by
      have e:=hu
      have e2:Tr.bytesL l=Tr.bytesL (l.take i)+(u.bytes+Tr.bytesL (l.drop (i+1))):=by
       conv=>lhs;rw [<- List.take_append_drop (i+1) l,Zg hu,Tr.bytesL_append,Tr.bytesL_append]
       simp [Tr.bytesL];omega
      have:=Tr.bytesL_nonneg (l:=l.take i) (fun w hw=>hpos w (List.mem_of_mem_take hw))
      have:=Tr.bytesL_nonneg (l:=l.drop (i+1)) (fun w hw=>hpos w (List.mem_of_mem_drop hw))
      omega
     have hBu:∀ w,l[((i:Nat):Int).toNat]?=some w->∀ st,S Tb QS [w.av] st=some (.int .i64 u.bytes,st):=by
      intro w hw st;have hw2:l[i]?=some w:=hw;rw [hu] at hw2
      have:=Option.some.inj hw2
      subst this
      exact X9 u (hl u hum).1.pos.1 (by omega) st
     have hd:l.drop i=u::l.drop (i+1):=by
      rw [List.drop_eq_getElem_cons i1]
      congr 1
      rw [jE i1] at hu;exact Option.some.inj hu
     repeat' (first|refine ZE ?_|refine ZD ?_|refine ZF rfl ?_|refine QE rfl ?_|refine J1 rfl rfl ?_|refine Zo rfl rfl rfl rfl ?_|refine ZA rfl ?_|refine ZC ?_|refine QU rfl ?_|(refine Zh rfl rfl (fun _=>?_) (fun _=>?_)<;>try (exfalso;omega))|(refine ZAY rfl rfl (fun _=>?_) (fun _=>?_)<;>try (exfalso;omega))|refine ZV rfl ?_|refine ZH rfl ?_|refine Zm rfl rfl (by omega) ?_|refine JR rfl rfl (by omega) ?_|refine Yx rfl rfl (by omega) Z5 (fun _ _=>?_)|refine QM rfl (Zq _) ?_|refine ZB rfl rfl (by first|rfl|(simp only [lE,lN,lC,ZZ,ZW,ZX];first|done|rfl)) (hBu _ (by assumption) _) ?_|refine ZI ?_|refine Zu ?_|refine ZL ?_|refine Ze ?_|refine Zy ?_|refine QH ?_|refine Zt ?_)
     all_goals try (exfalso;omega)
     ·rename_i g1 g2 g3 g4 g5 g6
      have hne:l.drop (i+1)≠[]:=by
       intro q
       have:=congrArg List.length q
       rw [List.length_drop] at this
       simp at this;omega
      have hsk:Qs (l.drop i) b=((Qs (l.drop (i+1)) (b-u.bytes)).1+1,(Qs (l.drop (i+1)) (b-u.bytes)).2):=by
       rw [hd]
       cases hq:l.drop (i+1) with
       | nil=>exact absurd hq hne
       | cons v r=>rw [Qs,if_pos (by omega)]
      refine ⟨(i+1,b-u.bytes),⟨rfl,rfl⟩,⟨by simp only;omega,by simp only;omega,by simp only;omega,?_,?_⟩,by simp only;omega⟩
      ·simp only [i4,hsk];omega
      ·simp only [i5,hsk]
     ·have hsk : Qs (l.drop i) b = (0, b) := by
       rw [hd]
       cases hq:l.drop (i+1) with
       | nil=>rfl
       | cons v r=>rw [Qs,if_neg (by omega)]
      rw [i4,i5,hsk] at hex;exact hex
     ·have hq:l.drop (i+1)=[]:=List.drop_of_length_le (by omega)
      have hsk:Qs (l.drop i) b=(0,b):=by rw [hd,hq];rfl
      rw [i4,i5,hsk] at hex;exact hex
    repeat' (first|refine ZE ?_|refine ZD ?_|refine ZF rfl ?_|refine ZQ rfl rfl ?_|refine Zs rfl rfl ?_|refine ZA rfl ?_|refine ZC ?_|(refine Zp rfl rfl (fun _=>?_) (fun _=>?_)<;>try (exfalso;omega))|(refine Zk rfl rfl (fun _=>?_) (fun _=>?_)<;>try (exfalso;omega))|refine ZH rfl ?_|refine Za rfl rfl rfl ?_|refine ZP rfl rfl rfl (Zq _) ?_|refine Zw rfl (Z5 _) (QI _) ?_|refine ZP rfl rfl rfl (ZAn _) ?_|refine ZB rfl rfl (by first|rfl|(simp only [lE,lN,lC,ZZ,ZW,ZX];first|done|rfl)) (hB _) ?_|refine ZB rfl rfl (by first|rfl|(simp only [lE,lN,lC,ZZ,ZW,ZX];first|done|rfl)) (hC _) ?_|refine ZI ?_|refine ZL ?_)
    all_goals try (exfalso;omega)
    refine key _ _ _ _ _ ?_
    generalize hk:(Qs l a).1=k at *
    generalize hb2:(Qs l a).2=b at *
    have hlm:(l.map Tr.av).length=l.length:=by simp
    have hh1:∀ u∈l.take k,u.h<=65536:=fun u hu=>by have:=(hl u (List.mem_of_mem_take hu)).2.1;omega
    have hh2:∀ u∈l.drop k,u.h<=65536:=fun u hu=>by have:=(hl u (List.mem_of_mem_drop hu)).2.1;omega
    have hh3:∀ u∈l.drop (k+1),u.h<=65536:=fun u hu=>by have:=(hl u (List.mem_of_mem_drop hu)).2.1;omega
    have hG1:∀ st,S Tb QL [.lit ((l.map Tr.av).take ((k:Nat):Int).toNat)] st=some ((grp (l.take k)).av,st):=fun st=>ZAA (by rw [List.length_take];omega) hh1 (by rw [Int.toNat_natCast,<- List.map_take];exact .lit _)
    have hG2:∀ st,S Tb QL [.lit ((l.map Tr.av).drop ((k:Nat):Int).toNat)] st=some ((grp (l.drop k)).av,st):=fun st=>ZAA (by rw [List.length_drop];omega) hh2 (by rw [Int.toNat_natCast,<- List.map_drop];exact .lit _)
    have hG3:∀ st,S Tb QL [.lit ((l.map Tr.av).drop (((k:Nat):Int)+1).toNat)] st=some ((grp (l.drop (k+1))).av,st):=fun st=>ZAA (by rw [List.length_drop];omega) hh3 (by rw [show (((k:Nat):Int)+1).toNat=k+1 by omega,<- List.map_drop];exact .lit _)
    by_cases hz:b=0
    ·rw [if_pos hz]
     generalize grp (l.take k)=g1 at *
     generalize grp (l.drop k)=g2 at *
     repeat' (first|refine ZE ?_|refine ZD ?_|refine ZF rfl ?_|refine ZA rfl ?_|refine ZC ?_|(refine Zp rfl rfl (fun _=>?_) (fun _=>?_)<;>try (exfalso;omega))|refine ZV rfl ?_|refine Zl rfl rfl rfl (Z8 _ _ _) (QY _ _) rfl ?_|refine ZFN rfl rfl (by omega) (Xu _) ?_|refine ZJO rfl rfl (by omega) (Xu _) ?_|refine Yp rfl rfl rfl (hG1 _) ?_|refine ZB rfl rfl (by first|rfl|(simp only [lE,lN,lC,ZZ,ZW,ZX];first|done|rfl)) (hG2 _) ?_|refine ZS ?_|refine ZO ?_|refine Zd ?_|refine Zb rfl ?_)
     all_goals try (exfalso;omega)
     exact ZDk hA (.inr rfl) rfl rfl rfl rfl rfl rfl
    ·rw [if_neg hz]
     obtain ⟨u,hu⟩:∃ u,l[k]?=some u:=⟨l[k],by simp [s1]⟩
     rw [hu];simp only [Option.getD_some];obtain ⟨u1,u2,u3⟩:=hl u (jM hu);have hub:=s4 u hu
     have hsum:Tr.bytesL l=Tr.bytesL (l.take k)+(u.bytes+Tr.bytesL (l.drop (k+1))):=by
      conv=>lhs;rw [<- List.take_append_drop (k+1) l,Zg hu,Tr.bytesL_append,Tr.bytesL_append]
      simp [Tr.bytesL];omega
     have p1:=Tr.bytesL_nonneg (l:=l.take k) (fun w hw=>hpos w (List.mem_of_mem_take hw))
     have p2:=Tr.bytesL_nonneg (l:=l.drop (k+1)) (fun w hw=>hpos w (List.mem_of_mem_drop hw))
     have hc:=Yk hN n u b (.inr u1) u2 s2 (by omega) (by omega)
     have hcut:∀ w,l[((k:Nat):Int).toNat]?=some w->∀ L,S Tb ZAI [.ptr lv ix 0 0 0,w.av,.int .i64 b] ⟨A,false,L⟩=some (.tup [(cutF N n u b).1.av,(cutF N n u b).2.av,.int .i64 0],⟨A,false,L⟩):=by
      intro w hw L;have hw2:l[k]?=some w:=hw;rw [hu] at hw2
      have:=Option.some.inj hw2
      subst this
      exact ih (hrp L) (.inr u1) u2 b s2 (by omega) (by omega)
     have a1:=(ZF4 (N:=N) (l:=l.take k) (by rw [List.length_take];omega) (show n+1<=16 by omega) (fun u hu=>hl u (List.mem_of_mem_take hu))).1
     have d1:=(ZF4 (N:=N) (l:=l.drop (k+1)) (by rw [List.length_drop];omega) (show n+1<=16 by omega) (fun u hu=>hl u (List.mem_of_mem_drop hu))).1
     have hcl:=hc.l;have hcr:=hc.r
     have hK1:=fun L=>ZHt hN (hrp L) a1 hcl
     have hK2:=fun L=>ZHt hN (hrp L) hcr d1
     generalize cutF N n u b=r at *
     obtain ⟨r1,r2⟩:=r
     simp only at *
     generalize grp (l.take k)=g1 at *
     generalize grp (l.drop (k+1))=g3 at *
     generalize concM N g1 r1=z1 at *
     generalize concM N r2 g3=z2 at *
     repeat' (first|refine ZE ?_|refine ZD ?_|refine ZF rfl ?_|refine Zs rfl rfl ?_|refine ZA rfl ?_|refine ZC ?_|(refine Zp rfl rfl (fun _=>?_) (fun _=>?_)<;>try (exfalso;omega))|(refine Zk rfl rfl (fun _=>?_) (fun _=>?_)<;>try (exfalso;omega))|refine ZH rfl ?_|refine Zm rfl rfl (by omega) ?_|refine Za rfl rfl rfl ?_|refine Yx rfl rfl (by omega) Z5 (fun _ _=>?_)|refine QM rfl (Zq _) ?_|refine ZP rfl rfl rfl (Zq _) ?_|refine Zl rfl rfl rfl (Z8 _ _ _) (QY _ _) rfl ?_|refine ZFN rfl rfl (by omega) (Xu _) ?_|refine ZJO rfl rfl (by omega) (Xu _) ?_|refine Yp rfl rfl rfl (hG1 _) ?_|refine Yp rfl rfl rfl (hG3 _) ?_|refine ZB rfl rfl (by first|rfl|(simp only [lE,lN,lC,ZZ,ZW,ZX];first|done|rfl)) (hcut _ (by assumption) _) ?_|refine ZB rfl rfl (by first|rfl|(simp only [lE,lN,lC,ZZ,ZW,ZX];first|done|rfl)) (hK1 _) ?_|refine ZB rfl rfl (by first|rfl|(simp only [lE,lN,lC,ZZ,ZW,ZX];first|done|rfl)) (hK2 _) ?_|refine ZII rfl rfl rfl rfl rfl (Zq _) ?_|refine ZF5 rfl rfl rfl rfl (Zkq 4 _) (Z8 _ _ _) (QY _ _) ?_|refine ZI ?_|refine ZS ?_|refine ZO ?_|refine Zb rfl ?_)
     all_goals try (exfalso;omega)
     exact ZDk hA (.inr rfl) rfl rfl rfl rfl rfl rfl
theorem ZHu {st:St} {lv ix:Nat} {N:ZJ} (hr:Rd st lv ix N) {t:Tr} (ht:VE N t) (hb:t.bytes<=65536):S Tb Jd [.ptr lv ix 0 0 0,t.av] st=some (.int .i64 0,st):=by
 rcases ht with h|h
 ·exact ZQv h
 ·exact ZbE hr h hb
theorem ZoB {N:ZJ} {st:St} {lv ix:Nat} (hr:Rd st lv ix N) {x y:Tr} (hx:VE N x) (hy:VE N y) (none:Bool) (hn:none=false->Val N x/\Val N y) (hb:x.bytes+y.bytes<=65536) :
 S Tb ZHD [.ptr lv ix 0 0 0,x.av,y.av,.bool none] st=some (.int .i64 0,st):=by
 refine QJ rfl (fun A hA=>?_)
 have hrp:=fun L=>hr.push hA (ro:=false) (L:=L)
 have hx0:=hx.pos.2;have hy0:=hy.pos.2
 have hC1:=fun L=>ZHu (hrp L) hx (by omega)
 have hC2:=fun L=>ZHu (hrp L) hy (by omega)
 have hB1:=fun st=>X9 x hx.pos.1 (by omega) st
 have hB2:=fun st=>X9 y hy.pos.1 (by omega) st
 cases none with
 | true =>
  repeat' (first|refine ZE ?_|refine ZD ?_|refine ZF rfl ?_|refine J1 rfl rfl ?_|refine Zni rfl ?_|refine Zo rfl rfl rfl rfl ?_|refine ZA rfl ?_|refine ZC ?_|refine ZAZ rfl rfl ?_|(refine Zh rfl rfl (fun _=>?_) (fun _=>?_)<;>try (exfalso;omega))|(refine QR rfl rfl (fun _=>?_) (fun _=>?_)<;>try (exfalso;omega))|(refine Zk rfl rfl (fun _=>?_) (fun _=>?_)<;>try (exfalso;omega))|refine ZV rfl ?_|refine ZH rfl ?_|refine Jc rfl rfl ?_|refine Zm rfl rfl (by omega) ?_|refine Za rfl rfl rfl ?_|refine QM rfl (Zq _) ?_|refine JF rfl rfl (Zq _) ?_|refine ZP rfl rfl rfl (Zq _) ?_|refine Zl rfl rfl rfl (Z8 _ _ _) (QY _ _) rfl ?_|refine Zw rfl (Z5 _) (QI _) ?_|refine ZCO rfl rfl ?_|refine Qh ?_|refine ZJN rfl rfl (by simp) rfl (Z5 _) ?_|refine ZB rfl rfl (by first|rfl|(simp only [lE,lN,lC,ZZ,ZW,ZX];first|done|rfl)) (hC1 _) ?_|refine ZB rfl rfl (by first|rfl|(simp only [lE,lN,lC,ZZ,ZW,ZX];first|done|rfl)) (hC2 _) ?_|refine Yp rfl rfl (wk1 _) (hB1 _) ?_|refine ZB rfl rfl (by first|rfl|(simp only [lE,lN,lC,ZZ,ZW,ZX];first|done|rfl)) (hB2 _) ?_|refine ZI ?_|refine ZS ?_|refine Zu ?_|refine ZL ?_|refine ZO ?_|refine Ze ?_|refine Zy ?_|refine Zb rfl ?_)
  all_goals try (exfalso;omega)
  all_goals refine Zj hA (by first|exact .inl rfl|exact .inr rfl) rfl rfl rfl rfl ?_
  all_goals rfl
 | false =>
  obtain ⟨vx,vy⟩:=hn rfl;obtain ⟨k,hk,hK⟩:=vx.kindNe;obtain ⟨k2,hk2,hK2⟩:=vy.kindNe
  repeat' (first|refine ZE ?_|refine ZD ?_|refine ZF rfl ?_|refine QE rfl ?_|refine Zo rfl rfl rfl rfl ?_|refine ZA rfl ?_|refine ZC ?_|refine ZAZ rfl rfl ?_|(refine Zh rfl rfl (fun _=>?_) (fun _=>?_)<;>try (exfalso;omega))|(refine QR rfl rfl (fun _=>?_) (fun _=>?_)<;>try (exfalso;omega))|(refine Zp rfl rfl (fun _=>?_) (fun _=>?_)<;>try (exfalso;omega))|(refine Zk rfl rfl (fun _=>?_) (fun _=>?_)<;>try (exfalso;omega))|refine ZV rfl ?_|refine ZH rfl ?_|refine Jc rfl rfl ?_|refine Zm rfl rfl (by omega) ?_|refine Za rfl rfl rfl ?_|refine QM rfl (Zq _) ?_|refine JF rfl rfl (Zq _) ?_|refine ZP rfl rfl rfl (Zq _) ?_|refine Zl rfl rfl rfl (Z8 _ _ _) (QY _ _) rfl ?_|refine Zw rfl (Z5 _) (QI _) ?_|refine ZCO rfl rfl ?_|refine Qh ?_|refine ZJN rfl rfl (by simp) rfl (Z5 _) ?_|refine ZB rfl rfl (by first|rfl|(simp only [lE,lN,lC,ZZ,ZW,ZX];first|done|rfl)) (hC1 _) ?_|refine ZB rfl rfl (by first|rfl|(simp only [lE,lN,lC,ZZ,ZW,ZX];first|done|rfl)) (hC2 _) ?_|refine ZB rfl rfl (by first|rfl|(simp only [lE,lN,lC,ZZ,ZW,ZX];first|done|rfl)) (hK _) ?_|refine ZB rfl rfl (by first|rfl|(simp only [lE,lN,lC,ZZ,ZW,ZX];first|done|rfl)) (hK2 _) ?_|refine Yp rfl rfl (wk1 _) (hB1 _) ?_|refine ZB rfl rfl (by first|rfl|(simp only [lE,lN,lC,ZZ,ZW,ZX];first|done|rfl)) (hB2 _) ?_|refine ZI ?_|refine ZS ?_|refine Zu ?_|refine ZL ?_|refine ZO ?_|refine Ze ?_|refine Zy ?_|refine Zb rfl ?_)
  all_goals try (exfalso;omega)
  all_goals refine Zj hA (by first|exact .inl rfl|exact .inr rfl) rfl rfl rfl rfl ?_
  all_goals rfl
theorem ZfL {N:ZJ} (hN:GoodN N) {st:St} {lv ix:Nat} (hr:Rd st lv ix N) {x y:Tr} (hx:VE N x) (hy:VE N y) (hb:x.bytes+y.bytes<=65536) :
 S Tb ZDw [.ptr lv ix 0 0 0,x.av,y.av] st=some (.tup [(concM N x y).own.av,.int .i64 0],st):=by
 refine QJ rfl (fun A hA=>?_)
 have hrp:=fun L=>hr.push hA (ro:=false) (L:=L)
 have hBo:=fun L=>ZoB (hrp L) hx hy true (fun q=>by cases q) hb
 have hCo:=fun L=>ZHt hN (hrp L) hx hy
 have hO:=fun st=>ZfF (concM N x y) (YD hN hx hy hb).ve.pos.1 st
 generalize concM N x y=z at *
 generalize z.own=zo at *
 repeat' (first|refine ZE ?_|refine ZD ?_|refine ZF rfl ?_|refine Zs rfl rfl ?_|refine ZA rfl ?_|refine ZC ?_|(refine Zk rfl rfl (fun _=>?_) (fun _=>?_)<;>try (exfalso;omega))|refine ZH rfl ?_|refine Za rfl rfl rfl ?_|refine ZP rfl rfl rfl (Zq _) ?_|refine Zl rfl rfl rfl (Z8 _ _ _) (QY _ _) rfl ?_|refine Zw rfl (Z5 _) (QI _) ?_|refine ZB rfl rfl (by first|rfl|(simp only [lE,lN,lC,ZZ,ZW,ZX];first|done|rfl)) (hBo _) ?_|refine ZB rfl rfl (by first|rfl|(simp only [lE,lN,lC,ZZ,ZW,ZX];first|done|rfl)) (hCo _) ?_|refine ZB rfl rfl (by first|rfl|(simp only [lE,lN,lC,ZZ,ZW,ZX];first|done|rfl)) (hO _) ?_|refine ZI ?_|refine ZS ?_|refine ZO ?_)
 all_goals try (exfalso;omega)
 exact ZCF hA (.inr rfl) rfl rfl rfl rfl
theorem Zdi {st:St} {lv ix:Nat} {b c:Blk}:(st.upd lv ix b).upd lv ix c=st.upd lv ix c:=by
 unfold St.upd
 by_cases h:lv=st.A.length
 ·simp only [if_pos h,List.set_set]
 ·simp only [if_neg h,List.length_set]
  rcases Nat.lt_or_ge lv st.A.length with q|q
  ·simp only [List.set_set,List.getElem?_set,if_true,if_pos q,Option.getD_some,ZYZ]
  ·simp only [List.set_eq_of_length_le q]
theorem ZX5 {st:St} {lv ix jx:Nat} {b c:Blk} (h:ix≠jx):(st.upd lv ix b).upd lv jx c=(st.upd lv jx c).upd lv ix b:=by
 unfold St.upd
 by_cases hl:lv=st.A.length
 ·simp only [if_pos hl]
  rw [List.set_comm _ _ h]
 ·simp only [if_neg hl,List.length_set]
  rcases Nat.lt_or_ge lv st.A.length with q|q
  ·simp only [List.set_set,List.getElem?_set,if_true,if_pos q,Option.getD_some,ZYZ]
   rw [List.set_comm _ _ h]
  ·simp only [List.set_eq_of_length_le q]
theorem ZfM {o:Option Blk} {b:Blk} (h:vis o=some b):o=some b:=by
 cases o with
 | none=>simp [vis] at h
 | some c=>cases c<;>simp [vis] at h<;>exact congrArg some h
theorem ZX6 {α:Type} {l:List α} {i:Nat} {b:α} (h:l[i]?=some b):l.set i b=l:=by
 obtain ⟨h1,h2⟩:=List.getElem?_eq_some_iff.1 h;subst h2;exact List.set_getElem_self h1
theorem upd_same {st:St} {lv ix:Nat} {b:Blk} (h:st.get lv ix=some b):st.upd lv ix b=st:=by
 unfold St.upd
 by_cases q:lv=st.A.length
 ·rw [if_pos q]
  rw [St.get,if_pos q] at h;have h2:=ZfM h;rw [ZX6 h2]
 ·rw [if_neg q]
  rw [St.get,if_neg q] at h
  cases hr:st.A[lv]? with
  | none=>rw [hr] at h;simp at h
  | some r =>
   rw [hr] at h;have h2:=ZfM h;have e1:r.2.set ix b=r.2:=ZX6 h2;simp only [Option.getD_some,ZYZ,e1]
   rw [show (r.1,r.2)=r from rfl]
   rw [ZX6 hr]
theorem wk4 (t:Tr) (a b c:AV) (ha:weak a=a) (hb:weak b=b) (hc:weak c=c):ZX (ZZ ([]++[t.av]++[a,b,c]))=some [t.av,a,b,c]:=by
 simp only [lE,lC,ZZ,ZW,ha,hb,hc,ZX]
structure AR where
 blk:List Int
 n:Nat
 ver:Nat
 states:List Int
 gens:List Int
 most:Int
 nodes:ZJ
 slots:Int
 allocs:Int
 frees:Int
 stale:Int
namespace AR
def b0 (r:AR):Blk:=.arr 1 0 (r.states.map (.int .u8))
def b1 (r:AR):Blk:=.arr 1 r.ver (r.blk.map (.int .i64))
def b2 (r:AR):Blk:=.arr 1 0 (r.gens.map (.int .u64))
def b3 (r:AR) (lv b:Nat):Blk:=.arr 4 0 [.agg [.ref lv (b+1) r.ver 0 r.n,.ref lv b 0 0 r.states.length,.ref lv (b+2) 0 0 r.gens.length,.int .u64 r.most]]
def b4 (r:AR):Blk:=.map (r.nodes.map nodeAV)
def b5 (r:AR) (lv b:Nat):Blk:=.arr 6 0 [.agg [.int .i64 r.slots,.ptr lv (b+3) 0 0 0,.map lv (b+4),.int .i64 r.allocs,.int .i64 r.frees,.int .i64 r.stale]]
end AR
structure Has (st:St) (lv b:Nat) (r:AR):Prop where
 wr:st.wr lv
 h0:st.get lv b=some r.b0
 h1:st.get lv (b+1)=some r.b1
 h2:st.get lv (b+2)=some r.b2
 h3:st.get lv (b+3)=some (r.b3 lv b)
 h4:st.get lv (b+4)=some r.b4
 h5:st.get lv (b+5)=some (r.b5 lv b)
theorem Xw {T:Tab} {f:FuncId} {body:PC} {res:List RV} {args:List AV} {st st2:St} {v:AV} (hT:T f=some (.pf ⟨false,body,res⟩))
 (h:∀ A,A=st.A++[(st.ro,st.L)]->Ru (S T) body [] (fun x e st'=>Q9 false res (x,e,st')=some (v,st2)) (QZ 0 args) ⟨A,false,[]⟩):S T f args st=some (v,st2):=by
 obtain ⟨⟨x,e',st',h1,h2⟩⟩:=h _ rfl;refine Zjr hT ?_;simp only [Ju,jB,if_false,St.push,h1,oS];exact h2
def AR.take (r:AR) (s:Nat):AR:={ r with n:=r.n-1,states:=r.states.set s 1 }
def Qt (st:St) (lv b:Nat) (r:AR) (s:Nat):St:=(st.upd lv (b+3) ((r.take s).b3 lv b)).upd lv b (r.take s).b0
theorem ZE3 {st:St} {lv b:Nat} {r:AR} (h:Has st lv b r) (s:Nat) (l' i':Nat):(Qt st lv b r s).get l' i'=if l'=lv/\i'=b then some (r.take s).b0 else if l'=lv/\i'=b+3 then some ((r.take s).b3 lv b) else st.get l' i':=by
 have g1:∀ l' i',(st.upd lv (b+3) ((r.take s).b3 lv b)).get l' i'=if l'=lv/\i'=b+3 then some ((r.take s).b3 lv b) else st.get l' i':=fun l' i'=>St.get_upd h.h3 rfl
 have b1:(st.upd lv (b+3) ((r.take s).b3 lv b)).get lv b=some r.b0:=by rw [g1,if_neg (by omega)];exact h.h0
 rw [Qt,St.get_upd b1 rfl,g1]
theorem Has.take {st:St} {lv b:Nat} {r:AR} (h:Has st lv b r) (s:Nat):Has (Qt st lv b r s) lv b (r.take s):=by
 refine ⟨St.wr_upd (St.wr_upd h.wr h.wr) (St.wr_upd h.wr h.wr),?_,?_,?_,?_,?_,?_⟩
 ·rw [ZE3 h,if_pos ⟨rfl,rfl⟩]
 ·rw [ZE3 h,if_neg (by omega),if_neg (by omega)];exact h.h1
 ·rw [ZE3 h,if_neg (by omega),if_neg (by omega)];exact h.h2
 ·rw [ZE3 h,if_neg (by omega),if_pos ⟨rfl,rfl⟩]
 ·rw [ZE3 h,if_neg (by omega),if_neg (by omega)];exact h.h4
 ·rw [ZE3 h,if_neg (by omega),if_neg (by omega)];exact h.h5
theorem Zkw {st:St} {lv b:Nat} {r:AR} (h:Has st lv b r) {k s g:Nat} (hn:r.n=k+1) (hk:r.blk[k]?=some (s:Int)) (hs:s<r.states.length) (hs2:s<16384) (hg:r.gens[s]?=some (g:Int)) (hg1:1<=g/\g<=4294967295) (hbig:r.n<65536) :
 S Tb XV [.ptr lv (b+3) 0 0 0] st=some (.tup [.int .u64 ((g*65536+s:Nat):Int),.int .i64 0],Qt st lv b r s):=by
 refine Xw rfl (fun A hA=>?_)
 have g1:=fun L=>ZU hA (ro:=false) (L:=L) h.h1
 have g3:=fun L=>ZU hA (ro:=false) (L:=L) h.h3
 unfold AR.b1 at g1;unfold AR.b3 at g3;rw [hn] at g3
 have hM:=fun st=>Zht s g hs2 hg1 st
 repeat' (first|refine ZE ?_|refine ZD ?_|refine ZF rfl ?_|refine ZQ rfl rfl ?_|refine ZA rfl ?_|refine ZC ?_|refine Zz rfl rfl ?_|refine YB rfl ?_|(refine Zp rfl rfl (fun _=>?_) (fun _=>?_)<;>try (exfalso;omega))|refine ZH rfl ?_|refine JR rfl rfl (by omega) ?_|refine JA rfl rfl rfl rfl ?_|refine Z9 rfl (g3 _) rfl rfl ?_|refine ZI ?_)
 all_goals try (exfalso;omega)
 have hw1:∀ L,wIs 1 r.ver (St.get ⟨A,false,L⟩ lv (b+1))=true:=fun L=>by rw [g1];simp [wIs]
 refine ZBB rfl rfl (by omega) (hw1 _) ?_
 refine Z9 (x:=.int .i64 s) rfl (g1 _) (by rw [show 0+(((k+1:Nat):Int)-1).toNat=k by omega,jG,hk];rfl) rfl ?_
 repeat' (first|refine ZE ?_|refine ZD ?_|refine ZF rfl ?_|refine ZQ rfl rfl ?_|refine ZA rfl ?_|refine ZC ?_|refine Zz rfl rfl ?_|refine YB rfl ?_|refine JR rfl rfl (by omega) ?_|refine Z9 rfl (g3 _) rfl rfl ?_)
 refine ZJP rfl rfl (by omega) (hw1 _) ?_
 repeat' (first|refine ZQ rfl rfl ?_|refine Zz rfl rfl ?_)
 have hle:=St.get_le h.h3;have h3':=h.h3;unfold AR.b3 at h3';rw [hn] at h3'
 refine is_stP hA rfl rfl h.wr h3' rfl (Jr _ (Nat.lt_succ_self _)) rfl (fun A1 hA1=>?_)
 have e1:(((k+1:Nat):Int)-1).toNat=k:=by omega
 have eB:Blk.arr 4 0 ([AV.agg [.ref lv (b+1) r.ver 0 (k+1),.ref lv b 0 0 r.states.length,.ref lv (b+2) 0 0 r.gens.length,.int .u64 r.most]].set 0 (.agg [.ref lv (b+1) r.ver 0 (((k+1:Nat):Int)-1).toNat,.ref lv b 0 0 r.states.length,.ref lv (b+2) 0 0 r.gens.length,.int .u64 r.most]))=(r.take s).b3 lv b:=by
  simp [AR.b3,AR.take,hn]
 rw [eB] at hA1
 have q1:∀ l' i',(st.upd lv (b+3) ((r.take s).b3 lv b)).get l' i'=if l'=lv/\i'=b+3 then some ((r.take s).b3 lv b) else st.get l' i':=fun l' i'=>St.get_upd h.h3 rfl
 have hw:=St.wr_upd (b:=(r.take s).b3 lv b) (ix:=b+3) h.wr h.wr
 have k0:(st.upd lv (b+3) ((r.take s).b3 lv b)).get lv b=some r.b0:=by rw [q1,if_neg (by omega)];exact h.h0
 have k2:(st.upd lv (b+3) ((r.take s).b3 lv b)).get lv (b+2)=some r.b2:=by rw [q1,if_neg (by omega)];exact h.h2
 have k3:(st.upd lv (b+3) ((r.take s).b3 lv b)).get lv (b+3)=some ((r.take s).b3 lv b):=by rw [q1,if_pos ⟨rfl,rfl⟩]
 have et:Qt st lv b r s=(st.upd lv (b+3) ((r.take s).b3 lv b)).upd lv b (r.take s).b0:=rfl;rw [et]
 generalize st.upd lv (b+3) ((r.take s).b3 lv b)=st1 at *
 unfold AR.b0 at k0;unfold AR.b3 AR.take at k3;simp only [List.length_set] at k3
 have m0:=fun L=>ZU hA1 (ro:=false) (L:=L) k0
 have m3:=fun L=>ZU hA1 (ro:=false) (L:=L) k3
 have hw0:∀ L,wIs 1 0 (St.get ⟨A1,false,L⟩ lv b)=true:=fun L=>by rw [m0];simp [wIs]
 repeat' (first|refine ZE ?_|refine ZD ?_|refine ZF rfl ?_|refine ZQ rfl rfl ?_|refine ZA rfl ?_|refine ZC ?_|refine Zz rfl rfl ?_|refine Z9 rfl (m3 _) rfl rfl ?_|refine ZBB rfl rfl (by omega) (hw0 _) ?_)
 refine is_stP hA1 (y:=.int .u8 (r.states[s]'hs)) rfl rfl hw k0 ?_ rfl rfl (fun A2 hA2=>?_)
 ·rw [show 0+((s:Nat):Int).toNat=s by omega,jG,jE hs];rfl
 have eS:Blk.arr 1 0 ((r.states.map (AV.int .u8)).set (0+((s:Nat):Int).toNat) (.int .u8 1))=(r.take s).b0:=by
  rw [show 0+((s:Nat):Int).toNat=s by omega]
  unfold AR.b0 AR.take;simp only [List.map_set]
 rw [eS] at hA2
 have q2:∀ l' i',(st1.upd lv b (r.take s).b0).get l' i'=if l'=lv/\i'=b then some (r.take s).b0 else st1.get l' i':=fun l' i'=>St.get_upd k0 rfl
 have n2:(st1.upd lv b (r.take s).b0).get lv (b+2)=some r.b2:=by rw [q2,if_neg (by omega)];exact k2
 have n3:(st1.upd lv b (r.take s).b0).get lv (b+3)=some (.arr 4 0 [.agg [.ref lv (b+1) r.ver 0 (r.n-1),.ref lv b 0 0 r.states.length,.ref lv (b+2) 0 0 r.gens.length,.int .u64 r.most]]):=by rw [q2,if_neg (by omega)];exact k3
 generalize st1.upd lv b (r.take s).b0=st2 at *
 unfold AR.b2 at n2
 have o2:=fun L=>ZU hA2 (ro:=false) (L:=L) n2
 have o3:=fun L=>ZU hA2 (ro:=false) (L:=L) n3
 have hw2:∀ L,wIs 1 0 (St.get ⟨A2,false,L⟩ lv (b+2))=true:=fun L=>by rw [o2];simp [wIs]
 have hsg:s<r.gens.length:=(List.getElem?_eq_some_iff.1 hg).1
 repeat' (first|refine ZE ?_|refine ZD ?_|refine ZF rfl ?_|refine ZQ rfl rfl ?_|refine ZA rfl ?_|refine ZC ?_|refine Zz rfl rfl ?_|refine Z9 rfl (o3 _) rfl rfl ?_|refine ZBB rfl rfl (by omega) (hw2 _) ?_)
 refine Z9 (x:=.int .u64 g) rfl (o2 _) (by rw [show 0+((s:Nat):Int).toNat=s by omega,jG,hg];rfl) rfl ?_
 repeat' (first|refine ZF rfl ?_|refine Zs rfl rfl ?_|refine ZA rfl ?_|refine ZC ?_|refine ZB rfl rfl rfl (hM _) ?_|refine ZS ?_|refine ZO ?_)
 refine Zj hA2 (.inr rfl) rfl rfl rfl rfl ?_;rfl
end Go.Q15
namespace Go.Q15
open Go Go.QAbs
set_option maxRecDepth 100000
set_option maxHeartbeats 1000000
def ZBs {α:Type} (l:List α) (g:Int) (i:Nat):List α:=(l.drop (ZDW l.length g i).toNat).take (XL l.length g i).toNat
def ZAQ (row:List Tr):List Tr:=(List.range (Zi row.length 4).toNat).map fun i=>grp (ZBs row (Zi row.length 4) i)
def Xc:Nat->List Tr->List Tr
 | 0,row=>row
 | n+1,row=>if row.length<=1 then row else Xc n (ZAQ row)
noncomputable def Z3 (s:List UInt8):Tr:=grp (Xc s.length ((YC s).map Ja))
theorem ZfN (s:List UInt8) (g:Int) (i:Nat):ZQF s g i=ZBs s g i:=rfl
theorem ZX7 {α:Type} (l:List α) {g:Int} (hg:1<=g):∀ k:Nat,k<=g.toNat->((List.range k).map (ZBs l g)).flatten=l.take (ZDW l.length g k).toNat
 | 0,_=>by rw [ZIG l.length g (by omega)];simp
 | k+1,h=>by
  rw [List.range_succ,List.map_append,List.flatten_append,ZX7 l hg k (by omega),ZE2]
  have h1:=ZBY (n:=l.length) (g:=g) (by omega) (by omega) (i:=k) (by omega)
  have h2:=ZAo (n:=l.length) (g:=g) (by omega) (by omega) k
  simp only [jC,List.map_nil,List.flatten_cons,List.flatten_nil,lN,ZBs];rw [Int.toNat_add h1.1 h2,List.take_add]
theorem ZbH {α:Type} (l:List α) {g:Int} (hg:1<=g):((List.range g.toNat).map (ZBs l g)).flatten=l:=by
 rw [ZX7 l hg g.toNat (Nat.le_refl _),ZfH l.length g (by omega)]
 simp
theorem ZX8 {α:Type} (l:List α) {g:Int} (hg:1<=g) {i:Nat} (hi:i<g.toNat):((ZBs l g i).length:Int)=XL l.length g i:=by
 have h1:=ZBY (n:=l.length) (g:=g) (by omega) (by omega) (i:=i+1) (by omega)
 have h0:=ZBY (n:=l.length) (g:=g) (by omega) (by omega) (i:=i) (by omega)
 have h2:=ZAo (n:=l.length) (g:=g) (by omega) (by omega) i
 rw [ZE2] at h1;rw [ZBs,List.length_take,List.length_drop];omega
theorem ZQy {n m:Int} (hm:1<=m) (hn:1<=n) {i:Nat}:XL n (Zi n m) i<=m/\n / Zi n m<=XL n (Zi n m) i:=by
 have hg:=Xb hn hm;have e1:Zi n m*(n / Zi n m)+n % Zi n m=n:=Int.mul_ediv_add_emod n (Zi n m)
 have e2:=Int.emod_nonneg n (show Zi n m≠0 by omega)
 have e3:n<=m*Zi n m:=by
  have a1:m*((n-1) / m)+(n-1) % m=n-1:=Int.mul_ediv_add_emod (n-1) m
  have a2:=Int.emod_lt_of_pos (n-1) (show 0<m by omega)
  unfold Zi;rw [Int.mul_add];omega
 refine ⟨?_,by unfold XL;split<;>omega⟩
 have e4:n / Zi n m<=m:=by
  apply Int.ediv_le_of_le_mul (by omega)
  exact e3
 unfold XL
 split
 ·rename_i h
  rcases Int.lt_or_le (n / Zi n m) m with q|q
  ·omega
  ·have:n / Zi n m=m:=by omega
   rw [this] at e1
   have:Zi n m*m=m*Zi n m:=Int.mul_comm _ _
   omega
 ·omega
structure Row (N:ZJ) (row:List Tr) (h:Nat) (s:List UInt8):Prop where
 val:∀ t∈row,Val N t/\t.h=h
 big:2<=row.length->∀ t∈row,Big t
 txt:Tr.txtL N row=s
theorem ZjB (N:ZJ) (ls:List (List Tr)) (h:∀ l∈ls,2<=l.length):Tr.txtL N (ls.map grp)=Tr.txtL N ls.flatten:=by
 induction ls with
 | nil=>rfl
 | cons a r ih =>
  rw [jC,Tr.txtL,List.flatten_cons,Tr.txtL_append,ZF2 N (h a (by simp)),ih (fun l hl=>h l (by simp [hl]))]
theorem ZX9 {N:ZJ} {row:List Tr} {h:Nat} {s:List UInt8} (hr:Row N row h s) (h2:2<=row.length) (hh:h+1<=16):Row N (ZAQ row) (h+1) s/\(ZAQ row).length<row.length/\1<=(ZAQ row).length:=by
 have hg:=Xb (n:=row.length) (most:=4) (by omega) (by omega)
 have hg4:Zi row.length 4=((row.length:Int)-1) / 4+1:=rfl
 have hlen:(ZAQ row).length=(Zi row.length 4).toNat:=by unfold ZAQ;simp
 have hsz:∀ i,i<(Zi row.length 4).toNat->2<=(ZBs row (Zi row.length 4) i).length/\(ZBs row (Zi row.length 4) i).length<=4:=by
  intro i hi;have h1:=ZX8 row hg.1 hi
  have h3:=ZQy (n:=row.length) (m:=4) (by omega) (by omega) (i:=i)
  have h4:2<=(row.length:Int) / Zi row.length 4:=by
   apply (Int.le_ediv_iff_mul_le (by omega)).2
   omega
  omega
 refine ⟨⟨?_,?_,?_⟩,by omega,by omega⟩
 ·intro t ht
  unfold ZAQ at ht;obtain ⟨i,hi,rfl⟩:=List.mem_map.1 ht;rw [List.mem_range] at hi;obtain ⟨a,b⟩:=hsz i hi
  obtain ⟨g1,g2,g3⟩:=ZCG (N:=N) (h:=h) a b hh (fun u hu=>by
   have hm:u∈row:=List.mem_of_mem_drop (List.mem_of_mem_take hu)
   exact ⟨(hr.val u hm).1,(hr.val u hm).2,hr.big h2 u hm⟩)
  exact ⟨g1,g2⟩
 ·intro _ t ht
  unfold ZAQ at ht;obtain ⟨i,hi,rfl⟩:=List.mem_map.1 ht;rw [List.mem_range] at hi;obtain ⟨a,b⟩:=hsz i hi;rw [ZCE a];intro q;simp [Tr.h] at q
 ·have e:ZAQ row=((List.range (Zi row.length 4).toNat).map (ZBs row (Zi row.length 4))).map grp:=by unfold ZAQ;rw [List.map_map];rfl
  rw [e,ZjB N _ (fun l hl=>by
   obtain ⟨i,hi,rfl⟩:=List.mem_map.1 hl;rw [List.mem_range] at hi
   exact (hsz i hi).1),ZbH row hg.1,hr.txt]
theorem ZQG {N:ZJ} (hN:GoodN N):∀ (n:Nat) (row:List Tr) (h:Nat) (s:List UInt8),Row N row h s->row.length<=n+1->s.length<=65536->∃ h',Row N (Xc n row) h' s/\(Xc n row).length<=1/\(1<=row.length->1<=(Xc n row).length)
 | 0,row,h,s,hr,hl,hs=>⟨h,hr,by rw [Xc];omega,fun q=>q⟩
 | n+1,row,h,s,hr,hl,hs=>by
  rw [Xc]
  split
  ·exact ⟨h,hr,by assumption,fun q=>q⟩
  ·rename_i h2
   have hh:h+1<=16:=by
    match row,h2,hr with
    | t::r,h2,hr =>
     have h1:=(hr.val t (by simp))
     have h3:=ZF1 hN h1.1
     have h4:(t.txt N).length<=s.length:=by rw [<- hr.txt,Tr.txtL,lL];omega
     have:=h1.1.height hN (by omega)
     omega
    | [],h2,_=>simp at h2
   obtain ⟨a,b,c⟩:=ZX9 hr (by omega) hh
   obtain ⟨h',d,e,f⟩:=ZQG hN n (ZAQ row) (h+1) s a (by omega) hs
   exact ⟨h',d,e,fun _=>f c⟩
theorem ZF6 {N:ZJ} (s:List UInt8):Row N ((YC s).map Ja) 0 s/\((YC s).map Ja).length<=s.length/\(s≠[]->1<=((YC s).map Ja).length):=by
 unfold YC
 split
 ·rename_i h
  have:s=[]:=List.length_eq_zero_iff.1 h
  subst this
  exact ⟨⟨fun t ht=>by simp at ht,fun h=>by simp at h,rfl⟩,by simp,fun q=>absurd rfl q⟩
 ·rename_i h
  have hg:=Xb (n:=s.length) (most:=16) (by omega) (by omega)
  have hsz:∀ i,i<(Zi s.length 16).toNat->1<=(ZBs s (Zi s.length 16) i).length/\(ZBs s (Zi s.length 16) i).length<=16/\(2<=Zi s.length 16->8<=(ZBs s (Zi s.length 16) i).length):=by
   intro i hi;have h1:=ZX8 s hg.1 hi
   have h3:=ZQy (n:=s.length) (m:=16) (by omega) (by omega) (i:=i)
   have h4:1<=(s.length:Int) / Zi s.length 16:=by
    apply (Int.le_ediv_iff_mul_le (by omega)).2
    omega
   refine ⟨by omega,by omega,fun h2=>?_⟩
   have hg4:Zi s.length 16=((s.length:Int)-1) / 16+1:=rfl
   have h5:8<=(s.length:Int) / Zi s.length 16:=by
    apply (Int.le_ediv_iff_mul_le (by omega)).2
    omega
   omega
  have hlen:(((List.range (Zi s.length 16).toNat).map (ZQF s (Zi s.length 16))).map Ja).length=(Zi s.length 16).toNat:=by simp
  refine ⟨⟨?_,?_,?_⟩,by omega,fun _=>by omega⟩
  ·intro t ht
   obtain ⟨c,hc,rfl⟩:=List.mem_map.1 ht;obtain ⟨i,hi,rfl⟩:=List.mem_map.1 hc;rw [List.mem_range] at hi
   have:=hsz i hi
   exact ⟨ZM4 ⟨this.1,this.2.1⟩,rfl⟩
  ·intro h2 t ht
   obtain ⟨c,hc,rfl⟩:=List.mem_map.1 ht;obtain ⟨i,hi,rfl⟩:=List.mem_map.1 hc;rw [List.mem_range] at hi
   have:=(hsz i hi).2.2 (by omega)
   intro _;rw [ZBH,ZfN];omega
  ·have hf : ∀ l : List (List UInt8), Tr.txtL N (l.map Ja) = l.flatten := by
    intro l
    induction l with
    | nil=>rfl
    | cons a l ih=>rw [jC,Tr.txtL,ih,ZM5,List.flatten_cons]
   rw [hf];exact ZbH s hg.1
theorem J8 {N:ZJ} (hN:GoodN N) {s:List UInt8} (hs:s.length<=65536):VE N (Z3 s)/\(Z3 s).txt N=s/\(Z3 s).bytes=s.length:=by
 obtain ⟨a,b,c⟩:=ZF6 (N:=N) s
 obtain ⟨h',d,e,f⟩:=ZQG hN s.length _ 0 s a (by omega) hs
 unfold Z3
 generalize Xc s.length ((YC s).map Ja)=row at *
 match row,e,d with
 | [],_,d =>
  have:s=[]:=d.txt.symm
  subst this;exact ⟨.inl zero_empty,rfl,rfl⟩
 | [t],_,d =>
  have h1:=(d.val t (by simp)).1
  have h2:=d.txt;simp only [Tr.txtL,lN] at h2;refine ⟨.inr h1,h2,?_⟩
  have:=ZF1 hN h1
  rw [h2] at this;exact this.symm
set_option maxHeartbeats 8000000
theorem ZYA {α:Type} (G:List α) (a:α) (r:List α):(G++a::r)[G.length]?=some a:=by
 rw [List.getElem?_append_right (Nat.le_refl _)];simp
theorem Zm5 {α:Type} (G:List α) (a b:α) (r:List α):(G++a::b::r)[G.length+1]?=some b:=by
 rw [List.getElem?_append_right (by omega)];simp
theorem Zm6 {α:Type} (G:List α) (a b c:α) (r:List α):(G++a::b::r).set (G.length+1) c=G++a::c::r:=by
 rw [List.set_append_right _ _ (by omega)];simp
theorem Zkx {O:Orc} {k:List Fr} {Q:Jv} {e:Env} {A:List (Bool × List Blk)} {L:List Blk} {keep:List Nat} {is:List PI} {d:Nat} {s x:Opd} {ix ver n:Nat} {l:List Tr} {t:Tr} (hs:Zc e s=some (.ref A.length ix ver 0 n)) (hx:Zc e x=some (.lit ([t].map Tr.av))) (hg:L[ix]?=some (Blk.arr 7 ver (l.map Tr.av))) (hb:n=l.length)
 (hl:l.length+1<4294967296) (h:Is O is keep k Q ((d,.ref A.length ix (ver+1) 0 (n+1))::e) ⟨A,false,L.set ix (Blk.arr 7 (ver+1) ((l++[t]).map Tr.av))⟩):Is O (⟨some d,none,false,.app 7 80 s x⟩::is) keep k Q e ⟨A,false,L⟩:=by
 subst hb
 refine ZIF hs hg rfl hx (.lit _) (by simp;omega) ?_
 simpa using h
theorem ZfO {O:Orc} {k:List Fr} {Q:Jv} {e:Env} {A:List (Bool × List Blk)} {L:List Blk} {keep:List Nat} {is:List PI} {d w:Nat} (h:Is O is keep k Q ((d,.ref A.length L.length 0 0 0)::e) ⟨A,false,L++[Blk.arr w 0 []]⟩):Is O (⟨some d,none,false,.onil w⟩::is) keep k Q e ⟨A,false,L⟩ :=
 Z1 (v:=.ref A.length L.length 0 0 0) (st':=⟨A,false,L++[Blk.arr w 0 []]⟩) (by simp only [Zf,evalPO,oS,St.new_cur,Jb]) h
theorem ZjC {N:ZJ} (hN:GoodN N) {A:List (Bool × List Blk)} {k:List Fr} {Q:Jv} {s:List UInt8} (hs:s.length<=65536) (B:Blk) (row:List Tr) (n:Nat) (r:List Tr) (hrow:Row N row 0 s) (hn:row.length<=n+1) (h64:row.length<=65536) (hr:Xc n row=r)
 (hex:∀ (G:List Blk) (ver:Nat),Rk (S Tb) k Q (.ex 2) [(2,.ptr A.length 0 0 0 0),(4,.ref A.length (B::G).length ver 0 r.length),(31,.bool false)] ⟨A,false,B::G++[.arr 7 ver (r.map Tr.av)]⟩) (ver:Nat) (ex:Env) :
 Ru (S Tb) (.loop ZGH) k Q ((2,.ptr A.length 0 0 0 0)::(4,.ref A.length 1 ver 0 row.length)::ex) ⟨A,false,[B,.arr 7 ver (row.map Tr.av)]⟩:=by
 refine Z2 (α:=List Tr × List Blk × Nat × Env) (fun p=>(2,.ptr A.length 0 0 0 0)::(4,.ref A.length (B::p.2.1).length p.2.2.1 0 p.1.length)::p.2.2.2) (fun p=>⟨A,false,B::p.2.1++[.arr 7 p.2.2.1 (p.1.map Tr.av)]⟩)
  (fun p=>p.1.length<=65536/\∃ k h,p.1.length<=k+1/\Row N p.1 h s/\Xc k p.1=r) (fun p=>p.1.length) (row,[],ver,ex) rfl rfl ⟨h64,n,0,hn,hrow,hr⟩ ?_
 rintro ⟨row,G,ver,ex⟩ ⟨h64,kk,h,hk,hR,hb⟩
 simp only at h64 hk hR hb ⊢
 repeat' (first|refine ZE ?_|refine ZD ?_|refine ZF rfl ?_|refine ZA rfl ?_|refine ZC ?_|refine YB rfl ?_|(refine QR rfl rfl (fun _=>?_) (fun _=>?_)<;>try (exfalso;omega))|refine ZV rfl ?_|refine ZH rfl ?_|refine ZI ?_|refine Zu ?_|refine ZL ?_|refine Ze ?_|refine Zt ?_)
 ·rename_i hgt
  have hgt2:2<=row.length:=by omega
  obtain ⟨kk,rfl⟩:∃ j,kk=j+1:=⟨kk-1,by omega⟩
  rw [Xc,if_neg (by omega)] at hb
  have hh:h+1<=16:=by
   match row,hgt2,hR with
   | t::r,_,hR =>
    have h1:=(hR.val t (by simp))
    have h3:=ZF1 hN h1.1
    have h4:(t.txt N).length<=s.length:=by rw [<- hR.txt,Tr.txtL,lL];omega
    have:=h1.1.height hN (by omega)
    omega
  obtain ⟨u1,u2,u3⟩:=ZX9 hR hgt2 hh
  refine ZB rfl rfl rfl (Zm1 row.length 4 _ (by omega)) ?_
  have hg:=Xb (n:=row.length) (most:=4) (by omega) (by omega)
  have hget:=fun i hi=>ZXy (n:=row.length) (m:=4) (by omega) (i:=i) hi
  have hlen:=ZXz (n:=row.length) (m:=4) (by omega)
  have hpb:=fun (i:Nat) hi=>ZBY (n:=row.length) (g:=Zi row.length 4) (by omega) (by omega) (i:=i) hi
  have hps:=ZE2 row.length (Zi row.length 4)
  have hp0:=ZIG row.length (Zi row.length 4) (by omega)
  have hsn:=ZAo (n:=row.length) (g:=Zi row.length 4) (by omega) (by omega)
  have hrl:(ZAQ row).length=(Zi row.length 4).toNat:=by unfold ZAQ;simp
  have hrg:∀ i,i<(Zi row.length 4).toNat->(ZAQ row)[i]?=some (grp (ZBs row (Zi row.length 4) i)):=by
   intro i hi;unfold ZAQ;rw [jG,List.getElem?_range hi];rfl
  have hpl:=fun i hi=>ZX8 row (g:=Zi row.length 4) hg.1 (i:=i) hi
  have hpe:∀ i,ZBs row (Zi row.length 4) i=(row.drop (ZDW row.length (Zi row.length 4) i).toNat).take (XL row.length (Zi row.length 4) i).toNat:=fun _=>rfl
  generalize ZBG (row.length:Int) 4=z at *
  generalize Zi (row.length:Int) 4=g at *
  generalize ZAQ row=up at *
  have hh2:∀ u∈row,u.h<=65536:=fun u hu=>by have:=(hR.val u hu).1.h16;omega
  repeat' (first|refine ZE ?_|refine ZD ?_|refine ZF rfl ?_|refine Zs rfl rfl ?_|refine ZA rfl ?_|refine ZC ?_|refine QU rfl ?_|(refine Zk rfl rfl (fun _=>?_) (fun _=>?_)<;>try (exfalso;omega))|refine ZH rfl ?_|refine ZfO ?_|refine ZI ?_|refine ZL ?_)
  all_goals try (exfalso;omega)
  refine Z2 (α:=Nat) (fun i=>[(2,.ptr A.length 0 0 0 0),(4,.ref A.length (B::G).length ver (ZDW row.length g i).toNat (row.length-(ZDW row.length g i).toNat)),(9,.ref A.length ((B::G).length+1) i 0 i),(42,ZQw z),(43,.int .i64 z.length),(44,.int .i64 i)])
   (fun i=>⟨A,false,B::G++[.arr 7 ver (row.map Tr.av),.arr 7 i ((up.take i).map Tr.av)]⟩) (fun i=>i<=z.length) (fun i=>z.length-i) 0 ?_ ?_ (Nat.zero_le _) ?_
  ·simp [hp0]
  ·simp
  intro i hi
  repeat' (first|refine ZE ?_|refine ZD ?_|refine ZF rfl ?_|refine ZA rfl ?_|refine ZC ?_|refine QM rfl rfl ?_|refine Yx rfl rfl (by omega) (fun _=>rfl) (fun _ _=>?_)|(refine Zh rfl rfl (fun _=>?_) (fun _=>?_)<;>try (exfalso;omega))|refine ZV rfl ?_|refine ZH rfl ?_|refine ZI ?_|refine Zu ?_|refine ZL ?_|refine Ze ?_|refine Zy ?_|refine Zb rfl ?_|refine QH ?_|refine Zt ?_)
  ·rename_i hlt x hx
   have hi2:i<g.toNat:=by omega
   have hx2:z[i]?=some x:=hx;rw [hget i hi2] at hx2;have hx3:=Option.some.inj hx2;subst hx3
   have hb0:=hpb i (by omega)
   have hb1:=hpb (i+1) (by omega)
   rw [hps i] at hb1;have hs0:=hsn i;have hpl2:=hpl i hi2;have hrg2:=hrg i hi2;have hpe2:=hpe i;have hps2:=hps i
   generalize ZDW (row.length:Int) g i=p at *
   generalize XL (row.length:Int) g i=q at *
   generalize ZBs row g i=part at *
   have hgetL:∀ b:Blk,(B::G++[.arr 7 ver (row.map Tr.av),b])[(B::G).length]?=some (.arr 7 ver (row.map Tr.av)):=fun b=>ZYA _ _ _
   have hwi:wIs 7 ver (St.get ⟨A,false,B::G++[.arr 7 ver (row.map Tr.av),.arr 7 i ((up.take i).map Tr.av)]⟩ A.length (B::G).length)=true:=by
    rw [St.get_cur,hgetL];simp [vis,wIs]
   refine ZJP rfl rfl (by omega) hwi ?_
   have hSl:Sl ⟨A,false,B::G++[.arr 7 ver (row.map Tr.av),.arr 7 i ((up.take i).map Tr.av)]⟩ (.ref A.length (B::G).length ver p.toNat q.toNat) part:=by
    refine .ref (es:=row.map Tr.av) (by rw [St.get_cur,hgetL];rfl) (by omega) (by rw [List.length_map];omega) ?_
    rw [hpe2,<- List.map_drop,<- List.map_take]
   refine ZB rfl rfl rfl (ZAA (by omega) (fun u hu=>hh2 u (by rw [hpe2] at hu;exact List.mem_of_mem_drop (List.mem_of_mem_take hu))) hSl) ?_
   have hti:(up.take i).length=i:=by rw [List.length_take];omega
   refine ZIH rfl ?_
   refine Zkx rfl rfl (Zm5 _ _ _ _) hti.symm (by omega) ?_
   rw [Zm6];have htk:=Zg hrg2;rw [<- htk]
   repeat' (first|refine ZD ?_|refine ZF rfl ?_|refine ZA rfl ?_|refine ZC ?_)
   have hwi2:wIs 7 ver (St.get ⟨A,false,B::G++[.arr 7 ver (row.map Tr.av),.arr 7 (i+1) ((up.take (i+1)).map Tr.av)]⟩ A.length (B::G).length)=true:=by
    rw [St.get_cur,hgetL];simp [vis,wIs]
   refine ZJQ rfl rfl (by omega) hwi2 ?_
   repeat' (first|refine ZD ?_|refine ZF rfl ?_|refine ZA rfl ?_|refine ZC ?_|refine Zm rfl rfl (by omega) ?_|refine Zy ?_|refine QH ?_)
   refine ⟨i+1,⟨?_,rfl⟩,by omega,by omega⟩
   rw [show p.toNat+q.toNat=(p+q).toNat by omega,show row.length-p.toNat-q.toNat=row.length-(p+q).toNat by omega]
   simp only [hps2];rfl
  ·have hi2:i=up.length:=by omega
   subst hi2;rw [List.take_length]
   refine ⟨(up,G++[.arr 7 ver (row.map Tr.av)],up.length,[]),⟨?_,?_⟩,⟨by simp only;omega,kk,h+1,by simp only;omega,u1,hb⟩,by simp only;omega⟩
   ·simp
   ·simp
 ·have hrr : Xc kk row = row := by
   cases kk with
   | zero=>rfl
   | succ j=>rw [Xc,if_pos (by omega)]
  rw [hrr] at hb;subst hb;exact hex G ver
theorem ZfP (s:List UInt8):(YC s).length<=s.length:=by
 have:=(ZF6 (N:=[]) s).2.1
 simpa using this
theorem Zdj {N:ZJ} (hN:GoodN N) (s:List UInt8) (hs:s.length<=65536) (st:St):S Tb ZAa [.str s] st=some (.tup [(Z3 s).av,.int .i64 0],st):=by
 refine QJ rfl (fun A hA=>?_)
 have hcl:=ZfP s
 have hch:=fun st=>Zkp s st (by omega)
 obtain ⟨ra,rb,rc⟩:=ZF6 (N:=N) s
 obtain ⟨h',rd,re,rf⟩:=ZQG hN s.length _ 0 s ra (by omega) hs
 unfold Z3
 generalize hres:Xc s.length ((YC s).map Ja)=r at *
 have hG:=fun {v:AV} {st:St} (hv:Sl st v r)=>ZAA (by omega) (fun u hu=>by have:=(rd.val u hu).1.h16;omega) hv
 have hlen:((YC s).map Ja).length=(YC s).length:=by simp
 generalize hc:YC s=c at *
 unfold ZfG at hch
 repeat' (first|refine ZE ?_|refine ZD ?_|refine ZF rfl ?_|refine ZA rfl ?_|refine ZC ?_|refine JJ rfl ?_|refine QU rfl ?_|(refine QR rfl rfl (fun _=>?_) (fun _=>?_)<;>try (exfalso;omega))|refine ZH rfl ?_|refine Za rfl rfl rfl ?_|refine ZDY rfl ?_|refine ZB rfl rfl (by first|rfl|(simp only [lE,lN,lC,ZZ,ZW,ZX];first|done|rfl)) (hch _) ?_|refine ZI ?_|refine ZL ?_)
 all_goals try (exfalso;omega)
 refine Z2 (α:=Nat) (fun i=>[(2,.ptr A.length 0 0 0 0),(4,.ref A.length 1 i 0 i),(17,.lit (c.map .str)),(18,.int .i64 c.length),(19,.int .i64 i)])
  (fun i=>⟨A,false,[.arr 7 0 [trZ],.arr 7 i ((c.take i).map fun s=>(Ja s).av)]⟩) (fun i=>i<=c.length) (fun i=>c.length-i) 0 rfl rfl (by simp) ?_
 rintro i hi
 repeat' (first|refine ZE ?_|refine ZD ?_|refine ZF rfl ?_|refine ZA rfl ?_|refine ZC ?_|refine QM rfl rfl ?_|refine Yx rfl rfl (by omega) (fun _=>rfl) (fun _ _=>?_)|(refine Zh rfl rfl (fun _=>?_) (fun _=>?_)<;>try (exfalso;omega))|refine ZV rfl ?_|refine ZH rfl ?_|refine Zm rfl rfl (by omega) ?_|refine Zn rfl rfl rfl ?_|refine Qa rfl rfl rfl rfl ?_|refine ZcB rfl rfl rfl (by first|rfl|(simp;done)|(simp;omega)) (by first|omega|(simp<;>omega)) (by decide) rfl rfl rfl ?_|refine ZI ?_|refine Zu ?_|refine ZL ?_|refine Ze ?_|refine Zy ?_|refine Zb rfl ?_|refine QH ?_|refine Zt ?_)
 ·rename_i x hx
  have hx2:c[i]?=some x:=hx
  refine ⟨i+1,⟨rfl,?_⟩,by omega,by omega⟩
  simp only [Zg hx2,List.map_append,jC,List.map_nil];rfl
 ·have hi':i=c.length:=by omega
  subst hi';rw [List.take_length]
  have:=ZjC hN hs (A:=A) (.arr 7 0 [trZ]) (c.map Ja) s.length r ra (by omega) (by omega) hres (k:=[.blk 2,.seq (.seq ZGI .ret)]) (Q:=fun x e st'=>Q9 false [.c 2 true 7,.s 3] (x,e,st')=some (.tup [(grp r).av,.int .i64 0],st)) (fun G ver=>?_) c.length [(17,.lit (c.map .str)),(18,.int .i64 c.length),(19,.int .i64 c.length),(20,.bool false)]
  ·rw [List.map_map,List.length_map] at this
   exact this
  ·repeat' (first|refine ZE ?_|refine ZD ?_|refine ZF rfl ?_|refine ZA rfl ?_|refine ZC ?_|refine Qo rfl rfl rfl rfl (Z8 _ _ _) (QY _ _) ?_|refine ZB rfl rfl (by first|rfl|(simp only [lE,lN,lC,ZZ,ZW,ZX];first|done|rfl)) (hG (Sl.cur (ZYA _ _ _) rfl)) ?_|refine ZS ?_|refine ZO ?_|refine Zb rfl ?_)
   exact ZCF hA (.inr rfl) rfl rfl rfl rfl
theorem ZfQ:∀ {N:ZJ} {h:Nat} {x:Nd},lk N h=none->ZCT (.int .u64 h) x.av (N.map nodeAV)=some ((N++[(h,x)]).map nodeAV)
 | [],h,x,_=>rfl
 | p::N,h,x,hn=>by
  rw [lk] at hn
  by_cases q:p.1=h
  ·rw [if_pos q] at hn;simp at hn
  ·rw [if_neg q] at hn
   rw [jC,ZCT]
   show (Option.bind (if IntKind.u64=IntKind.u64 then some ((h:Int) == (p.1:Int)) else none) fun b=>if b=true then some ((AV.int .u64 h,x.av)::N.map nodeAV) else (ZCT (.int .u64 h) x.av (N.map nodeAV)).map (nodeAV p::·))=_
   rw [if_pos rfl,oS,if_neg (by simp;omega),ZfQ hn]
   rfl
section
variable {O:Orc} {k:List Fr} {Q:Jv} {e:Env} {A:List (Bool × List Blk)} {L:List Blk} {keep:List Nat} {is:List PI} {d:Nat}
theorem ZfR {st:St} {x i v:Opd} {lv ix h:Nat} {w:AV} {es es':List (AV × AV)} (hA:A=st.A++[(st.ro,st.L)]) (hx:Zc e x=some (.map lv ix)) (hi:Zc e i=some (.int .u64 h)) (hv:Zc e v=some w) (hw:st.wr lv) (hg:st.get lv ix=some (.map es))
 (hs:ZY QD (lv+1) ⟨A,false,L⟩ w=some (w,⟨A,false,L⟩)) (hp:ZCT (.int .u64 h) w es=some es')
 (hh:∀ A',A'=(st.upd lv ix (.map es')).A++[((st.upd lv ix (.map es')).ro,(st.upd lv ix (.map es')).L)]->Is O is keep k Q e ⟨A',false,L⟩):Is O (⟨none,none,false,.mupd 0 x i v⟩::is) keep k Q e ⟨A,false,L⟩:=by
 have hl:=St.get_le hg;refine Z1 (od:=none) (v:=.undef) (st':=St.upd ⟨A,false,L⟩ lv ix (.map es')) ?_ ?_
 ·simp only [Zf,evalPO,ZG hx,ZG hi,ZG hv,ZG4,YL,if_true,hs,oS,ZIp,ZU hA hg,ZFC,hp,St.put_upd (X4 hA hl hw) (ZU hA hg),ZBO]
 ·rw [YO hA hl]
  exact hh _ rfl
end
def AR.alloc (r:AR) (s g:Nat) (x:Nd):AR:={ r.take s with nodes:=r.nodes++[(g*65536+s,x.copy)],allocs:=r.allocs+1 }
def ZAp (st:St) (lv b:Nat) (r:AR) (s g:Nat) (x:Nd):St:=((Qt st lv b r s).upd lv (b+4) (r.alloc s g x).b4).upd lv (b+5) ((r.alloc s g x).b5 lv b)
theorem ZbI {st:St} {A:List (Bool × List Blk)} {ro:Bool} {L:List Blk} (hA:A=st.A++[(st.ro,st.L)]) {lv b s:Nat} {r:AR} (hl:lv<=st.A.length) :
 Qt ⟨A,ro,L⟩ lv b r s=⟨(Qt st lv b r s).A++[((Qt st lv b r s).ro,(Qt st lv b r s).L)],ro,L⟩:=by
 unfold Qt;rw [YO hA hl]
 exact YO rfl (by rw [St.upd_A];exact hl)
theorem Zky (st:St) (lv b s:Nat) (r:AR):(Qt st lv b r s).A.length=st.A.length:=by
 unfold Qt;rw [St.upd_A,St.upd_A]
structure CanTake (r:AR) (k s g:Nat):Prop where
 n:r.n=k+1
 blk:r.blk[k]?=some (s:Int)
 st:s<r.states.length
 s16:s<16384
 gen:r.gens[s]?=some (g:Int)
 g1:1<=g
 g2:g<=4294967295
 big:r.n<65536
 new:lk r.nodes (g*65536+s)=none
 al:0<=r.allocs/\r.allocs<1000000
theorem ZbJ {st:St} {lv b:Nat} {r:AR} (h:Has st lv b r) {k s g:Nat} (hc:CanTake r k s g) (x:Nd) (v:AV) (hone:v.one=true)
 (A:List (Bool × List Blk)) (G:List Blk) (hA:A=(Qt st lv b r s).A++[((Qt st lv b r s).ro,(Qt st lv b r s).L)]) (hC:∀ L,S Tb Z7 [weak v] ⟨A,false,L⟩=some (.lit (x.ks.map Kid.av),⟨A,false,L⟩)) :
 Ru (S Tb) (.seq ZAj (.seq ZAk (.seq ZAl (.seq ZAm .ret)))) [] (fun x' e st' =>
  Q9 false [RV.s 4,RV.s 5] (x',e,st')=some (.tup [.int .u64 ((g*65536+s:Nat):Int),.int .i64 0],ZAp st lv b r s g x))
  [(0,.ptr lv (b+5) 0 0 0),(3,.ptr A.length 0 0 0 0),(13,.int .u64 ((g*65536+s:Nat):Int)),(14,.int .i64 0),(72,.bool false)] ⟨A,false,.arr 3 0 [.agg [.int .i64 x.h,.str x.text,v]]::G⟩:=by
 have ht:=h.take s
 have g5:=fun L=>ZU hA (ro:=false) (L:=L) ht.h5
 unfold AR.b5 at g5;have hal:=hc.al;have hpv:Qm (.agg [.int .i64 x.h,.str x.text,v]) false 2 1=some v:=rfl
 repeat' (first|refine ZE ?_|refine ZD ?_|refine ZQ rfl rfl ?_|refine ZP rfl rfl rfl rfl ?_)
 refine ZB rfl rfl rfl (hC _) ?_;have hstv:(Qu 3 (.agg [.int .i64 x.h,.str x.text,v]) 2 1 (.lit (x.ks.map Kid.av))).bind Jw=some x.copy.av:=rfl
 repeat' (first|refine ZE ?_|refine ZD ?_|refine ZF rfl ?_|refine ZQ rfl rfl ?_|refine ZP rfl rfl rfl rfl ?_|refine ZA rfl ?_|refine ZC ?_|refine Zz rfl rfl ?_|refine Qo rfl rfl rfl rfl rfl rfl ?_|refine Z9 rfl (g5 _) rfl rfl ?_)
 have hp:=ZfQ (N:=r.nodes) (x:=x.copy) hc.new
 refine ZfR (w:=x.copy.av) hA rfl rfl rfl ht.wr ht.h4 rfl hp (fun A1 hA1=>?_)
 have eM:Blk.map ((r.nodes++[(g*65536+s,x.copy)]).map nodeAV)=(r.alloc s g x).b4:=rfl;rw [eM] at hA1
 have q1:∀ l' i',((Qt st lv b r s).upd lv (b+4) (r.alloc s g x).b4).get l' i'=if l'=lv/\i'=b+4 then some (r.alloc s g x).b4 else (Qt st lv b r s).get l' i':=fun l' i'=>St.get_upd ht.h4 rfl
 have k5:((Qt st lv b r s).upd lv (b+4) (r.alloc s g x).b4).get lv (b+5)=some ((r.take s).b5 lv b):=by rw [q1,if_neg (by omega)];exact ht.h5
 have hw1:=St.wr_upd (b:=(r.alloc s g x).b4) (ix:=b+4) ht.wr ht.wr;have eA:ZAp st lv b r s g x=((Qt st lv b r s).upd lv (b+4) (r.alloc s g x).b4).upd lv (b+5) ((r.alloc s g x).b5 lv b):=rfl;rw [eA]
 generalize (Qt st lv b r s).upd lv (b+4) (r.alloc s g x).b4=st1 at *
 unfold AR.b5 at k5
 have m5:=fun L=>ZU hA1 (ro:=false) (L:=L) k5
 have hat:(r.take s).allocs=r.allocs:=rfl;rw [hat] at k5 m5
 repeat' (first|refine ZE ?_|refine ZD ?_|refine ZF rfl ?_|refine ZQ rfl rfl ?_|refine ZA rfl ?_|refine ZC ?_|refine Zz rfl rfl ?_|refine Zm rfl rfl (by omega) ?_|refine Z9 rfl (m5 _) rfl rfl ?_)
 refine is_stP hA1 rfl rfl hw1 k5 rfl rfl rfl (fun A2 hA2=>?_)
 have eB:Blk.arr 6 0 ([AV.agg [.int .i64 (r.take s).slots,.ptr lv (b+3) 0 0 0,.map lv (b+4),.int .i64 r.allocs,.int .i64 (r.take s).frees,.int .i64 (r.take s).stale]].set 0 (.agg [.int .i64 (r.take s).slots,.ptr lv (b+3) 0 0 0,.map lv (b+4),.int .i64 (r.allocs+1),.int .i64 (r.take s).frees,.int .i64 (r.take s).stale]))=(r.alloc s g x).b5 lv b:=rfl;rw [eB] at hA2
 repeat' (first|refine ZE ?_|refine ZD ?_|refine ZF rfl ?_|refine ZA rfl ?_|refine ZC ?_|refine ZS ?_|refine ZO ?_)
 refine Zj hA2 (.inr rfl) rfl rfl rfl rfl ?_;rfl
theorem Zg0 {st:St} {lv b:Nat} {r:AR} (h:Has st lv b r) {k s g:Nat} (hc:CanTake r k s g) (text:List UInt8) (ht:ZBr text) :
 S Tb JZ [.ptr lv (b+5) 0 0 0,.agg [.int .i64 (0:Nat),.str text,.nils]] st=some (.tup [.int .u64 ((g*65536+s:Nat):Int),.int .i64 0],ZAp st lv b r s g ⟨0,text,none⟩):=by
 refine Xw rfl (fun A hA=>?_)
 have hN:=fun st=>ZXt ⟨0,text,none⟩ (.inl ⟨rfl,ht.1,ht.2,rfl⟩) st
 simp only [Nd.av,slV] at hN
 have g5:=fun L=>ZU hA (ro:=false) (L:=L) h.h5
 unfold AR.b5 at g5
 repeat' (first|refine ZE ?_|refine ZD ?_|refine ZF rfl ?_|refine ZQ rfl rfl ?_|refine ZP rfl rfl rfl rfl ?_|refine ZA rfl ?_|refine ZC ?_|refine Zz rfl rfl ?_|refine YA rfl ?_|(refine Zh rfl rfl (fun _=>?_) (fun _=>?_)<;>try (exfalso;omega))|(refine Zk rfl rfl (fun _=>?_) (fun _=>?_)<;>try (exfalso;omega))|refine ZH rfl ?_|refine JA rfl rfl rfl rfl ?_|refine Za rfl rfl rfl ?_|refine ZB rfl rfl rfl (hN _) ?_|refine Qh ?_|refine Z9 rfl (g5 _) rfl rfl ?_|refine ZI ?_|refine Zu ?_|refine ZL ?_|refine Ze ?_|refine Zb rfl ?_)
 all_goals try (exfalso;omega)
 have hle:=St.get_le h.h3
 have hTk:=fun L=>Zkw (st:=⟨A,false,L⟩) ⟨X4 hA hle h.wr,ZU hA h.h0,ZU hA h.h1,ZU hA h.h2,ZU hA h.h3,ZU hA h.h4,ZU hA h.h5⟩ hc.n hc.blk hc.st hc.s16 hc.gen ⟨hc.g1,hc.g2⟩ hc.big
 refine ZB rfl rfl rfl (hTk _) ?_;rw [ZbI hA hle];obtain ⟨A1,hA1⟩:∃ A1,A1=(Qt st lv b r s).A++[((Qt st lv b r s).ro,(Qt st lv b r s).L)]:=⟨_,rfl⟩;rw [<- hA1]
 have hlen:A.length=A1.length:=by rw [hA,hA1,lL,lL,Zky];rfl
 rw [hlen];refine ZF rfl ?_;refine Zs rfl rfl ?_;refine Zs rfl rfl ?_;refine ZF rfl ?_;refine ZF rfl ?_;refine ZA rfl ?_;refine ZC ?_;refine ZE ?_;refine ZE ?_;refine ZD ?_;refine ZF rfl ?_
 refine Zk rfl rfl (fun q=>absurd rfl q) (fun _=>?_)
 refine ZA rfl ?_;refine ZC ?_;refine ZH rfl ?_;refine ZI ?_;refine ZC ?_
 have:=ZbJ h hc ⟨0,text,none⟩ .nils rfl A1 [] hA1 (fun L=>Zmy _)
 exact this
section
variable {O:Orc} {k:List Fr} {Q:Jv} {e:Env} {A:List (Bool × List Blk)} {L:List Blk} {keep:List Nat} {is:List PI} {d:Nat}
theorem ZoC {agg:Bool} {n:Nat} {a:Opd} {ver i o w:Nat} {es:List AV} {x v:AV} {c:Blk} (ha:Zc e a=some (.ptr A.length L.length ver i o)) (hx:es[i]?=some x) (hv:Qm x agg o n=some v)
 (h:Is O is keep k Q ((d,v)::e) ⟨A,false,L++[Blk.arr w ver es]++[c]⟩):Is O (⟨some d,none,false,.ld agg n a⟩::is) keep k Q e ⟨A,false,L++[Blk.arr w ver es]++[c]⟩ :=
 ZP (w:=w) ha (by rw [List.append_assoc];exact ZYA L _ _) hx hv h
theorem ZoD {agg:Bool} {n:Nat} {a:Opd} {ver i o w:Nat} {es:List AV} {x v:AV} {c c2:Blk} (ha:Zc e a=some (.ptr A.length L.length ver i o)) (hx:es[i]?=some x) (hv:Qm x agg o n=some v)
 (h:Is O is keep k Q ((d,v)::e) ⟨A,false,L++[Blk.arr w ver es]++[c]++[c2]⟩):Is O (⟨some d,none,false,.ld agg n a⟩::is) keep k Q e ⟨A,false,L++[Blk.arr w ver es]++[c]++[c2]⟩ :=
 ZP (w:=w) ha (by rw [List.append_assoc,List.append_assoc];exact ZYA L _ _) hx hv h
end
def Zkz (N:ZJ) (n:Nat) (ks:List Kid):Prop:=∀ k∈ks,∃ y,lk N k.at_=some y/\NdOk y/\y.h=n/\y.mea=k.m
theorem ZbK {j i:Nat}:∀ {L0 T:List Blk},findH j T=some i->findH j (L0++T)=some (L0.length+i)
 | [],T,h=>by simpa using h
 | b::L0,T,h=>by
  have:=ZbK (L0:=L0) h
  unfold findH;rw [lC];simp only [this,List.length_cons]
  congr 1;omega
theorem ZUE:∀ {L0 T:List Blk} {i:Nat} {b:Blk},(L0++T).set (L0.length+i) b=L0++T.set i b
 | [],T,i,b=>by simp
 | c::L0,T,i,b=>by
  rw [lC,List.length_cons,show L0.length+1+i=(L0.length+i)+1 by omega,List.set_cons_succ,ZUE];rfl
theorem Q2:∀ {L0 T:List Blk} {i:Nat},(L0++T)[L0.length+i]?=T[i]?
 | [],T,i=>by simp
 | c::L0,T,i=>by
  rw [lC,List.length_cons,show L0.length+1+i=(L0.length+i)+1 by omega,List.getElem?_cons_succ,Q2]
section
variable {O:Orc} {k:List Fr} {Q:Jv} {e:Env} {A:List (Bool × List Blk)} {L L0 T T':List Blk} {keep:List Nat} {is:List PI} {d:Nat}
theorem Zhz {js:List Nat} (h:Is O is keep k Q e ⟨A,false,L++js.map Blk.hole⟩):Ru O (.regH js keep is) k Q e ⟨A,false,L⟩:=by
 obtain ⟨e',st',h1,h2⟩:=h.h;refine ⟨⟨.norm,X3 keep e',st',?_,h2⟩⟩;simp only [exec,ZgG,jB,if_false,oS,h1,ZQ4]
theorem Zm7 {j i w bytes:Nat} {z:AV} {l c:Opd} {n:Int} (hl:Zc e l=some (.int .i64 n)) (hc:Zc e c=some (.int .i64 n)) (hn:0<=n/\n<4294967296) (hb:bytes<=4096) (hf:findH j T=some i)
 (hL:J3 (T.set i (Blk.arr w 0 (List.replicate n.toNat z)))=some T') (h:Is O is keep k Q ((d,.ref A.length (L0.length+i) 0 0 n.toNat)::e) ⟨A,false,L0++T'⟩):Is O (⟨some d,none,false,.w (.here j) (.mkslice w bytes z l c)⟩::is) keep k Q e ⟨A,false,L0++T⟩:=by
 rw [<- Qk hL,<- ZUE] at h;refine Z1 (v:=.ref A.length (L0.length+i) 0 0 n.toNat) (st':=⟨A,false,(L0++T).set (L0.length+i) (Blk.arr w 0 (List.replicate n.toNat z))⟩) ?_ h
 simp only [Zf,QB,newOf,ZG hl,ZG hc,mkslB,if_pos (show 0<=n/\n<=n/\n<4294967296/\bytes<=4096 by omega),oS,ZUN,Zd3,and_self,if_true,ZbK hf,ZUM]
theorem ZAq {x:Opd} {v v':AV} {w m:Nat} (hx:Zc e x=some v) (hw:v.wide=some w) (hv:Jw v=some v') (hm:ZYa T=some m) (hL:J3 (T++[Blk.arr w 0 [v']])=some T') (h:Is O is keep k Q ((d,.ptr A.length (L0.length+m) 0 0 0)::e) ⟨A,false,L0++T'⟩):Is O (⟨some d,none,false,.box x⟩::is) keep k Q e ⟨A,false,L0++T⟩:=by
 rw [<- Qk hL,<- ZBD hm,<- List.append_assoc,<- lL] at h;exact Zw hx hw hv h
theorem ZjD {m:Nat} (hm:ZYa T=some m) (hL:J3 (T++[Blk.map []])=some T') (h:Is O is keep k Q ((d,.map A.length (L0.length+m))::e) ⟨A,false,L0++T'⟩):Is O (⟨some d,none,false,.mkmap⟩::is) keep k Q e ⟨A,false,L0++T⟩:=by
 rw [<- Qk hL,<- ZBD hm,<- List.append_assoc,<- lL] at h
 exact Z1 (v:=.map A.length (L0++T).length) (st':=⟨A,false,L0++T++[Blk.map []]⟩) (by simp only [Zf,evalPO,oS,St.new_cur,ZKW]) h
theorem ZD6 {agg:Bool} {n:Nat} {a:Opd} {ix ver i o w:Nat} {es:List AV} {x v:AV} (ha:Zc e a=some (.ptr A.length (L0.length+ix) ver i o)) (hg:T[ix]?=some (Blk.arr w ver es)) (hx:es[i]?=some x) (hv:Qm x agg o n=some v)
 (h:Is O is keep k Q ((d,v)::e) ⟨A,false,L0++T⟩):Is O (⟨some d,none,false,.ld agg n a⟩::is) keep k Q e ⟨A,false,L0++T⟩ :=
 ZP ha (by rw [Q2];exact hg) hx hv h
theorem Zh0 {w:Nat} {x i:Opd} {ix ver s m:Nat} {n:Int} {es:List AV} (hx:Zc e x=some (.ref A.length (L0.length+ix) ver s m)) (hi:Zc e i=some (.int .i64 n)) (hn:0<=n/\n<m) (hg:T[ix]?=some (Blk.arr w ver es)) (h:Is O is keep k Q ((d,.ptr A.length (L0.length+ix) ver (s+n.toNat) 0)::e) ⟨A,false,L0++T⟩):Is O (⟨some d,none,false,.ixS w x i⟩::is) keep k Q e ⟨A,false,L0++T⟩ :=
 ZUC hx hi hn (by rw [Q2];exact hg) h
theorem ZYB {n:Nat} {a x:Opd} {ix ver i o w:Nat} {es:List AV} {v v' y:AV} (ha:Zc e a=some (.ptr A.length (L0.length+ix) ver i o)) (hx:Zc e x=some v) (hg:T[ix]?=some (Blk.arr w ver es)) (hy:es[i]?=some y)
 (hs:ZY QD (A.length+1) ⟨A,false,L0++T⟩ v=some (v,⟨A,false,L0++T⟩)) (hv:(Qu w y o n v).bind Jw=some v') (hL:J3 (T.set ix (Blk.arr w ver (es.set i v')))=some T') (h:Is O is keep k Q e ⟨A,false,L0++T'⟩):Is O (⟨none,none,false,.st n a x⟩::is) keep k Q e ⟨A,false,L0++T⟩:=by
 rw [<- Qk hL,<- ZUE] at h
 exact Qo (by rw [Q2];exact hg) ha hx hy hs hv h
end
def QA (n g:Nat):AR:=⟨(List.range n).map fun (j:Nat)=>(n:Int)-1-j,n,0,List.replicate n 0,List.replicate n 1,g,[],n,0,0,0⟩
theorem ZJB {n i:Nat} {k:IntKind} {f:Nat->Int} {z:Int} (hi:i<n):((List.range n).map fun j=>AV.int k (if j<i then f j else z)).set i (.int k (f i))=(List.range n).map fun j=>AV.int k (if j<i+1 then f j else z):=by
 apply List.ext_getElem
 ·simp
 ·intro j hj hj'
  simp only [List.getElem_set,List.getElem_map,List.getElem_range]
  by_cases q:i=j
  ·subst q;simp
  ·rw [if_neg q]
   have:j<i+1↔j<i:=by omega
   simp only [this]
theorem Zm8 (n g:Nat) (hn:1<=n/\n<=16384) (hg:1<=g/\g<=4294967295) (A:List (Bool × List Blk)) (L0:List Blk) :
 S Tb ZCe [.int .i64 n,.int .u64 g] ⟨A,false,L0⟩=some (.tup [.ptr A.length (L0.length+3) 0 0 0,.int .i64 0],⟨A,false,L0++[(QA n g).b0,(QA n g).b1,(QA n g).b2,(QA n g).b3 A.length L0.length]⟩):=by
 refine ZBh rfl ?_
 have hmap:∀ (k:IntKind) (z:Int),List.replicate n (AV.int k z)=(List.range n).map fun (j:Nat)=>AV.int k (if j<0 then (fun (j:Nat)=>(n:Int)-1-j) j else z):=by
  intro k z;simp only [Nat.not_lt_zero,if_false,List.map_const',List.length_range]
 have hmap1:List.replicate n (AV.int .u64 0)=(List.range n).map fun j=>AV.int .u64 (if j<0 then (fun _=>(1:Int)) j else 0):=by
  simp only [Nat.not_lt_zero,if_false,List.map_const',List.length_range]
 repeat' (first|refine ZE ?_|refine ZD ?_|refine ZF rfl ?_|refine QE rfl ?_|refine Zo rfl rfl rfl rfl ?_|refine ZA rfl ?_|refine ZC ?_|(refine Zh rfl rfl (fun _=>?_) (fun _=>?_)<;>try (exfalso;omega))|(refine QR rfl rfl (fun _=>?_) (fun _=>?_)<;>try (exfalso;omega))|refine ZH rfl ?_|refine Zn rfl rfl rfl ?_|refine Zw rfl rfl rfl ?_|refine Zhz ?_|refine Zm7 rfl rfl (by omega) (by decide) rfl rfl ?_|refine ZI ?_|refine ZL ?_)
 simp only [lL,List.length_cons,List.length_nil,List.append_assoc,lC,lE,Int.toNat_natCast,Nat.zero_add];rw [hmap .i64 0,hmap1]
 refine Z2 (α:=Nat) (fun i=>[(0,.int .i64 n),(6,.ptr A.length (L0.length+3) 0 0 0),(31,.int .i64 n),(32,.int .i64 i)])
  (fun i=>⟨A,false,L0++[.arr 1 0 (List.replicate n (.int .u8 0)),.arr 1 0 ((List.range n).map fun (j:Nat)=>.int .i64 (if j<i then (fun (j:Nat)=>(n:Int)-1-j) j else 0)),.arr 1 0 ((List.range n).map fun (j:Nat)=>.int .u64 (if j<i then (fun _=>(1:Int)) j else 0)),.arr 4 0 [.agg [.ref A.length (L0.length+1) 0 0 n,.ref A.length (L0.length+0) 0 0 n,.ref A.length (L0.length+2) 0 0 n,.int .u64 g]]]⟩)
  (fun i=>i<=n) (fun i=>n-i) 0 rfl rfl (Nat.zero_le _) ?_
 intro i hi
 repeat' (first|refine ZE ?_|refine ZD ?_|refine ZF rfl ?_|refine ZQ rfl rfl ?_|refine ZA rfl ?_|refine ZC ?_|refine Zz rfl rfl ?_|(refine Zh rfl rfl (fun _=>?_) (fun _=>?_)<;>try (exfalso;omega))|refine ZV rfl ?_|refine ZH rfl ?_|refine JR rfl rfl (by omega) ?_|refine ZD6 rfl rfl rfl rfl ?_|refine Zh0 rfl rfl (by omega) rfl ?_|refine ZI ?_|refine ZS ?_|refine Zu ?_|refine ZL ?_|refine ZO ?_|refine Ze ?_|refine Zb rfl ?_|refine Zt ?_)
 ·simp only [Nat.zero_add,Int.toNat_natCast]
  refine ZYB (y:=.int .i64 0) rfl rfl rfl ?_ rfl rfl rfl ?_
  ·rw [jG,List.getElem?_range (by omega)];simp
  rw [ZJB (f:=fun (j:Nat)=>(n:Int)-1-j) (by omega)]
  repeat' (first|refine ZD ?_|refine ZF rfl ?_|refine ZQ rfl rfl ?_|refine ZA rfl ?_|refine ZC ?_|refine Zz rfl rfl ?_|refine ZD6 rfl rfl rfl rfl ?_|refine Zh0 rfl rfl (by omega) rfl ?_)
  simp only [Nat.zero_add,Int.toNat_natCast];refine ZYB (y:=.int .u64 0) rfl rfl rfl ?_ rfl rfl rfl ?_
  ·rw [jG,List.getElem?_range (by omega)];simp
  rw [ZJB (f:=fun (j:Nat)=>(1:Int)) (by omega)]
  repeat' (first|refine ZD ?_|refine ZF rfl ?_|refine ZA rfl ?_|refine ZC ?_|refine Zm rfl rfl (by omega) ?_|refine Zy ?_|refine QH ?_)
  exact ⟨i+1,⟨rfl,rfl⟩,by omega,by omega⟩
 ·obtain rfl:i=n:=by omega
  have e1:∀ (k:IntKind) (f:Nat->Int),((List.range i).map fun (j:Nat)=>AV.int k (if j<i then f j else 0))=(List.range i).map fun j=>.int k (f j):=by
   intro k f
   apply List.map_congr_left
   intro j hj;rw [List.mem_range] at hj;rw [if_pos hj]
  simp only [e1,AR.b0,AR.b1,AR.b2,AR.b3,QA,List.map_replicate,List.map_map,List.length_replicate];simp only [List.map_const',List.length_range];rfl
theorem Zdk (n g:Nat) (hn:1<=n/\n<=16384) (hg:1<=g/\g<=4294967295) (A:List (Bool × List Blk)) (L0:List Blk) :
 S Tb ZBT [.int .i64 n,.int .u64 g] ⟨A,false,L0⟩=some (.tup [.ptr A.length (L0.length+5) 0 0 0,.int .i64 0],⟨A,false,L0++[(QA n g).b0,(QA n g).b1,(QA n g).b2,(QA n g).b3 A.length L0.length,(QA n g).b4,(QA n g).b5 A.length L0.length]⟩):=by
 refine ZBh rfl ?_
 repeat' (first|refine ZE ?_|refine ZD ?_|refine ZF rfl ?_|refine Zs rfl rfl ?_|refine ZA rfl ?_|refine ZC ?_|(refine Zk rfl rfl (fun _=>?_) (fun _=>?_)<;>try (exfalso;omega))|refine ZH rfl ?_|refine Zn rfl rfl rfl ?_|refine Zw rfl rfl rfl ?_|refine ZB rfl rfl rfl (Zm8 n g hn hg A L0) ?_|refine ZjD rfl rfl ?_|refine ZI ?_|refine ZS ?_|refine ZO ?_)
 simp only [lL,List.append_assoc,lC,lE];rfl
structure Pce where
 k:Int
 n:Int
 t:List UInt8
deriving DecidableEq
def Pce.av (p:Pce):AV:=.agg [.int .u8 p.k,.int .i64 p.n,.str p.t]
def Xd (p:Pce):Prop:=((p.k=1\/p.k=3)/\1<=p.n/\p.t=[])\/(p.k=2/\p.n=0/\p.t≠[])
instance (p:Pce):Decidable (Xd p):=by unfold Xd;exact inferInstance
def inP (p:Pce):Int:=if p.k=1\/p.k=3 then p.n else 0
def ZD7 (p:Pce):Int:=if p.k=1 then p.n else if p.k=3 then 0 else p.t.length
theorem ZfS (p:Pce) (st:St):S Tb ZDu [p.av] st=some (.bool (decide (Xd p)),st):=by
 refine QJ rfl (fun A hA=>?_)
 obtain ⟨k,n,t⟩:=p;unfold Pce.av;unfold Xd
 simp only
 by_cases h1:k=1
 ·subst h1
  repeat' (first|refine ZE ?_|refine ZD ?_|refine ZF rfl ?_|refine ZQ rfl rfl ?_|refine ZP rfl rfl rfl rfl ?_|refine QE rfl ?_|refine J1 rfl rfl ?_|refine Zo rfl rfl rfl rfl ?_|refine ZA rfl ?_|refine ZC ?_|(refine ZAY rfl rfl (fun _=>?_) (fun _=>?_)<;>try (exfalso;omega))|(refine Zp rfl rfl (fun _=>?_) (fun _=>?_)<;>try (exfalso;omega))|(refine J9 rfl rfl (fun _=>?_) (fun _=>?_)<;>try contradiction)|refine ZV rfl ?_|refine Za rfl rfl rfl ?_|refine ZI ?_|refine ZS ?_|refine ZL ?_|refine ZO ?_|refine Zd ?_|refine QX ?_)
  all_goals try (exfalso;omega)
  all_goals refine Zj hA (by first|exact .inl rfl|exact .inr rfl) rfl rfl rfl rfl ?_
  all_goals simp
  all_goals first|(constructor<;>first|omega|assumption)|(intro q;first|assumption|(exfalso;omega))
 ·by_cases h3:k=3
  ·subst h3
   repeat' (first|refine ZE ?_|refine ZD ?_|refine ZF rfl ?_|refine ZQ rfl rfl ?_|refine ZP rfl rfl rfl rfl ?_|refine QE rfl ?_|refine J1 rfl rfl ?_|refine Zo rfl rfl rfl rfl ?_|refine ZA rfl ?_|refine ZC ?_|(refine ZAY rfl rfl (fun _=>?_) (fun _=>?_)<;>try (exfalso;omega))|(refine Zp rfl rfl (fun _=>?_) (fun _=>?_)<;>try (exfalso;omega))|(refine J9 rfl rfl (fun _=>?_) (fun _=>?_)<;>try contradiction)|refine ZV rfl ?_|refine ZH rfl ?_|refine Za rfl rfl rfl ?_|refine ZS ?_|refine ZL ?_|refine ZO ?_|refine Zd ?_|refine QX ?_)
   all_goals try (exfalso;omega)
   all_goals try contradiction
   all_goals refine Zj hA (by first|exact .inl rfl|exact .inr rfl) rfl rfl rfl rfl ?_
   all_goals simp
   all_goals first|(constructor<;>first|omega|assumption)|(intro q;first|assumption|(exfalso;omega))
  ·by_cases h2:k=2
   ·subst h2
    repeat' (first|refine ZE ?_|refine ZD ?_|refine ZF rfl ?_|refine ZQ rfl rfl ?_|refine ZP rfl rfl rfl rfl ?_|refine QE rfl ?_|refine J1 rfl rfl ?_|refine Zo rfl rfl rfl rfl ?_|refine ZA rfl ?_|refine ZC ?_|(refine Zp rfl rfl (fun _=>?_) (fun _=>?_)<;>try (exfalso;omega))|(refine Zhh rfl rfl (fun _=>?_) (fun _=>?_)<;>try contradiction)|refine ZV rfl ?_|refine ZH rfl ?_|refine Za rfl rfl rfl ?_|refine ZS ?_|refine ZL ?_|refine ZO ?_|refine Zd ?_|refine QX ?_)
    all_goals try (exfalso;omega)
    all_goals try contradiction
    all_goals refine Zj hA (by first|exact .inl rfl|exact .inr rfl) rfl rfl rfl rfl ?_
    all_goals simp
    all_goals first|(constructor<;>first|omega|assumption)|(intro q;first|assumption|(exfalso;omega))
   ·repeat' (first|refine ZE ?_|refine ZD ?_|refine ZF rfl ?_|refine ZQ rfl rfl ?_|refine ZP rfl rfl rfl rfl ?_|refine ZA rfl ?_|refine ZC ?_|(refine Zp rfl rfl (fun _=>?_) (fun _=>?_)<;>try (exfalso;omega))|refine ZH rfl ?_|refine Za rfl rfl rfl ?_|refine ZI ?_|refine ZS ?_|refine ZL ?_|refine ZO ?_|refine Zy ?_)
    all_goals try (exfalso;omega)
    all_goals try contradiction
    all_goals refine Zj hA (by first|exact .inl rfl|exact .inr rfl) rfl rfl rfl rfl ?_
    all_goals simp [h1,h2,h3]
theorem ZfT (p:Pce) (ht:p.t.length<4294967296) (st:St):S Tb ZDv [p.av] st=some (.tup [.int .i64 (inP p),.int .i64 (ZD7 p)],st):=by
 refine QJ rfl (fun A hA=>?_)
 obtain ⟨k,n,t⟩:=p;unfold Pce.av inP ZD7
 simp only at *
 by_cases h1:k=1
 ·subst h1
  repeat' (first|refine ZE ?_|refine ZD ?_|refine ZF rfl ?_|refine ZQ rfl rfl ?_|refine ZP rfl rfl rfl rfl ?_|refine ZA rfl ?_|refine ZC ?_|(refine Zp rfl rfl (fun _=>?_) (fun _=>?_)<;>try (exfalso;omega))|refine ZV rfl ?_|refine Za rfl rfl rfl ?_|refine ZS ?_|refine ZL ?_|refine ZO ?_|refine Zd ?_|refine QX ?_)
  all_goals try (exfalso;omega)
  all_goals refine Zj hA (by first|exact .inl rfl|exact .inr rfl) rfl rfl rfl rfl ?_
  all_goals simp
 ·by_cases h3:k=3
  ·subst h3
   repeat' (first|refine ZE ?_|refine ZD ?_|refine ZF rfl ?_|refine ZQ rfl rfl ?_|refine ZP rfl rfl rfl rfl ?_|refine ZA rfl ?_|refine ZC ?_|(refine Zp rfl rfl (fun _=>?_) (fun _=>?_)<;>try (exfalso;omega))|refine ZV rfl ?_|refine ZH rfl ?_|refine Za rfl rfl rfl ?_|refine ZS ?_|refine ZL ?_|refine ZO ?_|refine Zd ?_|refine QX ?_)
   all_goals try (exfalso;omega)
   all_goals refine Zj hA (by first|exact .inl rfl|exact .inr rfl) rfl rfl rfl rfl ?_
   all_goals simp
  ·repeat' (first|refine ZE ?_|refine ZD ?_|refine ZF rfl ?_|refine ZQ rfl rfl ?_|refine ZP rfl rfl rfl rfl ?_|refine ZA rfl ?_|refine ZC ?_|refine JJ rfl ?_|(refine Zp rfl rfl (fun _=>?_) (fun _=>?_)<;>try (exfalso;omega))|refine ZH rfl ?_|refine Za rfl rfl rfl ?_|refine ZI ?_|refine ZS ?_|refine ZL ?_|refine ZO ?_|refine Zy ?_)
   all_goals try (exfalso;omega)
   all_goals try contradiction
   all_goals refine Zj hA (by first|exact .inl rfl|exact .inr rfl) rfl rfl rfl rfl ?_
   all_goals simp [h1,h3]
def inL (l:List Pce):Int:=(l.map inP).sum
def J5 (l:List Pce):Int:=(l.map ZD7).sum
structure DlOk (l:List Pce):Prop where
 v:∀ p∈l,Xd p
 n:l.length<=4096
 i:inL l<=1048576
 o:J5 l<=1048576
theorem Zg1 {p:Pce} (h:Xd p):0<=inP p/\0<=ZD7 p:=by
 unfold Xd at h;unfold inP ZD7
 rcases h with ⟨h1,h2,h3⟩|⟨h1,h2,h3⟩
 ·rw [if_pos h1]
  refine ⟨by omega,?_⟩
  split
  ·omega
  ·split<;>omega
 ·rw [if_neg (by omega),if_neg (by omega),if_neg (by omega)];omega
theorem ZDB {l:List Pce} (h:∀ p∈l,Xd p):0<=inL l/\0<=J5 l:=by
 induction l with
 | nil=>simp [inL,J5]
 | cons p l ih =>
  obtain ⟨i1,i2⟩:=ih fun q hq=>h q (by simp [hq])
  obtain ⟨j1,j2⟩:=Zg1 (h p (by simp))
  simp only [inL,J5,jC,List.sum_cons] at *
  omega
theorem ZCR (l:List Pce) (i:Nat):inL l=inL (l.take i)+inL (l.drop i)/\J5 l=J5 (l.take i)+J5 (l.drop i):=by
 unfold inL J5;rw [<- List.sum_append,<- List.sum_append,<- List.map_append,<- List.map_append,List.take_append_drop];exact ⟨rfl,rfl⟩
theorem DlOk.text {l:List Pce} (h:DlOk l) {p:Pce} (hp:p∈l):p.t.length<4294967296:=by
 have hv:=h.v p hp
 by_cases hk:p.k=2
 ·have h1:ZD7 p=p.t.length:=by unfold ZD7;rw [if_neg (by omega),if_neg (by omega)]
  obtain ⟨i,hi⟩:=List.getElem?_of_mem hp;have h2:=(ZCR l i).2
  have hd:l.drop i=p::l.drop (i+1):=by
   have:=Zr hi
   rw [List.drop_eq_getElem_cons this];rw [jE this] at hi;simp only [oJ] at hi;rw [hi]
  have h3:=(ZDB (l:=l.take i) fun q hq=>h.v q (List.mem_of_mem_take hq)).2
  have h4:=(ZDB (l:=l.drop (i+1)) fun q hq=>h.v q (List.mem_of_mem_drop hq)).2
  have h5:=h.o;rw [h2,hd] at h5;simp only [J5,jC,List.sum_cons] at h5 h3 h4;omega
 ·unfold Xd at hv
  rcases hv with ⟨_,_,h3⟩|⟨h1,_⟩
  ·rw [h3];simp
  ·exact absurd h1 hk
section
variable {O:Orc} {k:List Fr} {Q:Jv} {e:Env} {A:List (Bool × List Blk)} {L:List Blk} {keep:List Nat} {is:List QAbs.PI}
theorem is_stPc {a x:Opd} {y:AV} {p:Pce} (ha:Zc e a=some (.ptr A.length L.length 0 0 0)) (hx:Zc e x=some p.av) (h:Is O is keep k Q e ⟨A,false,L++[Blk.arr 3 0 [p.av]]⟩) :
 Is O (⟨none,none,false,.st 3 a x⟩::is) keep k Q e ⟨A,false,L++[Blk.arr 3 0 [y]]⟩ :=
 ZYB (L0:=L) (T:=[Blk.arr 3 0 [y]]) (ix:=0) (i:=0) (w:=3) (ver:=0) (es:=[y]) ha hx rfl rfl rfl rfl (Xa _) h
theorem Zdl {d:Nat} {a:Opd} {p:Pce} (ha:Zc e a=some (.ptr A.length L.length 0 0 0))
 (h:Is O is keep k Q ((d,p.av)::e) ⟨A,false,L++[Blk.arr 3 0 [p.av]]⟩):Is O (⟨some d,none,false,.ld true 3 a⟩::is) keep k Q e ⟨A,false,L++[Blk.arr 3 0 [p.av]]⟩ :=
 ZP ha (List.getElem?_concat_length ..) rfl rfl h
end
theorem ZjE {st:St} {lv ix ver:Nat} {l:List Pce} (hl:DlOk l) (hg:st.get lv ix=some (.arr 3 ver (l.map Pce.av))) :
 S Tb X5 [.ref lv ix ver 0 l.length] st=some (.tup [.int .i64 (inL l),.int .i64 (J5 l),.int .i64 0],st):=by
 refine QJ rfl (fun A hA=>?_)
 have hn:=hl.n;have hi:=hl.i;have ho:=hl.o
 have g:=fun L=>ZU hA (ro:=false) (L:=L) hg
 have hw:∀ L,wIs 3 ver (St.get ⟨A,false,L⟩ lv ix)=true:=fun L=>by rw [g];simp [wIs]
 repeat' (first|refine ZE ?_|refine ZD ?_|refine ZF rfl ?_|refine ZA rfl ?_|refine ZC ?_|refine YB rfl ?_|(refine QR rfl rfl (fun _=>?_) (fun _=>?_)<;>try (exfalso;omega))|refine ZH rfl ?_|refine ZI ?_|refine ZL ?_)
 all_goals try (exfalso;omega)
 refine Z2 (α:=Nat) (fun i=>[(2,.int .i64 (inL (l.take i))),(3,.int .i64 (J5 (l.take i))),(12,.ref lv ix ver 0 l.length),(13,.int .i64 l.length),(14,.int .i64 i)]) (fun i=>⟨A,false,(l.take i).map fun p=>Blk.arr 3 0 [p.av]⟩) (fun i=>i<=l.length) (fun i=>l.length-i) 0 rfl rfl (by omega) ?_
 rintro i hi'
 rcases Nat.lt_or_ge i l.length with hlt|hge
 ·obtain ⟨p,hp⟩:∃ x,l[i]?=some x:=⟨l[i]'hlt,jE _⟩
  have hpm:=jM hp
  have q:(l.map Pce.av)[0+((i:Nat):Int).toNat]?=some p.av:=by
   rw [show 0+((i:Nat):Int).toNat=i by omega,jG,hp];rfl
  have hV:=fun L=>ZfS p ⟨A,false,L⟩
  rw [decide_eq_true (hl.v p hpm)] at hV
  have hS:=fun L=>ZfT p (hl.text hpm) ⟨A,false,L⟩
  obtain ⟨p1,p2⟩:=Zg1 (hl.v p hpm);have ht:l.take (i+1)=l.take i++[p]:=Zg hp
  have hi2:inL (l.take (i+1))=inL (l.take i)+inP p/\J5 (l.take (i+1))=J5 (l.take i)+ZD7 p:=by rw [ht];simp [inL,J5]
  obtain ⟨n1,n2⟩:=ZDB (l:=l.take i) fun q hq=>hl.v q (List.mem_of_mem_take hq)
  obtain ⟨n3,n4⟩:=ZDB (l:=l.drop (i+1)) fun q hq=>hl.v q (List.mem_of_mem_drop hq)
  obtain ⟨s1,s2⟩:=ZCR l (i+1)
  generalize hB:(l.take i).map (fun p=>Blk.arr 3 0 [p.av])=B
  generalize inL (l.take i)=x at *
  generalize J5 (l.take i)=y at *
  repeat' (first|refine is_stPc rfl rfl ?_|refine Zdl rfl ?_|refine ZE ?_|refine ZD ?_|refine ZF rfl ?_|refine QE rfl ?_|refine Zo rfl rfl rfl rfl ?_|refine Zs rfl rfl ?_|refine ZA rfl ?_|refine ZC ?_|(refine Zh rfl rfl (fun _=>?_) (fun _=>?_)<;>try (exfalso;omega))|(refine QR rfl rfl (fun _=>?_) (fun _=>?_)<;>try (exfalso;omega))|refine ZV rfl ?_|refine ZH rfl ?_|refine Jc rfl rfl ?_|refine Zm rfl rfl (by omega) ?_|refine JR rfl rfl (by omega) ?_|refine Zw rfl rfl rfl ?_|refine ZBB rfl rfl (by omega) (hw _) ?_|refine Z9 rfl (g _) q rfl ?_|refine ZB rfl rfl rfl (hV _) ?_|refine ZB rfl rfl rfl (hS _) ?_|refine ZI ?_|refine ZL ?_|refine Zy ?_|refine QH ?_)
  all_goals try (exfalso;omega)
  all_goals try contradiction
  all_goals refine ⟨i+1,⟨?_,?_⟩,by omega,by omega⟩
  ·rw [hi2.1,hi2.2];rfl
  ·rw [ht,List.map_append,hB];rfl
 ·obtain rfl:i=l.length:=by omega
  rw [List.take_length]
  repeat' (first|refine ZE ?_|refine ZD ?_|refine ZF rfl ?_|refine ZA rfl ?_|refine ZC ?_|(refine Zh rfl rfl (fun _=>?_) (fun _=>?_)<;>try (exfalso;omega))|refine ZH rfl ?_|refine ZS ?_|refine Zu ?_|refine ZO ?_|refine Ze ?_|refine Zb rfl ?_|refine Zt ?_)
  all_goals try (exfalso;omega)
  refine Zj hA (by first|exact .inl rfl|exact .inr rfl) rfl rfl rfl rfl ?_
  rfl
noncomputable def ZBt (N:ZJ) (t:Tr) (a n:Int) (s:List UInt8):Tr :=
 if n=0/\s=[] then t
 else concM N (concM N (cutF N t.h t a).1 (Z3 s)) (cutF N (cutF N t.h t a).2.h (cutF N t.h t a).2 n).2
structure ReplOk (N:ZJ) (t:Tr) (a n:Int) (s:List UInt8) (r:Tr):Prop where
 ve:VE N r
 txt:r.txt N=(t.txt N).take a.toNat++s++(t.txt N).drop (a+n).toNat
 bytes:r.bytes=t.bytes-n+s.length
theorem ZfU {N:ZJ} (hN:GoodN N) {t:Tr} (ht:VE N t) {a n:Int} {s:List UInt8} (h0:0<=a) (h1:0<=n) (h2:a+n<=t.bytes) (hb:t.bytes<=65536) (hs:t.bytes-n+s.length<=65536):ReplOk N t a n s (ZBt N t a n s):=by
 unfold ZBt
 split
 ·rename_i h
  obtain ⟨rfl,rfl⟩:=h
  exact ⟨ht,by simp,by simp⟩
 ·have c1:=Yk hN t.h t a ht rfl h0 (by omega) hb
  generalize cutF N t.h t a=q at *
  obtain ⟨l,m⟩:=q
  simp only at *
  have hm:=c1.rb;have hl:=c1.lb
  simp only at hm hl
  have c2:=Yk hN m.h m n c1.r rfl h1 (by omega) (by omega)
  generalize cutF N m.h m n=q at *
  obtain ⟨d,r⟩:=q
  simp only at *
  have hr:=c2.rb
  simp only at hr
  obtain ⟨b1,b2,b3⟩:=J8 hN (s:=s) (by omega)
  have k1:=YD hN c1.l b1 (by rw [b3];simp only;omega)
  have k2:=YD hN k1.ve c2.r (by rw [k1.bytes,b3];simp only;omega)
  refine ⟨k2.ve,?_,by rw [k2.bytes,k1.bytes,b3];simp only;omega⟩
  rw [k2.txt,k1.txt,b2];have e1:=c1.lt;have e2:=c1.rt;have e3:=c2.rt
  simp only at e1 e2 e3 ⊢
  rw [e1,e3,e2,List.drop_drop,show a.toNat+n.toNat=(a+n).toNat by omega]
theorem ZjF {N:ZJ} (hN:GoodN N) {st:St} {lv ix:Nat} (hr:Rd st lv ix N) {t:Tr} (ht:VE N t) {a n:Int} {s:List UInt8} (h0:0<=a) (h1:0<=n) (h2:a+n<=t.bytes) (hb:t.bytes<=65536) (hs:t.bytes-n+s.length<=65536) :
 S Tb ZCh [.ptr lv ix 0 0 0,t.av,.int .i64 a,.int .i64 n,.str s] st=some (.tup [(ZBt N t a n s).own.av,.int .i64 0],st):=by
 refine QJ rfl (fun A hA=>?_)
 have hrp:=fun L=>hr.push hA (ro:=false) (L:=L)
 have hC:=fun L=>ZHu (hrp L) ht hb
 have hB:=fun st=>X9 t ht.pos.1 (by omega) st
 have hpos:=ht.pos.2
 by_cases hz:n=0/\s=[]
 ·have he:ZBt N t a n s=t:=by unfold ZBt;rw [if_pos hz]
  rw [he];obtain ⟨rfl,rfl⟩:=hz
  have hO:=fun st=>ZfF t ht.pos.1 st
  generalize t.own=o at *
  repeat' (first|refine ZE ?_|refine ZD ?_|refine ZF rfl ?_|refine QE rfl ?_|refine J1 rfl rfl ?_|refine Zo rfl rfl rfl rfl ?_|refine ZA rfl ?_|refine ZC ?_|refine Zkc rfl rfl ?_|(refine Zh rfl rfl (fun _=>?_) (fun _=>?_)<;>try (exfalso;omega))|(refine QR rfl rfl (fun _=>?_) (fun _=>?_)<;>try (exfalso;omega))|(refine Zp rfl rfl (fun _=>?_) (fun _=>?_)<;>try (exfalso;omega))|(refine Zk rfl rfl (fun _=>?_) (fun _=>?_)<;>try (exfalso;omega))|(refine J9 rfl rfl (fun _=>?_) (fun _=>?_)<;>try contradiction)|refine ZV rfl ?_|refine ZH rfl ?_|refine JR rfl rfl (by omega) ?_|refine Zn rfl rfl rfl ?_|refine Za rfl rfl rfl ?_|refine Zl rfl rfl rfl rfl rfl rfl ?_|refine ZP rfl rfl rfl (Zq _) ?_|refine Zl rfl rfl rfl (Z8 _ _ _) (QY _ _) rfl ?_|refine Zw rfl (Z5 _) (QI _) ?_|refine ZB rfl rfl (by first|rfl|(simp only [lE,lN,lC,ZZ,ZW,ZX];first|done|rfl)) (hC _) ?_|refine ZB rfl rfl (by first|rfl|(simp only [lE,lN,lC,ZZ,ZW,ZX];first|done|rfl)) (hB _) ?_|refine ZB rfl rfl (by first|rfl|(simp only [lE,lN,lC,ZZ,ZW,ZX];first|done|rfl)) (hO _) ?_|refine Zgd rfl rfl ?_|refine ZI ?_|refine ZS ?_|refine ZO ?_|refine Zd ?_)
  all_goals try (simp only [jB,if_false] at *)
  all_goals try (exfalso;omega)
  all_goals first|(exact ZCF hA (.inr rfl) rfl rfl rfl rfl)|(exact absurd ⟨by assumption,by assumption⟩ hz)
 ·have hK1:=fun L=>Zkv hN t.h (hrp L) ht rfl a h0 (by omega) hb
  have c1:=Yk hN t.h t a ht rfl h0 (by omega) hb
  have hrm:ZBt N t a n s=concM N (concM N (cutF N t.h t a).1 (Z3 s)) (cutF N (cutF N t.h t a).2.h (cutF N t.h t a).2 n).2:=by unfold ZBt;rw [if_neg hz]
  have hO0:=(ZfU hN ht h0 h1 h2 hb hs).ve.pos.1
  generalize cutF N t.h t a=q at *
  obtain ⟨l,m⟩:=q
  simp only at *
  have hm:=c1.rb;have hl:=c1.lb;have vl:=c1.l;have vm:=c1.r
  simp only at hm hl vl vm
  have hK2:=fun L=>Zkv hN m.h (hrp L) vm rfl n h1 (by omega) (by omega)
  have c2:=Yk hN m.h m n vm rfl h1 (by omega) (by omega)
  generalize cutF N m.h m n=q at *
  obtain ⟨d,r⟩:=q
  simp only at *
  have vr:=c2.r;have hrb:=c2.rb
  simp only at vr hrb
  obtain ⟨b1,b2,b3⟩:=J8 hN (s:=s) (by omega)
  have hBu:=fun st=>Zdj hN s (by omega) st
  generalize Z3 s=b at *
  have hc1:=fun L=>ZHt hN (hrp L) vl b1
  have k1:=(YD hN vl b1 (by omega)).ve
  generalize concM N l b=z1 at *
  have hc2:=fun L=>ZHt hN (hrp L) k1 vr
  generalize concM N z1 r=z2 at *
  rw [hrm] at hO0 ⊢
  have hO:=fun st=>ZfF z2 hO0 st
  generalize z2.own=zo at *
  have hmin:∀ x:Int,min x 65536<=x/\min x 65536<=65536/\(min x 65536=x\/min x 65536=65536):=fun x=>by omega
  have hmin2:=hmin s.length
  repeat' (first|refine ZE ?_|refine ZD ?_|refine ZF rfl ?_|refine QE rfl ?_|refine J1 rfl rfl ?_|refine Zo rfl rfl rfl rfl ?_|refine Zs rfl rfl ?_|refine ZA rfl ?_|refine ZC ?_|refine JJ rfl ?_|(refine Zh rfl rfl (fun _=>?_) (fun _=>?_)<;>try (exfalso;omega))|(refine QR rfl rfl (fun _=>?_) (fun _=>?_)<;>try (exfalso;omega))|(refine Zp rfl rfl (fun _=>?_) (fun _=>?_)<;>try (exfalso;omega))|(refine Zk rfl rfl (fun _=>?_) (fun _=>?_)<;>try (exfalso;omega))|(refine J9 rfl rfl (fun _=>?_) (fun _=>?_)<;>try contradiction)|refine ZV rfl ?_|refine ZH rfl ?_|refine JR rfl rfl (by omega) ?_|refine Zn rfl rfl rfl ?_|refine Za rfl rfl rfl ?_|refine Zl rfl rfl rfl rfl rfl rfl ?_|refine ZP rfl rfl rfl (Zq _) ?_|refine Zl rfl rfl rfl (Z8 _ _ _) (QY _ _) rfl ?_|refine Zw rfl (Z5 _) (QI _) ?_|refine ZB rfl rfl (by first|rfl|(simp only [lE,lN,lC,ZZ,ZW,ZX];first|done|rfl)) (hC _) ?_|refine ZB rfl rfl (by first|rfl|(simp only [lE,lN,lC,ZZ,ZW,ZX];first|done|rfl)) (hB _) ?_|refine ZB rfl rfl (by first|rfl|(simp only [lE,lN,lC,ZZ,ZW,ZX];first|done|rfl)) (hK1 _) ?_|refine ZB rfl rfl (by first|rfl|(simp only [lE,lN,lC,ZZ,ZW,ZX];first|done|rfl)) (hK2 _) ?_|refine ZB rfl rfl (by first|rfl|(simp only [lE,lN,lC,ZZ,ZW,ZX];first|done|rfl)) (hBu _) ?_|refine ZB rfl rfl (by first|rfl|(simp only [lE,lN,lC,ZZ,ZW,ZX];first|done|rfl)) (hc1 _) ?_|refine ZB rfl rfl (by first|rfl|(simp only [lE,lN,lC,ZZ,ZW,ZX];first|done|rfl)) (hc2 _) ?_|refine ZB rfl rfl (by first|rfl|(simp only [lE,lN,lC,ZZ,ZW,ZX];first|done|rfl)) (hO _) ?_|refine Zgd rfl rfl ?_|refine ZI ?_|refine ZS ?_|refine ZO ?_|refine Zd ?_)
  all_goals try (simp only [jB,if_false] at *)
  all_goals try (exfalso;omega)
  all_goals first|(exact ZCF hA (.inr rfl) rfl rfl rfl rfl)|(exact absurd ⟨by assumption,by assumption⟩ hz)
def hd (N:ZJ):Nat:=1*65536+N.length
theorem ZYC:∀ {N M:ZJ} {o:Nat},lk (N++M) o=(lk N o).or (lk M o)
 | [],M,o=>by simp [lk]
 | p::N,M,o=>by
  rw [lC,lk,lk]
  by_cases c:p.1=o
  ·rw [if_pos c,if_pos c];rfl
  ·rw [if_neg c,if_neg c,ZYC]
theorem ZAr:GoodN []:=fun o x h=>by simp [lk] at h
theorem ZM8 (s:List UInt8):s.countP ZQE<=s.countP ZDj:=by
 refine List.countP_mono_left (fun b _ h=>?_)
 unfold ZQE at h;unfold ZDj
 simp at h ⊢
 omega
theorem NdOk.kid {y:Nd} (h:NdOk y) (hl:(leastB y.h:Int)<=y.mea.b) {a:Nat} (ha:ZCD a):KidOk y.h ⟨a,y.mea⟩:=by
 rcases h with h|⟨n,ks,h⟩
 ·have hm:y.mea=Yi y.text:=by unfold Nd.mea;rw [if_pos h.h]
  have h1:=h.hi;have h2:=ZM8 y.text;have h3:=List.countP_le_length (p:=ZDj) (l:=y.text);refine ⟨ha,hl,?_,?_,?_,?_,?_⟩
  all_goals simp only [hm,Yi,h.h,mostB]
  all_goals omega
 ·have e:=h.eq
  subst e;have hms:Nd.mea ⟨n+1,[],some ks⟩=QF (ks.map Kid.m):=rfl;have hs:=h.sum;have hhi:=h.hi;have hk:=h.kid
  have key:∀ (l:List Kid),(∀ k∈l,KidOk n k)->(QF (l.map Kid.m)).b<=l.length*(mostB n:Int)/\0<=(QF (l.map Kid.m)).r/\(QF (l.map Kid.m)).r<=(QF (l.map Kid.m)).b/\0<=(QF (l.map Kid.m)).l/\(QF (l.map Kid.m)).l<=(QF (l.map Kid.m)).r:=by
   intro l
   induction l with
   | nil=>intro _;simp [QF,Mea.zero]
   | cons k l ih =>
    intro hk
    obtain ⟨i1,i2,i3,i4,i5⟩:=ih (fun k hk'=>hk k (by simp [hk']))
    have hk1:=hk k (by simp)
    have a1:=hk1.hi;have a2:=hk1.r0;have a3:=hk1.rb;have a4:=hk1.l0;have a5:=hk1.lr;simp only [jC,QF,Mea.add,List.length_cons]
    have:((l.length+1:Nat):Int)*(mostB n:Int)=l.length*(mostB n:Int)+mostB n:=by
     rw [Int.natCast_add,Int.add_mul];simp
    refine ⟨?_,?_,?_,?_,?_⟩<;>omega
  obtain ⟨k1,k2,k3,k4,k5⟩:=key ks hk
  have h4:(ks.length:Int)*(mostB n:Int)<=4*(mostB n:Int):=Int.mul_le_mul_of_nonneg_right (by omega) (by omega)
  have hm:=ZM1 n;refine ⟨ha,hl,?_,?_,?_,?_,?_⟩
  all_goals simp only [hms,mostB]
  all_goals omega
def arK (lv b:Nat):List (Nat × Nat):=[(lv,b),(lv,b+1),(lv,b+2),(lv,b+3),(lv,b+4),(lv,b+5)]
def arB (lv b:Nat) (r:AR):List Blk:=[r.b0,r.b1,r.b2,r.b3 lv b,r.b4,r.b5 lv b]
def QP (st:St) (lv b:Nat) (r:AR):St:=Ql st (arK lv b) (arB lv b r)
theorem ZQH (lv b:Nat):(arK lv b).Nodup:=by simp [arK]
section
variable {st:St} {lv b:Nat} {r:AR}
theorem Has.cl (h:Has st lv b r):Cl st (arK lv b) (arB lv b r):=by
 refine ⟨ZQH lv b,rfl,fun k hk=>?_,fun j l i c h1 h2=>?_⟩
 ·simp only [arK,List.mem_cons,List.not_mem_nil,or_false] at hk
  rcases hk with rfl|rfl|rfl|rfl|rfl|rfl<;>exact h.wr
 ·match j,h1,h2 with
  | 0,h1,h2=>obtain ⟨rfl,rfl⟩:=Prod.mk.inj (Option.some.inj h1);obtain rfl:=Option.some.inj h2;exact h.h0
  | 1,h1,h2=>obtain ⟨rfl,rfl⟩:=Prod.mk.inj (Option.some.inj h1);obtain rfl:=Option.some.inj h2;exact h.h1
  | 2,h1,h2=>obtain ⟨rfl,rfl⟩:=Prod.mk.inj (Option.some.inj h1);obtain rfl:=Option.some.inj h2;exact h.h2
  | 3,h1,h2=>obtain ⟨rfl,rfl⟩:=Prod.mk.inj (Option.some.inj h1);obtain rfl:=Option.some.inj h2;exact h.h3
  | 4,h1,h2=>obtain ⟨rfl,rfl⟩:=Prod.mk.inj (Option.some.inj h1);obtain rfl:=Option.some.inj h2;exact h.h4
  | 5,h1,h2=>obtain ⟨rfl,rfl⟩:=Prod.mk.inj (Option.some.inj h1);obtain rfl:=Option.some.inj h2;exact h.h5
  | n+6,h1,h2=>simp [arK] at h1
theorem Has.of_cl (h:Cl st (arK lv b) (arB lv b r)):Has st lv b r :=
 ⟨h.wr (lv,b) (by simp [arK]),h.get 0 _ _ _ rfl rfl,h.get 1 _ _ _ rfl rfl,h.get 2 _ _ _ rfl rfl,h.get 3 _ _ _ rfl rfl,h.get 4 _ _ _ rfl rfl,h.get 5 _ _ _ rfl rfl⟩
theorem Has.same (h:Has st lv b r):QP st lv b r=st:=h.cl.same
theorem Has.put (h:Has st lv b r) (r':AR):Has (QP st lv b r') lv b r':=.of_cl (h.cl.put rfl rfl)
theorem ZjG {r1 r2:AR}:QP (QP st lv b r1) lv b r2=QP st lv b r2:=ZbA (ZQH lv b) rfl rfl
theorem Has.out (h:Has st lv b r) (r':AR) {l i:Nat} (hn:¬ (l=lv/\b<=i/\i<=b+5)):(QP st lv b r').get l i=st.get l i:=by
 refine h.cl.out rfl rfl (fun q=>hn ?_)
 simp only [arK,List.mem_cons,jP,List.not_mem_nil,or_false] at q;omega
theorem ZBl (r':AR):(QP st lv b r').A.length=st.A.length:=ZXq _ _ _
theorem Has.le (h:Has st lv b r):lv<=st.A.length:=St.get_le h.h5
theorem Has.push (h:Has st lv b r) {A:List (Bool × List Blk)} {ro:Bool} {L:List Blk} (hA:A=st.ps):Has ⟨A,ro,L⟩ lv b r:=.of_cl (h.cl.push hA)
theorem YV {A:List (Bool × List Blk)} {ro:Bool} {L:List Blk} (hA:A=st.ps) (hl:lv<=st.A.length) {r':AR}:QP ⟨A,ro,L⟩ lv b r'=⟨(QP st lv b r').ps,ro,L⟩:=by
 refine ZbB hA (fun k hk=>?_)
 simp only [arK,List.mem_cons,List.not_mem_nil,or_false] at hk
 rcases hk with rfl|rfl|rfl|rfl|rfl|rfl<;>exact hl
theorem Zg2 (h:Has st lv b r) (s g:Nat) (x:Nd):ZAp st lv b r s g x=QP st lv b (r.alloc s g x):=by
 have e:∀ X Y,ZAp X lv b r s g x=Y->X=st->ZAp st lv b r s g x=Y:=fun X Y h1 h2=>by rw [<- h2];exact h1
 refine e (QP st lv b r) _ ?_ h.same;unfold ZAp Qt QP;rw [ZBX (j:=3) (ZQH lv b) rfl rfl,ZBX (j:=0) (ZQH lv b) rfl rfl,ZBX (j:=4) (ZQH lv b) rfl rfl,ZBX (j:=5) (ZQH lv b) rfl rfl];rfl
end
theorem YE {O:Orc} {k:List Fr} {Q:Jv} {e:Env} {st:St} {keep:List Nat} {is:List PI} {d:Nat} {α:Type} {f:α->AV} {l:List α} {w:Nat} {x i:Opd} {n:Int} {a:α} (hx:Zc e x=some (.lit (l.map f))) (hi:Zc e i=some (.int .i64 n)) (ha:0<=n/\l[n.toNat]?=some a) (hw:∀ a,(f a).wide=some w)
 (h:Is O is keep k Q ((d,.lptr (f a) 0)::e) st):Is O (⟨some d,none,false,.ixS w x i⟩::is) keep k Q e st:=by
 have hlt:=(List.getElem?_eq_some_iff.1 ha.2).1
 refine Yx hx hi (by omega) hw (fun b hb=>?_)
 rw [ha.2] at hb;rw [<- Option.some.inj hb];exact h
theorem ZjH {st:St} {lv b:Nat} {r:AR} (h:Has st lv b r) {k s g:Nat} (hc:CanTake r k s g) (n:Nat) (ks:List Kid) (hx:NdOk ⟨n+1,[],some ks⟩) (hL:Zkz r.nodes n ks) :
 S Tb JZ [.ptr lv (b+5) 0 0 0,Nd.av ⟨n+1,[],some ks⟩] st=some (.tup [.int .u64 ((g*65536+s:Nat):Int),.int .i64 0],ZAp st lv b r s g ⟨n+1,[],some ks⟩):=by
 refine Xw rfl (fun A hA=>?_)
 have hN:=fun st=>ZXt ⟨n+1,[],some ks⟩ hx st
 have hk4:ks.length<=4:=hx.len
 have hn15:n<=15:=by
  rcases hx with hl|⟨m,l,hi⟩
  ·have:=hl.h;simp at this
  ·have h1:=hi.n15
   have h2:=congrArg Nd.h hi.eq
   simp only at h2
   omega
 simp only [Nd.av,slV] at hN ⊢
 have g5:=fun L=>ZU hA (ro:=false) (L:=L) h.h5
 have g4:=fun L=>ZU hA (ro:=false) (L:=L) h.h4
 unfold AR.b5 at g5;unfold AR.b4 at g4
 repeat' (first|refine ZE ?_|refine ZD ?_|refine ZF rfl ?_|refine ZQ rfl rfl ?_|refine ZP rfl rfl rfl rfl ?_|refine ZA rfl ?_|refine ZC ?_|refine QU rfl ?_|(refine Zk rfl rfl (fun _=>?_) (fun _=>?_)<;>try (exfalso;omega))|refine ZH rfl ?_|refine JA rfl rfl rfl rfl ?_|refine Za rfl rfl rfl ?_|refine ZB rfl rfl rfl (hN _) ?_|refine ZI ?_|refine ZL ?_)
 all_goals try (exfalso;omega)
 have hle:=St.get_le h.h3
 refine Z2 (α:=Nat × List Blk) (fun p=>[(0,.ptr lv (b+5) 0 0 0),(3,.ptr A.length 0 0 0 0),(23,.lit (ks.map Kid.av)),(24,.int .i64 ks.length),(25,.int .i64 p.1)]) (fun p=>⟨A,false,.arr 3 0 [.agg [.int .i64 ((n+1:Nat):Int),.str [],.lit (ks.map Kid.av)]]::p.2⟩) (fun p=>p.1<=ks.length) (fun p=>ks.length-p.1) (0,[]) rfl rfl (by simp) ?_
 rintro ⟨i,G⟩ hi
 simp only at hi ⊢
 rcases Nat.lt_or_ge i ks.length with hlt|hge
 ·obtain ⟨kd,hk'⟩:∃ k,ks[i]?=some k:=⟨ks[i]'(by omega),by simp [hlt]⟩
  obtain ⟨y,y1,y2,y3,y4⟩:=hL kd (jM hk')
  have hlk:=fun L z=>ZbD (g4 L) y1 z
  have hMe:=fun st=>ZKP y y2 st
  have hk1:0<=((i:Nat):Int)/\ks[((i:Nat):Int).toNat]?=some kd:=⟨by omega,by rw [show ((i:Nat):Int).toNat=i by omega];exact hk'⟩
  rw [y4] at hMe;obtain ⟨yh,yt,yk⟩:=y
  simp only at y3
  subst y3
  cases yk
  all_goals simp only [Nd.av,slV,Mea.av] at *
  all_goals repeat' (first|refine YE rfl rfl hk1 (fun _=>rfl) ?_|refine ZE ?_|refine ZD ?_|refine ZF rfl ?_|refine ZQ rfl rfl ?_|refine ZP rfl rfl rfl rfl ?_|refine QE rfl ?_|refine Zo rfl rfl rfl rfl ?_|refine Zs rfl rfl ?_|refine ZA rfl ?_|refine ZC ?_|refine Zz rfl rfl ?_|refine JF rfl rfl rfl ?_|refine QM rfl rfl ?_|(refine Zh rfl rfl (fun _=>?_) (fun _=>?_)<;>try (exfalso;omega))|(refine Zk rfl rfl (fun _=>?_) (fun _=>?_)<;>try (exfalso;omega))|refine ZV rfl ?_|refine ZH rfl ?_|refine Jc rfl rfl ?_|refine Zm rfl rfl (by omega) ?_|refine JR rfl rfl (by omega) ?_|refine Zw rfl rfl rfl ?_|refine Yf rfl rfl rfl rfl rfl rfl ?_|refine Z9 rfl (g5 _) rfl rfl ?_|refine Ye rfl rfl (hlk _ _) ?_|refine ZB rfl rfl rfl (hMe _) ?_|refine ZoC rfl rfl rfl ?_|refine ZoD rfl rfl rfl ?_|(refine ZH9 rfl rfl (Zmv _ _ _ _ _ _) (fun _=>?_) (fun _=>?_))|refine ZI ?_|refine ZS ?_|refine ZL ?_|refine ZO ?_|refine Zd ?_|refine Zy ?_|refine QX ?_|refine QH ?_|refine Zgc ?_)
  all_goals try (exfalso;omega)
  all_goals first|exact ⟨(i+1,G++[_]++[_]++[_]),⟨rfl,rfl⟩,by simp only;omega,by simp only;omega⟩|exact absurd ⟨rfl,rfl,rfl⟩ ‹_›
 ·obtain rfl:i=ks.length:=by omega
  have hTk:=fun L=>Zkw (st:=⟨A,false,L⟩) ⟨X4 hA hle h.wr,ZU hA h.h0,ZU hA h.h1,ZU hA h.h2,ZU hA h.h3,ZU hA h.h4,ZU hA h.h5⟩ hc.n hc.blk hc.st hc.s16 hc.gen ⟨hc.g1,hc.g2⟩ hc.big
  repeat' (first|refine ZE ?_|refine ZD ?_|refine ZF rfl ?_|refine ZQ rfl rfl ?_|refine ZA rfl ?_|refine ZC ?_|refine Zz rfl rfl ?_|(refine Zh rfl rfl (fun _=>?_) (fun _=>?_)<;>try (exfalso;omega))|refine ZH rfl ?_|refine Z9 rfl (g5 _) rfl rfl ?_|refine Zu ?_|refine Ze ?_|refine Zb rfl ?_|refine Zt ?_)
  all_goals try (exfalso;omega)
  refine ZB rfl rfl rfl (hTk _) ?_;rw [ZbI hA hle];obtain ⟨A1,hA1⟩:∃ A1,A1=(Qt st lv b r s).A++[((Qt st lv b r s).ro,(Qt st lv b r s).L)]:=⟨_,rfl⟩;rw [<- hA1]
  have hlen:A.length=A1.length:=by rw [hA,hA1,lL,lL,Zky];rfl
  rw [hlen];refine ZF rfl ?_;refine Zs rfl rfl ?_;refine Zs rfl rfl ?_;refine ZF rfl ?_;refine ZF rfl ?_;refine ZA rfl ?_;refine ZC ?_;refine ZE ?_;refine ZE ?_;refine ZD ?_;refine ZF rfl ?_
  refine Zk rfl rfl (fun q=>absurd rfl q) (fun _=>?_)
  refine ZA rfl ?_;refine ZC ?_;refine ZH rfl ?_;refine ZI ?_;refine ZC ?_
  have:=ZbJ h hc ⟨n+1,[],some ks⟩ (.lit (ks.map Kid.av)) rfl A1 G hA1 (fun L=>Zdg ks (by omega) _)
  exact this
structure AROk (r:AR):Prop where
 nb:r.n<=r.blk.length
 n16:r.states.length<=16384
 nn:r.n<=r.states.length
 gl:r.gens.length=r.states.length
 stk:∀ i,i<r.n->∃ s:Nat,r.blk[i]?=some (s:Int)/\s<r.states.length/\r.states[s]?=some 0
 nd:∀ i j,i<r.n->j<r.n->r.blk[i]?=r.blk[j]?->i=j
 gen:∀ s,s<r.states.length->∃ g:Nat,r.gens[s]?=some (g:Int)/\1<=g/\(g:Int)<=r.most
 most:r.most<=4294967295
 key:∀ h x,lk r.nodes h=some x->∃ s g:Nat,h=g*65536+s/\s<r.states.length/\r.states[s]?=some 1/\r.gens[s]?=some (g:Int)
 al:0<=r.allocs/\r.allocs+r.n<=r.frees+r.slots
 fr:0<=r.frees/\r.frees<=900000
 sl:r.slots<=16384
def AR.slot (r:AR):Nat:=((r.blk[r.n-1]?).getD 0).toNat
def AR.gen1 (r:AR):Nat:=((r.gens[r.slot]?).getD 0).toNat
def AR.next (r:AR):Nat:=r.gen1*65536+r.slot
def AR.add (r:AR) (x:Nd):AR:=r.alloc r.slot r.gen1 x
theorem AROk.top {r:AR} (h:AROk r) (hn:0<r.n):r.blk[r.n-1]?=some (r.slot:Int)/\r.slot<r.states.length/\r.states[r.slot]?=some 0/\r.gens[r.slot]?=some (r.gen1:Int)/\1<=r.gen1/\(r.gen1:Int)<=r.most:=by
 obtain ⟨s,h1,h2,h3⟩:=h.stk (r.n-1) (by omega)
 have e1:r.slot=s:=by unfold AR.slot;rw [h1];simp
 obtain ⟨g,g1,g2,g3⟩:=h.gen s h2
 have e2:r.gen1=g:=by unfold AR.gen1;rw [e1,g1];simp
 rw [e2,e1];exact ⟨h1,h2,h3,g1,g2,g3⟩
theorem AROk.can {r:AR} (h:AROk r) (hn:0<r.n):CanTake r (r.n-1) r.slot r.gen1:=by
 obtain ⟨h1,h2,h3,h4,h5,h6⟩:=h.top hn
 have:=h.n16
 have:=h.nn
 have:=h.most
 have:=h.al
 have:=h.fr
 have:=h.sl
 refine ⟨by omega,h1,h2,by omega,h4,h5,by omega,by omega,?_,by omega⟩
 cases hk:lk r.nodes (r.gen1*65536+r.slot) with
 | none=>rfl
 | some x =>
  obtain ⟨s,g,k1,k2,k3,k4⟩:=h.key _ _ hk
  have:s=r.slot:=by omega
  subst this;rw [h3] at k3
  simp at k3
theorem AROk.add {r:AR} (h:AROk r) (hn:0<r.n) (x:Nd):AROk (r.add x):=by
 obtain ⟨h1,h2,h3,h4,h5,h6⟩:=h.top hn;have e1:(r.add x).n=r.n-1:=rfl;have e2:(r.add x).states=r.states.set r.slot 1:=rfl;have e3:(r.add x).nodes=r.nodes++[(r.gen1*65536+r.slot,x.copy)]:=rfl;have e4:(r.add x).blk=r.blk:=rfl;have e5:(r.add x).gens=r.gens:=rfl;have e6:(r.add x).most=r.most:=rfl;have e7:(r.add x).allocs=r.allocs+1:=rfl;have e8:(r.add x).frees=r.frees:=rfl;have e9:(r.add x).slots=r.slots:=rfl
 have hne:∀ i,i<r.n-1->r.blk[i]?≠some (r.slot:Int):=fun i hi q=>by
  have:=h.nd i (r.n-1) (by omega) (by omega) (by rw [q,h1])
  omega
 refine ⟨by rw [e1,e4];have:=h.nb;omega,by rw [e2,List.length_set];exact h.n16,by rw [e1,e2,List.length_set];have:=h.nn;omega,by rw [e5,e2,List.length_set];exact h.gl,?_,?_,?_,by rw [e6];exact h.most,?_,by rw [e7,e1,e8,e9];have:=h.al;omega,by rw [e8];exact h.fr,by rw [e9];exact h.sl⟩
 ·intro i hi
  rw [e1] at hi
  obtain ⟨s,k1,k2,k3⟩:=h.stk i (by omega)
  have:s≠r.slot:=fun q=>hne i hi (by rw [k1,q])
  exact ⟨s,k1,by rw [e2,List.length_set];exact k2,by rw [e2,jS (fun q=>this q.symm)];exact k3⟩
 ·intro i j hi hj hij
  rw [e1] at hi hj
  exact h.nd i j (by omega) (by omega) hij
 ·intro s hs
  rw [e2,List.length_set] at hs;exact h.gen s hs
 ·intro a y hy
  rw [e3,ZYC] at hy
  cases hk:lk r.nodes a with
  | some z =>
   obtain ⟨s,g,k1,k2,k3,k4⟩:=h.key a z hk
   have:s≠r.slot:=fun q=>by subst q;rw [h3] at k3;simp at k3
   exact ⟨s,g,k1,by rw [e2,List.length_set];exact k2,by rw [e2,jS (fun q=>this q.symm)];exact k3,by rw [e5];exact k4⟩
  | none =>
   rw [hk] at hy;simp only [Option.none_or,lk] at hy
   split at hy
   ·rename_i q
    exact ⟨r.slot,r.gen1,q.symm,by rw [e2,List.length_set];exact h2,by rw [e2,List.getElem?_set_self h2],by rw [e5];exact h4⟩
   ·simp at hy
theorem AROk.new {r:AR} (h:AROk r) (hn:0<r.n):lk r.nodes r.next=none:=(h.can hn).new
theorem ZF7 {r:AR} (h:AROk r) (hn:0<r.n) (x:Nd) (o:Nat):lk (r.add x).nodes o=if o=r.next then some x.copy else lk r.nodes o:=by
 have e3:(r.add x).nodes=r.nodes++[(r.next,x.copy)]:=rfl;rw [e3,ZYC]
 by_cases q:o=r.next
 ·rw [if_pos q,q,h.new hn];simp [lk]
 ·rw [if_neg q]
  cases lk r.nodes o with
  | some y=>rfl
  | none=>simp only [Option.none_or,lk];rw [if_neg (fun w=>q w.symm)]
theorem Zk0 {st:St} {lv b:Nat} {r:AR} (h:Has st lv b r) (ho:AROk r) (hn:0<r.n) {x:Nd} (hx:NdOk x) (hxk:x.h=0->x.kids=none) (hL:∀ k∈x.ks,∃ y,lk r.nodes k.at_=some y/\NdOk y/\y.h+1=x.h/\y.mea=k.m) :
 S Tb JZ [.ptr lv (b+5) 0 0 0,x.av] st=some (.tup [.int .u64 r.next,.int .i64 0],QP st lv b (r.add x)):=by
 have hc:=ho.can hn;unfold AR.add AR.next;rw [<- Zg2 h]
 rcases hx with hl|⟨n,ks,hi⟩
 ·obtain ⟨xh,xt,xk⟩:=x
  have hh:xh=0:=hl.h;subst hh
  have:=hxk rfl
  simp only at this
  subst this;exact Zg0 h hc xt ⟨hl.lo,hl.hi⟩
 ·have e:=hi.eq
  subst e
  refine ZjH h hc n ks (.inr ⟨n,ks,hi⟩) (fun k hk=>?_)
  obtain ⟨y,y1,y2,y3,y4⟩:=hL k hk
  exact ⟨y,y1,y2,by simpa using y3,y4⟩
structure HasR (st:St) (lv b:Nat) (r:AR):Prop where
 h0:st.get lv b=some r.b0
 h1:st.get lv (b+1)=some r.b1
 h2:st.get lv (b+2)=some r.b2
 h3:st.get lv (b+3)=some (r.b3 lv b)
 h4:st.get lv (b+4)=some r.b4
 h5:st.get lv (b+5)=some (r.b5 lv b)
theorem Has.r {st:St} {lv b:Nat} {r:AR} (h:Has st lv b r):HasR st lv b r:=⟨h.h0,h.h1,h.h2,h.h3,h.h4,h.h5⟩
theorem HasR.push {st:St} {lv b:Nat} {r:AR} {A:List (Bool × List Blk)} {ro:Bool} {L:List Blk} (hA:A=st.A++[(st.ro,st.L)]) (h:HasR st lv b r):HasR ⟨A,ro,L⟩ lv b r :=
 ⟨ZU hA h.h0,ZU hA h.h1,ZU hA h.h2,ZU hA h.h3,ZU hA h.h4,ZU hA h.h5⟩
theorem HasR.allRo {st:St} {lv b:Nat} {r:AR} (h:HasR st lv b r):HasR st.allRo lv b r :=
 ⟨by rw [Jo];exact h.h0,by rw [Jo];exact h.h1,by rw [Jo];exact h.h2,by rw [Jo];exact h.h3,by rw [Jo];exact h.h4,by rw [Jo];exact h.h5⟩
theorem HasR.rd {st:St} {lv b:Nat} {r:AR} (h:HasR st lv b r):Rd st lv (b+5) r.nodes:=⟨_,_,_,_,_,_,h.h5,h.h4⟩
theorem ZbL {n i:Nat} (f:Nat->AV) (v:AV):((List.range n).map f).set i v=(List.range n).map fun j=>if j=i then v else f j:=by
 apply List.ext_getElem
 ·simp
 ·intro j hj hj'
  simp only [List.getElem_set,List.getElem_map,List.getElem_range]
  by_cases q:i=j
  ·subst q;simp
  ·rw [if_neg q,if_neg (fun w=>q w.symm)]
theorem ZbM {n k:Nat} (f:Nat->AV) (h:k<n):((List.range n).map f)[0+((k:Nat):Int).toNat]?=some (f k):=by
 rw [show 0+((k:Nat):Int).toNat=k by omega]
 simp [h]
def ZBZ (l:List Int) (i k:Nat):Int:=if k<i\/l.length<k+i+1 then (l[l.length-1-k]?).getD 0 else (l[k]?).getD 0
theorem ZoE (l:List Int):(List.range l.length).map (fun k=>AV.int .i64 (ZBZ l 0 k))=l.map (.int .i64):=by
 apply List.ext_getElem
 ·simp
 ·intro k h1 h2
  simp only [List.length_map,List.length_range] at h1;simp only [List.getElem_map,List.getElem_range,ZBZ,Nat.not_lt_zero,false_or]
  rw [if_neg (by omega),jE h1];rfl
theorem ZoF (l:List Int) {i:Nat} (h:l.length<=2*i+1):(List.range l.length).map (fun k=>AV.int .i64 (ZBZ l i k))=l.reverse.map (.int .i64):=by
 apply List.ext_getElem
 ·simp
 ·intro k h1 h2
  simp only [List.length_map,List.length_range] at h1;simp only [List.getElem_map,List.getElem_range,ZBZ,List.getElem_reverse]
  split
  ·rw [jE (by omega)];rfl
  ·have:l.length-1-k=k:=by omega
   rw [jE h1];simp only [this,Option.getD_some]
theorem ZjI (l:List Int) {i:Nat} (h:2*i+1<l.length) :
 (((List.range l.length).map (fun k=>AV.int .i64 (ZBZ l i k))).set i (.int .i64 (ZBZ l i (l.length-1-i)))).set (l.length-1-i) (.int .i64 (ZBZ l i i))=(List.range l.length).map (fun k=>AV.int .i64 (ZBZ l (i+1) k)):=by
 rw [ZbL,ZbL]
 apply List.map_congr_left
 intro k hk;rw [List.mem_range] at hk
 by_cases q:k=l.length-1-i
 ·rw [if_pos q]
  simp only [ZBZ]
  rw [if_neg (by omega),if_pos (by omega),q]
  rw [show l.length-1-(l.length-1-i)=i by omega]
 ·rw [if_neg q]
  by_cases q2:k=i
  ·rw [if_pos q2]
   simp only [ZBZ]
   rw [if_neg (by omega),if_pos (by omega),q2]
  ·rw [if_neg q2]
   simp only [ZBZ]
   by_cases q3:k<i\/l.length<k+i+1
   ·rw [if_pos q3,if_pos (by omega)]
   ·rw [if_neg q3,if_neg (by omega)]
def AR.free (r:AR):List Int:=(r.blk.take r.n).reverse
theorem AR.free_len {r:AR} (h:r.n<=r.blk.length):r.free.length=r.n:=by simp [AR.free];omega
theorem ZoG {st:St} {lv b:Nat} {r:AR} (h:HasR st lv b r) (hn:r.n<=r.blk.length) (hb:r.n<65536):S Tb XU [.ptr lv (b+3) 0 0 0] st=some (.lit (r.free.map (.int .i64)),st):=by
 refine QJ rfl (fun A hA=>?_)
 have g3:=fun L=>ZU hA (ro:=false) (L:=L) h.h3
 have g1:=fun L=>ZU hA (ro:=false) (L:=L) h.h1
 unfold AR.b3 at g3;unfold AR.b1 at g1
 have hl:(r.blk.take r.n).length=r.n:=by simp;omega
 have hel:∀ L,elems ⟨A,false,L⟩ (.ref lv (b+1) r.ver 0 r.n)=some ((r.blk.take r.n).map (.int .i64)):=fun L=>by
  simp only [elems,g1,ZE9,true_and,Nat.zero_add,List.length_map,if_pos hn,List.drop_zero,List.map_take]
 unfold AR.free
 generalize hz:r.blk.take r.n=l at *
 repeat' (first|refine ZE ?_|refine ZD ?_|refine ZF rfl ?_|refine ZQ rfl rfl ?_|refine ZA rfl ?_|refine ZC ?_|refine Zz rfl rfl ?_|refine YB rfl ?_|refine ZH rfl ?_|refine JR rfl rfl (by omega) ?_|refine JA rfl rfl rfl rfl ?_|refine ZJR rfl rfl (by omega) (by decide) rfl ?_|refine Z9 rfl (g3 _) rfl rfl ?_|refine Zmr (ys:=l.map (.int .i64)) rfl rfl (hel _) rfl (by simp) (by simp [hl]) (Zix _ _) (ZQC _ _ _ _ _) ?_|refine ZI ?_|refine ZL ?_)
 refine Z2 (α:=Nat) (fun i=>[(3,.ref A.length 0 0 0 r.n),(4,.int .i64 i),(5,.int .i64 ((l.length:Int)-1-i))]) (fun i=>⟨A,false,[.arr 1 0 ((List.range l.length).map fun k=>AV.int .i64 (ZBZ l i k))]⟩) (fun i=>2*i<=l.length+1) (fun i=>l.length+1-2*i) 0 ?_ ?_ (by simp) ?_
 ·simp [hl]
 ·rw [ZoE];rfl
 intro i hi;replace hi:2*i<=l.length+1:=hi
 rcases Nat.lt_or_ge (2*i+1) l.length with hlt|hge
 ·have hj:(l.length:Int)-1-i=((l.length-1-i:Nat):Int):=by omega
  have q1:=ZbM (n:=l.length) (k:=i) (fun k=>AV.int .i64 (ZBZ l i k)) (by omega)
  have q2:=ZbM (n:=l.length) (k:=l.length-1-i) (fun k=>AV.int .i64 (ZBZ l i k)) (by omega)
  have q3:(((List.range l.length).map (fun k=>AV.int .i64 (ZBZ l i k))).set (0+((i:Nat):Int).toNat) (.int .i64 (ZBZ l i (l.length-1-i))))[0+((l.length-1-i:Nat):Int).toNat]?=some (.int .i64 (ZBZ l i (l.length-1-i))):=by
   rw [jS (by omega)];exact q2
  rw [hj]
  repeat' (first|refine ZE ?_|refine ZD ?_|refine ZF rfl ?_|refine ZA rfl ?_|refine ZC ?_|(refine Zh rfl rfl (fun _=>?_) (fun _=>?_)<;>try (exfalso;omega))|refine ZV rfl ?_|refine Zm rfl rfl (by omega) ?_|refine JR rfl rfl (by omega) ?_|refine ZUC rfl rfl (by omega) rfl ?_|refine ZP rfl rfl q2 rfl ?_|refine ZP rfl rfl q1 rfl ?_|refine Qo rfl rfl rfl q1 rfl rfl ?_|refine Qo rfl rfl rfl q3 rfl rfl ?_|refine ZI ?_|refine ZL ?_|refine Zy ?_|refine QH ?_)
  refine ⟨i+1,⟨?_,?_⟩,by omega,by omega⟩
  ·rw [show ((l.length-1-i:Nat):Int)-1=(l.length:Int)-1-((i+1:Nat):Int) by omega];rfl
  ·rw [<- ZjI l hlt]
   rw [show 0+((i:Nat):Int).toNat=i by omega,show 0+((l.length-1-i:Nat):Int).toNat=l.length-1-i by omega]
   rfl
 ·repeat' (first|refine ZE ?_|refine ZD ?_|refine ZF rfl ?_|refine ZA rfl ?_|refine ZC ?_|(refine Zh rfl rfl (fun _=>?_) (fun _=>?_)<;>try (exfalso;omega))|refine ZH rfl ?_|refine ZS ?_|refine Zu ?_|refine ZO ?_|refine Ze ?_|refine Zb rfl ?_|refine Zt ?_)
  all_goals try (exfalso;omega)
  refine ZDa (es:=l.reverse.map (.int .i64)) hA (.inr rfl) rfl (by rw [ZoF l (by omega)];rfl) (by simp;omega) (by intro v hv;obtain ⟨x,_,rfl⟩:=List.mem_map.1 hv;rfl) ?_
  rfl
def Yl (l:List Int) (s:Int) (n:Nat):List Nat:=(List.range n).filter fun i=>l[i]? == some s
def ZBm (l:List Int) (s:Int):List Nat:=Yl l s l.length
def ZQz (n:Nat):AV:=.int .i64 n
theorem Zdm (l:List Int) (s:Int) (n:Nat):Yl l s (n+1)=Yl l s n++if l[n]?=some s then [n] else []:=by
 rw [Yl,List.range_succ,List.filter_append,<- Yl]
 congr 1
 by_cases q:l[n]?=some s
 ·rw [if_pos q];simp [q]
 ·rw [if_neg q];simp [q]
theorem ZHv (l:List Int) (s:Int) (n:Nat):(Yl l s n).length<=n:=by
 have:=List.length_filter_le (fun i=>l[i]? == some s) (List.range n)
 rw [List.length_range] at this;exact this
theorem Zh3 {st:St} {lv b:Nat} {r:AR} (h:HasR st lv b r) (hb:r.states.length<=16384) (s:Int):S Tb Jy [.ptr lv (b+3) 0 0 0,.int .u8 s] st=some (.lit ((ZBm r.states s).map ZQz),st):=by
 refine QJ rfl (fun A hA=>?_)
 have g3:=fun L=>ZU hA (ro:=false) (L:=L) h.h3
 have g0:=fun L=>ZU hA (ro:=false) (L:=L) h.h0
 unfold AR.b3 at g3;unfold AR.b0 at g0
 have hwi:∀ L,wIs 1 0 (St.get ⟨A,false,L⟩ lv b)=true:=fun L=>by rw [g0];rfl
 repeat' (first|refine ZE ?_|refine ZD ?_|refine ZF rfl ?_|refine ZQ rfl rfl ?_|refine ZA rfl ?_|refine ZC ?_|refine Zz rfl rfl ?_|refine YB rfl ?_|refine ZH rfl ?_|refine JA rfl rfl rfl rfl ?_|refine ZDY rfl ?_|refine Z9 rfl (g3 _) rfl rfl ?_|refine ZI ?_|refine ZL ?_)
 refine Z2 (α:=Nat) (fun i=>[(1,.int .u8 s),(5,.ref A.length 0 (Yl r.states s i).length 0 (Yl r.states s i).length),(14,.ref lv b 0 0 r.states.length),(15,.int .i64 r.states.length),(16,.int .i64 i)]) (fun i=>⟨A,false,[.arr 1 (Yl r.states s i).length ((Yl r.states s i).map ZQz)]⟩) (fun i=>i<=r.states.length) (fun i=>r.states.length-i) 0 rfl rfl (by simp) ?_
 intro i hi;replace hi:i<=r.states.length:=hi
 rcases Nat.lt_or_ge i r.states.length with hlt|hge
 ·obtain ⟨x,hx⟩:∃ x,r.states[i]?=some x:=⟨r.states[i]'hlt,by simp [hlt]⟩
  have q1:(r.states.map (.int .u8))[0+((i:Nat):Int).toNat]?=some (AV.int .u8 x):=by
   rw [show 0+((i:Nat):Int).toNat=i by omega,jG,hx];rfl
  have hs:=Zdm r.states s i;have hl:=ZHv r.states s i;rw [hx] at hs
  have hl2:((Yl r.states s i).map ZQz).length+[AV.int .i64 (i:Int)].length<4294967296:=by simp;omega
  have hl3:(Yl r.states s i).length=((Yl r.states s i).map ZQz).length:=by simp
  repeat' (first|refine ZCC rfl rfl rfl hl3 rfl rfl hl2 (by decide) ?_|refine ZE ?_|refine ZD ?_|refine ZF rfl ?_|refine ZA rfl ?_|refine ZC ?_|(refine Zh rfl rfl (fun _=>?_) (fun _=>?_)<;>try (exfalso;omega))|(refine Zp rfl rfl (fun _=>?_) (fun _=>?_)<;>try (exfalso;omega))|refine ZV rfl ?_|refine ZH rfl ?_|refine Zm rfl rfl (by omega) ?_|refine Qa rfl rfl rfl rfl ?_|refine ZBB rfl rfl (by omega) (hwi _) ?_|refine Z9 rfl (g0 _) q1 rfl ?_|refine ZI ?_|refine ZL ?_|refine Zy ?_|refine QH ?_)
  ·rename_i e
   subst e;rw [if_pos rfl] at hs
   refine ⟨i+1,⟨?_,?_⟩,by omega,by omega⟩
   ·rw [hs,lL];rfl
   ·rw [hs,List.map_append,lL];rfl
  ·rename_i e
   rw [if_neg (by simpa using e),lN] at hs
   exact ⟨i+1,⟨by rw [hs];rfl,by rw [hs]⟩,by omega,by omega⟩
 ·obtain rfl:i=r.states.length:=by omega
  repeat' (first|refine ZE ?_|refine ZD ?_|refine ZF rfl ?_|refine ZA rfl ?_|refine ZC ?_|(refine Zh rfl rfl (fun _=>?_) (fun _=>?_)<;>try (exfalso;omega))|refine ZH rfl ?_|refine ZS ?_|refine Zu ?_|refine ZO ?_|refine Ze ?_|refine Zb rfl ?_|refine Zt ?_)
  refine ZDa (es:=(ZBm r.states s).map ZQz) hA (.inr rfl) rfl rfl (by simp;rfl) (by intro v hv;obtain ⟨x,_,rfl⟩:=List.mem_map.1 hv;rfl) ?_
  rfl
theorem ZfV {st:St} {lv b:Nat} {r:AR} (h:HasR st lv b r) (hb:r.states.length<=16384):S Tb J4 [.ptr lv (b+3) 0 0 0] st=some (.lit ((ZBm r.states 2).map ZQz),st):=by
 refine QJ rfl (fun A hA=>?_)
 have hs:=fun L=>Zh3 (h.push hA (ro:=false) (L:=L)) hb 2
 repeat' (first|refine ZE ?_|refine ZD ?_|refine ZF rfl ?_|refine ZA rfl ?_|refine ZC ?_|refine ZB rfl rfl rfl (hs _) ?_|refine ZS ?_|refine ZO ?_)
 refine Zj hA (by first|exact .inl rfl|exact .inr rfl) rfl rfl rfl rfl ?_
 rfl
def AR.statsAV (r:AR):AV:=.agg [.int .i64 r.slots,.int .i64 r.n,.int .i64 r.nodes.length,.int .i64 (ZBm r.states 2).length,.int .i64 r.allocs,.int .i64 r.frees,.int .i64 r.stale]
theorem Zh4 {st:St} {lv b:Nat} {r:AR} (h:HasR st lv b r) (hn:r.n<=r.blk.length) (hb:r.states.length<=16384) (h6:r.n<65536):S Tb Xo [.ptr lv (b+5) 0 0 0] st=some (r.statsAV,st):=by
 refine QJ rfl (fun A hA=>?_)
 have g5:=fun L=>ZU hA (ro:=false) (L:=L) h.h5
 have g4:=fun L=>ZU hA (ro:=false) (L:=L) h.h4
 unfold AR.b5 at g5;unfold AR.b4 at g4
 have hF:=fun L=>ZoG (h.push hA (ro:=false) (L:=L)).allRo hn h6
 have hW:=fun L=>ZfV (h.push hA (ro:=false) (L:=L)).allRo hb
 repeat' (first|refine ZE ?_|refine ZD ?_|refine ZF rfl ?_|refine ZQ rfl rfl ?_|refine ZA rfl ?_|refine ZC ?_|refine Zz rfl rfl ?_|refine QU rfl ?_|refine ZH rfl ?_|refine Zn rfl rfl rfl ?_|refine JA rfl rfl rfl rfl ?_|refine Za rfl rfl rfl ?_|refine Zl rfl rfl rfl rfl rfl rfl ?_|refine Z9 rfl (g5 _) rfl rfl ?_|refine Ziy rfl (g4 _) ?_|refine Yp rfl rfl rfl (hF _) ?_|refine Yp rfl rfl rfl (hW _) ?_|refine ZI ?_|refine ZS ?_|refine ZO ?_)
 refine XR hA (by first|exact .inl rfl|exact .inr rfl) rfl rfl rfl rfl rfl ?_
 unfold AR.statsAV
 have e2:(r.nodes.map nodeAV).length=r.nodes.length:=List.length_map ..
 rw [<- AR.free_len hn,<- e2]
namespace Tr
mutual
def cnt:Tr->Nat
 | .mk o _ _ _ k=>(if o=0 then 1 else 0)+cntO k
def cntO:Option (List Tr)->Nat
 | none=>0
 | some l=>cntL l
def cntL:List Tr->Nat
 | []=>0
 | t::l=>t.cnt+cntL l
end
theorem cntL_append:∀ a b,cntL (a++b)=cntL a+cntL b
 | [],b=>by simp [cntL]
 | t::a,b=>by rw [lC,cntL,cntL,cntL_append a b];omega
theorem cntO_getD (k:Option (List Tr)):cntO k=cntL (k.getD []):=by cases k<;>rfl
end Tr
theorem ZQI {t:Tr} {c:Int} (hk:t.ks=[]) (hK:∀ st,S Tb Qe [t.av] st=some (.int .i64 c,st)) (st:St):S Tb ZBF [t.av] st=some (.int .i64 (if c=3\/c=4 then 1 else 0),st):=by
 obtain ⟨o,h,m,s,k⟩:=t
 obtain ⟨ka,hka,hka2⟩:∃ ka,Tr.avO k=ka/\(ka=.nils\/ka=.lit []):=by
  cases k with
  | none=>exact ⟨_,rfl,.inl rfl⟩
  | some l=>have:l=[]:=hk;subst this;exact ⟨_,rfl,.inr rfl⟩
 simp only [Tr.av,hka] at *
 refine QJ rfl (fun A hA=>?_)
 rcases hka2 with rfl|rfl
 all_goals repeat' (first|refine ZE ?_|refine ZD ?_|refine ZF rfl ?_|refine ZQ rfl rfl ?_|refine ZP rfl rfl rfl rfl ?_|refine QE rfl ?_|refine J1 rfl rfl ?_|refine Zo rfl rfl rfl rfl ?_|refine ZA rfl ?_|refine ZC ?_|refine ZAZ rfl rfl ?_|refine YA rfl ?_|(refine Zh rfl rfl (fun _=>?_) (fun _=>?_)<;>try (exfalso;omega))|(refine Zp rfl rfl (fun _=>?_) (fun _=>?_)<;>try (exfalso;omega))|refine ZV rfl ?_|refine ZH rfl ?_|refine Za rfl rfl rfl ?_|refine ZB rfl rfl rfl (hK _) ?_|refine Qh ?_|refine ZI ?_|refine ZS ?_|refine Zu ?_|refine ZL ?_|refine ZO ?_|refine Ze ?_|refine Zb rfl ?_)
 all_goals refine Zj hA (by first|exact .inl rfl|exact .inr rfl) rfl rfl rfl rfl ?_
 all_goals simp [*]
theorem Zm9 {l:List Tr} {t:Tr} (h:t∈l):t.cnt<=Tr.cntL l:=by
 induction l with
 | nil=>simp at h
 | cons u l ih =>
  rw [Tr.cntL]
  rcases List.mem_cons.1 h with rfl|h
  ·omega
  ·have:=ih h;omega
theorem ZM9 (l:List Tr) (i:Nat):Tr.cntL (l.take i)<=Tr.cntL l:=by
 have h:Tr.cntL l=Tr.cntL (l.take i)+Tr.cntL (l.drop i):=by rw [<- Tr.cntL_append,List.take_append_drop]
 omega
theorem Zo1 {N:ZJ} {t:Tr} (hv:Val N t):t.cnt<4294967296->∀ st,S Tb ZBF [t.av] st=some (.int .i64 t.cnt,st):=by
 induction hv with
 | @kept o h m k x h0 hx hok hh hm hk =>
  intro hc st
  have:=ZQI (t:=.mk o h m [] k) hk (fun st=>ZIC (.mk o h m [] k) ⟨h0,rfl,hk⟩ st) st
  rw [this]
  have e:(Tr.mk o h m [] k).cnt=0:=by rw [Tr.cnt,Tr.cntO_getD,hk,if_neg h0];rfl
  rw [e];rfl
 | @leaf s k h1 h2 hk =>
  intro hc st
  have:=ZQI (t:=.mk 0 0 .zero s k) hk (fun st=>ZID (.mk 0 0 .zero s k) ⟨rfl,rfl,rfl,h1,h2,hk⟩ st) st
  rw [this]
  have e:(Tr.mk 0 0 .zero s k).cnt=1:=by rw [Tr.cnt,Tr.cntO_getD,hk,if_pos rfl];rfl
  rw [e];rfl
 | @inner h l hh h2 h4 hl hb hv ih =>
  intro hc st
  have hK:=fun st=>ZF0 (.mk 0 (h+1) .zero [] (some l)) ⟨rfl,rfl,rfl,Nat.succ_le_succ (Nat.zero_le _),hh,h2,h4⟩ st
  have e:(Tr.mk 0 (h+1) .zero [] (some l)).cnt=1+Tr.cntL l:=by rw [Tr.cnt,if_pos rfl];rfl
  rw [e] at hc ⊢;simp only [Tr.av,Tr.avO,Tr.avL_map,Mea.zero] at hK ⊢
  refine QJ rfl (fun A hA=>?_)
  repeat' (first|refine ZE ?_|refine ZD ?_|refine ZF rfl ?_|refine ZQ rfl rfl ?_|refine ZP rfl rfl rfl rfl ?_|refine QE rfl ?_|refine Zo rfl rfl rfl rfl ?_|refine ZA rfl ?_|refine ZC ?_|refine QU rfl ?_|(refine Zp rfl rfl (fun _=>?_) (fun _=>?_)<;>try (exfalso;omega))|refine ZV rfl ?_|refine Za rfl rfl rfl ?_|refine ZB rfl rfl rfl (hK _) ?_|refine ZL ?_)
  all_goals try contradiction
  refine Z2 (α:=Nat × List Blk) (fun p=>[(3,.int .i64 ((1+Tr.cntL (l.take p.1):Nat):Int)),(16,.lit (l.map Tr.av)),(17,.int .i64 l.length),(18,.int .i64 p.1)])
   (fun p=>⟨A,false,.arr 7 0 [.agg [.int .u64 (0:Nat),.int .i64 ((h+1:Nat):Int),.int .i64 0,.int .i64 0,.int .i64 0,.str [],.lit (l.map Tr.av)]]::p.2⟩) (fun p=>p.1<=l.length) (fun p=>l.length-p.1) (0,[]) ?_ rfl (by simp) ?_
  ·simp [Tr.cntL]
  rintro ⟨i,G⟩ hi
  simp only at hi ⊢
  have h6:=ZM9 l i;have h7:=ZM9 l (i+1)
  repeat' (first|refine ZE ?_|refine ZD ?_|refine ZF rfl ?_|refine ZA rfl ?_|refine ZC ?_|(refine Zh rfl rfl (fun _=>?_) (fun _=>?_)<;>try (exfalso;omega))|refine ZV rfl ?_|refine ZH rfl ?_|refine Zw rfl rfl rfl ?_|refine Yx rfl rfl (by omega) Z5 (fun _ _=>?_)|refine QM rfl (Zq _) ?_|refine JF rfl rfl (Zq _) ?_|refine Yf rfl rfl rfl (Z8 _ _ _) (QY _ _) rfl ?_|refine ZI ?_|refine ZS ?_|refine Zu ?_|refine ZL ?_|refine ZO ?_|refine Ze ?_|refine Zb rfl ?_|refine Zt ?_)
  ·rename_i t ht
   have ht2:l[i]?=some t:=ht;have hm:=jM ht2
   have h5:=ih t hm (by have:=Zm9 hm;omega)
   rw [Zg ht2,Tr.cntL_append,Tr.cntL,Tr.cntL] at h7
   repeat' (first|refine ZD ?_|refine ZF rfl ?_|refine ZA rfl ?_|refine ZC ?_|refine Zm rfl rfl (by omega) ?_|refine ZB rfl rfl (by first|rfl|(simp only [lE,lN,lC,ZZ,ZW,ZX];first|done|rfl)) (h5 _) ?_|refine Zy ?_|refine QH ?_)
   refine ⟨(i+1,G++[.arr 7 0 [t.av]]),⟨?_,rfl⟩,by simp only;omega,by simp only;omega⟩
   simp only [Zg ht2,Tr.cntL_append,Tr.cntL]
   rw [show ((1+Tr.cntL (l.take i):Nat):Int)+(t.cnt:Int)=((1+(Tr.cntL (l.take i)+(t.cnt+0)):Nat):Int) by omega]
   rfl
  ·have hi':i=l.length:=by omega
   subst hi';rw [List.take_length]
   refine Zj hA (by first|exact .inl rfl|exact .inr rfl) rfl rfl rfl rfl ?_
   rfl
end Go.Q15
namespace Go.Q15
open Go Go.QAbs
set_option maxRecDepth 100000
set_option maxHeartbeats 8000000
theorem ZfW {b lv i1 i2 i3:Nat} {f:FuncId} (st:St) (h:lv<b):ZY QD b st (.func (.func f) [] [.ptr lv i1 0 0 0,.ptr lv i2 0 0 0,.ptr lv i3 0 0 0])=some (.func (.func f) [] [.ptr lv i1 0 0 0,.ptr lv i2 0 0 0,.ptr lv i3 0 0 0],st):=by
 simp only [ZY,QD,Zdy,if_true,mapSt,oS,if_pos h,Xl]
theorem ZE4 {L T:List Blk} {i:Nat} {b:Blk} (h:L[i]?=some b):(L++T)[i]?=some b:=by
 rw [jL (List.getElem?_eq_some_iff.1 h).1];exact h
section
variable {O:Orc} {k:List Fr} {Q:Jv} {e:Env} {A:List (Bool × List Blk)} {L0 T:List Blk} {keep:List Nat} {is:List PI} {d:Nat}
theorem ZYD {a b:Opd} {agg:Bool} {n ix ver i o vb ib ob w:Nat} {es:List AV} {x v:AV} (ha:Zc e a=some (.ptr A.length (L0.length+ix) ver i o)) (hb:Zc e b=some (.ptr A.length (L0.length+ix) vb ib ob))
 (hg:T[ix]?=some (Blk.arr w ver es)) (hx:es[i]?=some x) (hv:Qm x agg o n=some v) (h:Is O is keep k Q ((d,v)::e) ⟨A,false,L0++T⟩):Is O (⟨some d,none,false,.w (.only b) (.ld agg n a)⟩::is) keep k Q e ⟨A,false,L0++T⟩ :=
 Ziz ha hb (by rw [Q2];exact hg) hx hv h
theorem Zg3 {w m:Nat} (hm:ZYa T=some m) (h:Is O is keep k Q ((d,.ptr A.length (L0.length+(m+1)) 0 0 0)::e) ⟨A,false,L0++(T++[Blk.arr w 0 [],Blk.arr 1 0 [.ref A.length (L0.length+m) 0 0 0]])⟩):Is O (⟨some d,none,false,.boxnil w⟩::is) keep k Q e ⟨A,false,L0++T⟩:=by
 refine ZKN ?_;rw [lL,ZBD hm,List.append_assoc];exact h
theorem ZfX {w m:Nat} {z v:AV} {o:Opd} (ho:Zc e o=some v) (hw:v.wide=some w) (hm:ZYa T=some m) (h:Is O is keep k Q ((d,.ref A.length (L0.length+m) 0 0 1)::e) ⟨A,false,L0++(T++[Blk.arr w 0 [v]])⟩):Is O (⟨some d,none,false,.bslice true w [z] [(0,o)]⟩::is) keep k Q e ⟨A,false,L0++T⟩:=by
 refine Zho ho hw ?_;rw [lL,ZBD hm,List.append_assoc];exact h
end
theorem Zg4 {A:List (Bool × List Blk)} {L0 T:List Blk} {ix ver w n:Nat} {ys:List AV} (hg:T[ix]?=some (Blk.arr w ver ys)) (hn:n=ys.length):elems ⟨A,false,L0++T⟩ (.ref A.length (L0.length+ix) ver 0 n)=some ys:=by
 subst hn;simp only [elems,St.get_cur,Q2,hg,vis,ZE9,true_and,Nat.zero_add,Nat.le_refl,if_true,List.drop_zero,List.take_length]
structure Frm (L:List Blk) (X:Nat->Prop) (L':List Blk) (X':Nat->Prop):Prop where
 len:L.length<=L'.length
 old:∀ i,i<L.length->¬ X i->L'[i]?=L[i]?
 own:∀ i,X' i->X i\/L.length<=i
theorem Frm.trans {L0 L1 L2:List Blk} {X0 X1 X2:Nat->Prop} (h:Frm L0 X0 L1 X1) (g:Frm L1 X1 L2 X2):Frm L0 X0 L2 X2:=by
 have h1:=h.len;have h2:=g.len
 refine ⟨by omega,fun i hi hn=>?_,fun i hi=>?_⟩
 ·rw [g.old i (by omega) (fun q=>by rcases h.own i q with w|w;exact hn w;omega),h.old i hi hn]
 ·rcases g.own i hi with w|w
  ·exact h.own i w
  ·exact .inr (by omega)
theorem Frm.app {L:List Blk} {X:Nat->Prop} (T:List Blk):Frm L X (L++T) X :=
 ⟨by simp,fun i hi _=>jL hi,fun i h=>.inl h⟩
def Fx (L:List Blk) (X:Nat->Prop) (F:List (Nat × Blk)):Prop:=∀ p∈F,L[p.1]?=some p.2/\¬ X p.1
theorem Fx.frm {L L':List Blk} {X X':Nat->Prop} {F:List (Nat × Blk)} (h:Fx L X F) (g:Frm L X L' X'):Fx L' X' F:=by
 intro p hp;obtain ⟨h1,h2⟩:=h p hp;have hlt:=(List.getElem?_eq_some_iff.1 h1).1
 exact ⟨by rw [g.old _ hlt h2];exact h1,fun q=>by rcases g.own _ q with w|w;exact h2 w;omega⟩
theorem Fx.append {L:List Blk} {X:Nat->Prop} {F G:List (Nat × Blk)} (h:Fx L X F) (g:Fx L X G):Fx L X (F++G):=fun p hp=>by
 rcases List.mem_append.1 hp with q|q
 ·exact h p q
 ·exact g p q
def Rx (L:List Blk) (X:Nat->Prop) (R:List (Nat × Ro)):Prop:=Fx L X (R.map fun p=>(p.1,Blk.arr 5 0 [p.2.av]))
theorem Rx.frm {L L':List Blk} {X X':Nat->Prop} {R:List (Nat × Ro)} (h:Rx L X R) (g:Frm L X L' X'):Rx L' X' R:=Fx.frm h g
theorem Rx.append {L:List Blk} {X:Nat->Prop} {R S:List (Nat × Ro)} (h:Rx L X R) (g:Rx L X S):Rx L X (R++S):=by
 unfold Rx;rw [List.map_append];exact Fx.append h g
theorem Rx.get {L:List Blk} {X:Nat->Prop} {R:List (Nat × Ro)} (h:Rx L X R) {p:Nat × Ro} (hp:p∈R):L[p.1]?=some (.arr 5 0 [p.2.av])/\¬ X p.1:=h (p.1,.arr 5 0 [p.2.av]) (List.mem_map.2 ⟨p,hp,rfl⟩)
def YZ (ip:Nat) (td:AV) (i:Nat):Prop:=i=ip\/∃ lv ver s n,td=.ref lv i ver s n
structure Pen (A:List (Bool × List Blk)) (L:List Blk) (ip:Nat) (a:AV) (td:AV) (cls:List AV):Prop where
 st:∃ rp,L[ip]?=some (.arr 3 0 [.agg [a,td,rp]])
 td:(td=.nils/\cls=[])\/∃ tx ver,td=.ref A.length tx ver 0 cls.length/\L[tx]?=some (.arr 1 ver cls)/\tx≠ip/\cls≠[]
theorem Pen.frm {A:List (Bool × List Blk)} {L L':List Blk} {ip:Nat} {a td:AV} {cls:List AV} (h:Pen A L ip a td cls) (g:∀ i,YZ ip td i->L'[i]?=L[i]?):Pen A L' ip a td cls:=by
 obtain ⟨⟨rp,h1⟩,h2⟩:=h
 refine ⟨⟨rp,by rw [g ip (.inl rfl)];exact h1⟩,?_⟩
 rcases h2 with q|⟨tx,ver,e1,e2,e3⟩
 ·exact .inl q
 ·exact .inr ⟨tx,ver,e1,by rw [g tx (.inr ⟨_,_,_,_,e1⟩)];exact e2,e3⟩
theorem Pen.lt {A:List (Bool × List Blk)} {L:List Blk} {ip:Nat} {a td:AV} {cls:List AV} (h:Pen A L ip a td cls) {i:Nat} (hi:YZ ip td i):i<L.length:=by
 obtain ⟨⟨rp,h1⟩,h2⟩:=h
 rcases hi with rfl|⟨lv,ver,s,n,e⟩
 ·exact (List.getElem?_eq_some_iff.1 h1).1
 ·rcases h2 with ⟨q,_⟩|⟨tx,ver2,e1,e2,e3⟩
  ·rw [q] at e;simp at e
  ·rw [e1] at e
   simp only [AV.ref.injEq] at e;rw [<- e.2.1];exact (List.getElem?_eq_some_iff.1 e2).1
theorem Pen.app {A:List (Bool × List Blk)} {L:List Blk} {ip:Nat} {a td:AV} {cls:List AV} (h:Pen A L ip a td cls) (T:List Blk):Pen A (L++T) ip a td cls :=
 h.frm fun i hi=>jL (h.lt hi)
def clV (n b0 b1 b2:Nat):AV:=.func (.func Xi) [] [.ptr n b0 0 0 0,.ptr n b1 0 0 0,.ptr n b2 0 0 0]
inductive Cv (n:Nat):AV->Prop
 | one (x:Nat):Cv n (.func (.func Js) [] [.ptr n x 0 0 0])
 | two (x y:Nat):Cv n (.func (.func JH) [] [.ptr n x 0 0 0,.ptr n y 0 0 0])
def ZnA (n ip rx b:Nat) (cv:AV):List Blk:=[.arr 1 0 [.ptr n ip 0 0 0],.arr 1 0 [.ptr n rx 0 0 0],.arr 1 0 [cv],.arr 1 0 [clV n b (b+2) (b+1)]]
theorem Znk {A:List (Bool × List Blk)} {L:List Blk} {ip rx:Nat} {a td cv:AV} {cls:List AV} (h:Pen A L ip a td cls) (hcv:Cv A.length cv) (hl:cls.length<1000000) :
 ∃ L' td',S Tb ZAg [.ptr A.length ip 0 0 0,.ptr A.length rx 0 0 0,cv] ⟨A,false,L⟩=some (.tup [],⟨A,false,L'⟩)/\Pen A L' ip a td' (cls++[clV A.length L.length (L.length+2) (L.length+1)])/\Frm L (YZ ip td) L' (YZ ip td') /\
  Fx L' (YZ ip td') [(L.length,.arr 1 0 [.ptr A.length ip 0 0 0]),(L.length+1,.arr 1 0 [.ptr A.length rx 0 0 0]),(L.length+2,.arr 1 0 [cv])]:=by
 obtain ⟨⟨rp,h1⟩,h2⟩:=h;have hip:=(List.getElem?_eq_some_iff.1 h1).1
 have e0:(⟨A,false,L⟩:St)=⟨A,false,L++[]⟩:=by rw [lN]
 have hg1:∀ T,(L++T)[ip]?=some (.arr 3 0 [.agg [a,td,rp]]):=fun T=>ZE4 h1
 rcases h2 with ⟨rfl,rfl⟩|⟨tx,ver,rfl,h3,h4,_⟩
 ·refine ⟨(L++(ZnA A.length ip rx L.length cv++[Blk.arr 1 0 [clV A.length L.length (L.length+2) (L.length+1)]])).set ip (Blk.arr 3 0 [.agg [a,.ref A.length (L.length+4) 0 0 1,rp]]),.ref A.length (L.length+4) 0 0 1,ZBh rfl ?_,?_⟩
  ·rw [e0]
   have hg1':∀ T,(L++T)[ip]?=some (.arr 3 0 [.agg [a,.nils,rp]]):=hg1;unfold ZnA clV
   cases hcv
   all_goals repeat' (first|refine ZAq rfl rfl rfl rfl rfl ?_|refine ZYD rfl rfl rfl rfl rfl ?_|refine ZD6 rfl rfl rfl rfl ?_|refine ZfX rfl rfl rfl ?_|refine ZE ?_|refine ZD ?_|refine ZQ rfl rfl ?_|refine ZA rfl ?_|refine ZC ?_|refine Zz rfl rfl ?_|refine ZBA rfl rfl ?_|refine ZP rfl (hg1' _) rfl rfl ?_)
   all_goals refine Zhn rfl rfl rfl (Zg4 rfl rfl) rfl rfl ?_
   all_goals refine ZKO rfl rfl (Zg4 rfl rfl) (by simp) (by decide) rfl ?_
   all_goals repeat' (first|refine ZQ rfl rfl ?_|refine Zz rfl rfl ?_)
   all_goals refine Qo (by rw [List.append_assoc];exact hg1' _) rfl rfl rfl (Jr _ (Nat.lt_succ_self _)) rfl ?_
   all_goals refine ZA rfl ?_
   all_goals refine ZO ?_
   all_goals refine (Xs (.inl rfl) rfl rfl rfl rfl).trans ?_
   all_goals simp
  ·have hnX : ∀ i, L.length <= i -> i ≠ L.length + 4 -> ¬ YZ ip (.ref A.length (L.length + 4) 0 0 1) i := by
    rintro i hi hne (q|⟨_,_,_,_,q⟩)
    ·omega
    ·simp only [AV.ref.injEq] at q;omega
   refine ⟨⟨⟨rp,List.getElem?_set_self (by simp;omega)⟩,.inr ⟨L.length+4,0,rfl,?_,by omega,by simp⟩⟩,⟨by simp,fun i hi hn=>?_,fun i hi=>?_⟩,?_⟩
   ·rw [jS (by omega),Q2];rfl
   ·have:i≠ip:=fun q=>hn (.inl q)
    rw [jS (fun q=>this q.symm),jL hi]
   ·rcases hi with q|⟨_,_,_,_,q⟩
    ·exact .inl (.inl q)
    ·simp only [AV.ref.injEq] at q;exact .inr (by omega)
   ·intro p hp
    simp only [List.mem_cons,List.not_mem_nil,or_false] at hp
    rcases hp with rfl|rfl|rfl
    ·refine ⟨?_,hnX _ (by simp) (by simp)⟩
     simp only
     rw [jS (by omega)]
     exact Q2 (i:=0)
    ·refine ⟨?_,hnX _ (by simp) (by simp)⟩
     simp only
     rw [jS (by omega)]
     exact Q2 (i:=1)
    ·refine ⟨?_,hnX _ (by simp) (by simp)⟩
     simp only
     rw [jS (by omega)]
     exact Q2 (i:=2)
 ·have htx:=(List.getElem?_eq_some_iff.1 h3).1
  refine ⟨((L++ZnA A.length ip rx L.length cv).set tx (Blk.arr 1 (ver+1) (cls++[clV A.length L.length (L.length+2) (L.length+1)]))).set ip (Blk.arr 3 0 [.agg [a,.ref A.length tx (ver+1) 0 (cls.length+1),rp]]),.ref A.length tx (ver+1) 0 (cls.length+1),ZBh rfl ?_,?_⟩
  ·rw [e0]
   have hgt:∀ T,(L++T)[tx]?=some (.arr 1 ver cls):=fun T=>ZE4 h3
   have hap:ZUP (.ptr A.length (L.length+0) 0 0 0) (.ref A.length tx ver 0 cls.length)=true:=by
    simp [ZUP,ZBP];omega
   have hgr:∀ f x y z,ZUL (.ref A.length tx ver 0 cls.length) (some [.func (.func f) [] [.ptr A.length x 0 0 0,.ptr A.length y 0 0 0,.ptr A.length z 0 0 0]])=true:=by
    intro f x y z;simp [ZUL,ZBQ,Zdy]
   have hsl:∀ (st:St) f x y z,mapSt (ZY QD (A.length+1)) st [.func (.func f) [] [.ptr A.length x 0 0 0,.ptr A.length y 0 0 0,.ptr A.length z 0 0 0]]=some ([.func (.func f) [] [.ptr A.length x 0 0 0,.ptr A.length y 0 0 0,.ptr A.length z 0 0 0]],st):=by
    intro st f x y z;rw [mapSt,ZfW _ (Nat.lt_succ_self _)];rfl
   unfold ZnA clV
   cases hcv
   all_goals repeat' (first|refine ZAq rfl rfl rfl rfl rfl ?_|refine ZYD rfl rfl rfl rfl rfl ?_|refine ZD6 rfl rfl rfl rfl ?_|refine ZfX rfl rfl rfl ?_|refine ZE ?_|refine ZD ?_|refine ZQ rfl rfl ?_|refine ZA rfl ?_|refine ZC ?_|refine Zz rfl rfl ?_|refine ZBA rfl rfl ?_|refine ZP rfl (hg1 _) rfl rfl ?_)
   all_goals refine Zhn rfl rfl rfl (Zg4 rfl rfl) hap (hgr _ _ _ _) ?_
   all_goals refine Ze8 rfl rfl (by rw [Q2];rfl) (hgt _) rfl rfl (hsl _ _ _ _ _) (by simp;omega) (by decide) ?_
   all_goals repeat' (first|refine ZQ rfl rfl ?_|refine Zz rfl rfl ?_)
   all_goals refine Qo (by rw [jS h4];exact hg1 _) rfl rfl rfl (Jr _ (Nat.lt_succ_self _)) rfl ?_
   all_goals refine ZA rfl ?_
   all_goals refine ZO ?_
   all_goals refine (Xs (.inl rfl) rfl rfl rfl rfl).trans ?_
   all_goals simp
  ·have hnX : ∀ i, L.length <= i -> ¬ YZ ip (.ref A.length tx (ver + 1) 0 (cls.length + 1)) i := by
    rintro i hi (q|⟨_,_,_,_,q⟩)
    ·omega
    ·simp only [AV.ref.injEq] at q;omega
   refine ⟨⟨⟨rp,List.getElem?_set_self (by simp;omega)⟩,.inr ⟨tx,ver+1,by simp,?_,h4,by simp⟩⟩,⟨by simp,fun i hi hn=>?_,fun i hi=>?_⟩,?_⟩
   ·rw [jS (fun q=>h4 q.symm),List.getElem?_set_self (by simp;omega)]
   ·have n1:i≠ip:=fun q=>hn (.inl q)
    have n2:i≠tx:=fun q=>hn (.inr ⟨A.length,ver,0,cls.length,by rw [q]⟩)
    rw [jS (fun q=>n1 q.symm),jS (fun q=>n2 q.symm),jL hi]
   ·rcases hi with q|⟨_,_,_,_,q⟩
    ·exact .inl (.inl q)
    ·simp only [AV.ref.injEq] at q
     exact .inl (.inr ⟨A.length,ver,0,cls.length,by rw [q.2.1]⟩)
   ·intro p hp
    simp only [List.mem_cons,List.not_mem_nil,or_false] at hp
    rcases hp with rfl|rfl|rfl
    ·refine ⟨?_,hnX _ (by simp)⟩
     simp only
     rw [jS (by omega),jS (by omega)]
     exact Q2 (i:=0)
    ·refine ⟨?_,hnX _ (by simp)⟩
     simp only
     rw [jS (by omega),jS (by omega)]
     exact Q2 (i:=1)
    ·refine ⟨?_,hnX _ (by simp)⟩
     simp only
     rw [jS (by omega),jS (by omega)]
     exact Q2 (i:=2)
inductive ItC where
 | leaf (s:List UInt8)
 | inn (h:Nat) (ks:List Nat)
structure It where
 rx:Nat
 c:ItC
def ZNA (n:Nat) (rs:List Nat):List AV:=rs.map fun r=>.ptr n r 0 0 0
def CvOk (n:Nat) (F:List (Nat × Blk)) (cv:AV):ItC->Prop
 | .leaf s=>∃ xb,cv=.func (.func Js) [] [.ptr n xb 0 0 0]/\(xb,Blk.arr 3 0 [.agg [.int .i64 0,.str s,.nils]])∈F
 | .inn h ks=>∃ tb kb kx,∃ t:Tr,cv=.func (.func JH) [] [.ptr n tb 0 0 0,.ptr n kb 0 0 0]/\t.h=h/\(tb,Blk.arr 7 0 [t.av])∈F/\(kb,Blk.arr 1 0 [.ref n kx ks.length 0 ks.length])∈F/\(kx,Blk.arr 1 ks.length (ZNA n ks))∈F
theorem CvOk.mono {n:Nat} {F G:List (Nat × Blk)} (hs:∀ p∈F,p∈G) {cv:AV}:∀ {c:ItC},CvOk n F cv c->CvOk n G cv c
 | .leaf s,⟨xb,h1,h2⟩=>⟨xb,h1,hs _ h2⟩
 | .inn h ks,⟨tb,kb,kx,t,h1,h2,h3,h4,h5⟩=>⟨tb,kb,kx,t,h1,h2,hs _ h3,hs _ h4,hs _ h5⟩
def ClOk (n ip:Nat) (F:List (Nat × Blk)) (cl:AV) (it:It):Prop :=
 ∃ b0 b1 b2 cv,cl=clV n b0 b1 b2/\(b0,Blk.arr 1 0 [.ptr n ip 0 0 0])∈F/\(b1,Blk.arr 1 0 [cv])∈F/\(b2,Blk.arr 1 0 [.ptr n it.rx 0 0 0])∈F/\CvOk n F cv it.c
theorem ClOk.mono {n ip:Nat} {F G:List (Nat × Blk)} (hs:∀ p∈F,p∈G) {cl:AV} {it:It} (h:ClOk n ip F cl it):ClOk n ip G cl it:=by
 obtain ⟨b0,b1,b2,cv,h1,h2,h3,h4,h5⟩:=h;exact ⟨b0,b1,b2,cv,h1,hs _ h2,hs _ h3,hs _ h4,h5.mono hs⟩
inductive ClsOk (n ip:Nat) (F:List (Nat × Blk)):List AV->List It->Prop
 | nil:ClsOk n ip F [] []
 | cons {c i cs is} (h:ClOk n ip F c i) (t:ClsOk n ip F cs is):ClsOk n ip F (c::cs) (i::is)
theorem ClsOk.mono {n ip:Nat} {F G:List (Nat × Blk)} (hs:∀ p∈F,p∈G) {cs:List AV} {is:List It} (h:ClsOk n ip F cs is):ClsOk n ip G cs is:=by
 induction h with
 | nil=>exact .nil
 | cons h t ih=>exact .cons (h.mono hs) ih
theorem ClsOk.append {n ip:Nat} {F:List (Nat × Blk)} {cs ds:List AV} {is js:List It} (h:ClsOk n ip F cs is) (g:ClsOk n ip F ds js):ClsOk n ip F (cs++ds) (is++js):=by
 induction h with
 | nil=>exact g
 | cons h t ih=>exact .cons h ih
theorem ClsOk.len {n ip:Nat} {F:List (Nat × Blk)} {cs:List AV} {is:List It} (h:ClsOk n ip F cs is):cs.length=is.length:=by
 induction h with
 | nil=>rfl
 | cons h t ih=>simp [ih]
namespace Tr
mutual
def mea:Tr->Mea
 | .mk o h m s k=>if o≠0 then m else if h=0 then Yi s else QF (meaO k)
def meaO:Option (List Tr)->List Mea
 | none=>[]
 | some l=>ZnB l
def ZnB:List Tr->List Mea
 | []=>[]
 | t::l=>t.mea::ZnB l
end
theorem meaL_map:∀ l,ZnB l=l.map mea
 | []=>rfl
 | t::l=>by rw [ZnB,meaL_map l];rfl
end Tr
theorem Zdn (h:Nat) (l:List Tr):(Tr.mk 0 (h+1) .zero [] (some l)).mea=QF (l.map Tr.mea):=by
 rw [Tr.mea,Tr.meaO,Tr.meaL_map];simp
theorem ZNB (s:List UInt8) (k:Option (List Tr)):(Tr.mk 0 0 .zero s k).mea=Yi s:=by rw [Tr.mea];simp
theorem ZNC {o h:Nat} {m:Mea} {s:List UInt8} {k:Option (List Tr)} (h0:o≠0):(Tr.mk o h m s k).mea=m:=by rw [Tr.mea];simp [h0]
structure Mea.Chn (m:Mea):Prop where
 l0:0<=m.l
 lr:m.l<=m.r
 rb:m.r<=m.b
theorem ZYE:∀ {l:List Mea},(∀ m∈l,m.Chn)->(QF l).Chn
 | [],_=>⟨by decide,by decide,by decide⟩
 | m::l,h=>by
  obtain ⟨a1,a2,a3⟩:=h m (by simp)
  obtain ⟨b1,b2,b3⟩:=ZYE (l:=l) (fun x hx=>h x (by simp [hx]))
  constructor<;>simp only [QF,Mea.add]<;>omega
theorem ZfY (s:List UInt8):(Yi s).Chn:=by
 have h2:=ZM8 s;have h3:=List.countP_le_length (p:=ZDj) (l:=s)
 constructor<;>simp only [Yi]<;>omega
theorem NdOk.chn {x:Nd} (h:NdOk x):x.mea.Chn:=by
 rcases h with h|⟨n,ks,h⟩
 ·have hm:x.mea=Yi x.text:=by unfold Nd.mea;rw [if_pos h.h]
  rw [hm];exact ZfY _
 ·have e:=h.eq
  subst e;have hms:Nd.mea ⟨n+1,[],some ks⟩=QF (ks.map Kid.m):=rfl;rw [hms]
  refine ZYE (fun m hm=>?_)
  obtain ⟨k,hk,rfl⟩:=List.mem_map.1 hm
  have:=h.kid k hk
  exact ⟨this.l0,this.lr,this.rb⟩
theorem Zg5:∀ l:List Tr,(∀ t∈l,t.mea.b=t.bytes)->(QF (l.map Tr.mea)).b=Tr.bytesL l
 | [],_=>rfl
 | t::l,h=>by
  rw [jC,QF,Mea.add,Tr.bytesL]
  simp only
  rw [h t (by simp),Zg5 l (fun u hu=>h u (by simp [hu]))]
theorem Val.mea_ok {N:ZJ} {t:Tr} (hv:Val N t):t.mea.b=t.bytes/\t.mea.Chn:=by
 induction hv with
 | @kept o h m k x h0 hx hok hh hm hk =>
  rw [ZNC h0]
  refine ⟨?_,by rw [<- hm];exact hok.chn⟩
  rw [Tr.bytes,Tr.bytesO_getD,hk];simp [Tr.bytesL]
 | @leaf s k h1 h2 hk =>
  rw [ZNB];refine ⟨?_,ZfY s⟩;rw [Tr.bytes,Tr.bytesO_getD,hk];simp [Tr.bytesL,Yi,Mea.zero]
 | @inner h l hh h2 h4 hl hb hv ih =>
  rw [Zdn]
  refine ⟨?_,ZYE (fun m hm=>?_)⟩
  ·rw [Zg5 l (fun u hu=>(ih u hu).1),Tr.bytes,Tr.bytesO];simp [Mea.zero]
  ·obtain ⟨u,hu,rfl⟩:=List.mem_map.1 hm
   exact (ih u hu).2
theorem Val.mea_fit {N:ZJ} {t:Tr} (hv:Val N t) (hb:t.bytes<=65536):t.mea.Fit 65536:=by
 obtain ⟨h1,h2⟩:=hv.mea_ok;obtain ⟨c1,c2,c3⟩:=h2
 constructor<;>omega
mutual
inductive AddT:Tr->Nat->List It->List (Nat × Ro)->Prop
 | kept {o h m k rx} (h0:o≠0):AddT (.mk o h m [] k) rx [] [(rx,⟨o,h,m⟩)]
 | leaf {s k rx}:AddT (.mk 0 0 .zero s k) rx [⟨rx,.leaf s⟩] [(rx,⟨0,0,Yi s⟩)]
 | inner {h l rx rs its R} (hl:AddL l rs its R) (hn:(R.map Prod.fst).Nodup) (hx:rx∉R.map Prod.fst):AddT (.mk 0 (h+1) .zero [] (some l)) rx (its++[⟨rx,.inn (h+1) rs⟩]) (R++[(rx,⟨0,h+1,QF (l.map Tr.mea)⟩)])
inductive AddL:List Tr->List Nat->List It->List (Nat × Ro)->Prop
 | nil:AddL [] [] [] []
 | cons {t l rx rs i1 i2 R1 R2} (ht:AddT t rx i1 R1) (hl:AddL l rs i2 R2):AddL (t::l) (rx::rs) (i1++i2) (R1++R2)
end
theorem AddL.snoc {t:Tr} {rx:Nat} {i1:List It} {R1:List (Nat × Ro)} (ht:AddT t rx i1 R1):∀ {l:List Tr} {rs:List Nat} {its:List It} {R:List (Nat × Ro)},AddL l rs its R->AddL (l++[t]) (rs++[rx]) (its++i1) (R++R1)
 | _,_,_,_,.nil=>by have:=AddL.cons ht .nil;simpa using this
 | _,_,_,_,.cons h g=>by
  have:=AddL.cons h (AddL.snoc ht g)
  simpa [List.append_assoc] using this
theorem AddL.len:∀ {l:List Tr} {rs:List Nat} {its:List It} {R:List (Nat × Ro)},AddL l rs its R->rs.length=l.length
 | _,_,_,_,.nil=>rfl
 | _,_,_,_,.cons h g=>by simp [g.len]
mutual
theorem AddT.cnt:∀ {t:Tr} {rx:Nat} {its:List It} {R:List (Nat × Ro)},AddT t rx its R->its.length<=t.cnt
 | _,_,_,_,.kept h0=>Nat.zero_le _
 | _,_,_,_,.leaf=>by rw [Tr.cnt];simp
 | _,_,_,_,.inner hl hn hx=>by
  have:=AddL.cnt hl
  rw [Tr.cnt,Tr.cntO];simp;omega
theorem AddL.cnt:∀ {l:List Tr} {rs:List Nat} {its:List It} {R:List (Nat × Ro)},AddL l rs its R->its.length<=Tr.cntL l
 | _,_,_,_,.nil=>Nat.le_refl _
 | _,_,_,_,.cons h g=>by
  have h1:=h.cnt;have h2:=g.cnt;rw [Tr.cntL];simp;omega
end
def No5 (F:List (Nat × Blk)):Prop:=∀ p∈F,∃ w v es,p.2=Blk.arr w v es/\w≠5
theorem No5.nil:No5 []:=fun p hp=>by simp at hp
theorem No5.cons {F:List (Nat × Blk)} {i w v:Nat} {es:List AV} (hw:w≠5) (h:No5 F):No5 ((i,Blk.arr w v es)::F):=fun p hp=>by
 rcases List.mem_cons.1 hp with rfl|q
 ·exact ⟨w,v,es,rfl,hw⟩
 ·exact h p q
theorem No5.append {F G:List (Nat × Blk)} (h:No5 F) (g:No5 G):No5 (F++G):=fun p hp=>by
 rcases List.mem_append.1 hp with q|q
 ·exact h p q
 ·exact g p q
structure Added (A:List (Bool × List Blk)) (L:List Blk) (ip:Nat) (a td:AV) (cls:List AV) (t:Tr) (L':List Blk) (td':AV) (rx:Nat) (its:List It) (cs:List AV) (R:List (Nat × Ro)) (F:List (Nat × Blk)):Prop where
 pen:Pen A L' ip a td' (cls++cs)
 frm:Frm L (YZ ip td) L' (YZ ip td')
 fx:Fx L' (YZ ip td') F
 rts:Rx L' (YZ ip td') R
 flo:∀ p∈F,L.length<=p.1
 rlo:∀ p∈R,L.length<=p.1
 cl:ClsOk A.length ip F cs its
 tr:AddT t rx its R
 nd:(R.map Prod.fst).Nodup
 fw:No5 F
theorem Rx.one {L:List Blk} {X:Nat->Prop} {i:Nat} {r:Ro} (h:L[i]?=some (.arr 5 0 [r.av])) (hn:¬ X i):Rx L X [(i,r)]:=by
 intro p hp;simp only [jC,List.map_nil,List.mem_singleton] at hp;subst hp;exact ⟨h,hn⟩
theorem Zk1 {A:List (Bool × List Blk)} {L:List Blk} {ip:Nat} {a td:AV} {cls:List AV} (h:Pen A L ip a td cls) {o hh:Nat} {m:Mea} {k:Option (List Tr)} (h0:o≠0) (hk:k.getD []=[]) :
 ∃ L' td' rx its cs R F,S Tb Qr [.ptr A.length ip 0 0 0,(Tr.mk o hh m [] k).av] ⟨A,false,L⟩=some (.ptr A.length rx 0 0 0,⟨A,false,L'⟩)/\Added A L ip a td cls (.mk o hh m [] k) L' td' rx its cs R F:=by
 refine ⟨L++[.arr 7 0 [(Tr.mk o hh m [] k).av],.arr 5 0 [Ro.av ⟨o,hh,m⟩]],td,L.length+1,[],[],[(L.length+1,⟨o,hh,m⟩)],[],ZBh rfl ?_,?_⟩
 ·have e0:(⟨A,false,L⟩:St)=⟨A,false,L++[]⟩:=by rw [lN]
  rw [e0]
  obtain ⟨ka,hka,hka2⟩:∃ ka,Tr.avO k=ka/\(ka=.nils\/ka=.lit []):=by
   cases k with
   | none=>exact ⟨_,rfl,.inl rfl⟩
   | some l=>have:l=[]:=hk;subst this;exact ⟨_,rfl,.inr rfl⟩
  simp only [Tr.av,hka] at *
  rcases hka2 with rfl|rfl
  all_goals repeat' (first|refine ZAq rfl rfl rfl rfl rfl ?_|refine ZD6 rfl rfl rfl rfl ?_|refine ZE ?_|refine ZD ?_|refine ZF rfl ?_|refine ZQ rfl rfl ?_|refine J1 rfl rfl ?_|refine Zni rfl ?_|refine Zo rfl rfl rfl rfl ?_|refine ZA rfl ?_|refine ZC ?_|(refine Zk rfl rfl (fun _=>?_) (fun _=>?_)<;>try (exfalso;omega))|refine ZV rfl ?_|refine Zn rfl rfl rfl ?_|refine ZI ?_|refine ZS ?_|refine ZL ?_|refine ZO ?_|refine Zy ?_)
  all_goals try (exfalso;omega)
  all_goals refine (Xs (.inr rfl) rfl rfl rfl rfl).trans ?_
  all_goals rfl
 ·refine ⟨by rw [lN];exact h.app _,.app _,fun p hp=>by simp at hp,Rx.one ?_ (fun q=>by have:=h.lt q;omega),fun p hp=>by simp at hp,fun p hp=>?_,.nil,.kept h0,by simp,.nil⟩
  ·exact Q2 (i:=1)
  ·simp only [List.mem_singleton] at hp;subst hp;simp
theorem Zk2 {A:List (Bool × List Blk)} {L:List Blk} {ip:Nat} {a td:AV} {cls:List AV} (h:Pen A L ip a td cls) (hl:cls.length<1000000) {s:List UInt8} {k:Option (List Tr)} (hs:ZBr s) (hk:k.getD []=[]) :
 ∃ L' td' rx its cs R F,S Tb Qr [.ptr A.length ip 0 0 0,(Tr.mk 0 0 .zero s k).av] ⟨A,false,L⟩=some (.ptr A.length rx 0 0 0,⟨A,false,L'⟩)/\Added A L ip a td cls (.mk 0 0 .zero s k) L' td' rx its cs R F:=by
 obtain ⟨T,hT⟩:∃ T:List Blk,T=[.arr 7 0 [(Tr.mk 0 0 .zero s k).av],.arr 5 0 [Ro.av ⟨0,0,Yi s⟩],.arr 3 0 [.agg [.int .i64 0,.str s,.nils]]]:=⟨_,rfl⟩
 have hlen:T.length=3:=by rw [hT];rfl
 obtain ⟨L1,td1,hS,hp,hf,hx⟩:=Znk (h.app T) (rx:=L.length+1) (Cv.one (n:=A.length) (L.length+2)) hl
 have hM:=fun st=>ZKP ⟨0,s,none⟩ (.inl ⟨rfl,hs.1,hs.2,rfl⟩) st
 have hm0:Nd.mea ⟨0,s,none⟩=Yi s:=rfl;rw [hm0] at hM
 have hne:s≠[]:=fun q=>by rw [q] at hs;have:=hs.1;simp at this
 have hff:=(Frm.app (L:=L) (X:=YZ ip td) T).trans hf
 have hltX:∀ i,YZ ip td i->i<L.length:=fun i hi=>h.lt hi
 have hnX:∀ i,L.length<=i->i<L.length+3->¬ YZ ip td1 i:=fun i h1 h2 q=>by
  rcases hf.own i q with w|w
  ·have:=hltX i w;omega
  ·rw [lL] at w;omega
 have hg:∀ j b,T[j]?=some b->L1[L.length+j]?=some b:=fun j b hb=>by
  have hj:=(List.getElem?_eq_some_iff.1 hb).1
  rw [hf.old _ (by rw [lL];omega) (fun q=>by have:=hltX _ q;omega),Q2];exact hb
 refine ⟨L1,td1,L.length+1,[⟨L.length+1,.leaf s⟩],_,[(L.length+1,⟨0,0,Yi s⟩)],(L.length+2,Blk.arr 3 0 [.agg [.int .i64 0,.str s,.nils]])::[((L++T).length,Blk.arr 1 0 [.ptr A.length ip 0 0 0]),((L++T).length+1,Blk.arr 1 0 [.ptr A.length (L.length+1) 0 0 0]),((L++T).length+2,Blk.arr 1 0 [.func (.func Js) [] [.ptr A.length (L.length+2) 0 0 0]])],ZBh rfl ?_,⟨hp,hff,?_,Rx.one (hg 1 _ (by rw [hT];rfl)) (hnX _ (by omega) (by omega)),?_,?_,.cons ⟨_,_,_,_,rfl,List.mem_cons_of_mem _ ?_,List.mem_cons_of_mem _ ?_,List.mem_cons_of_mem _ ?_,⟨L.length+2,rfl,?_⟩⟩ .nil,.leaf,by simp,.cons (by decide) (.cons (by decide) (.cons (by decide) (.cons (by decide) .nil)))⟩⟩
 ·have e0:(⟨A,false,L⟩:St)=⟨A,false,L++[]⟩:=by rw [lN]
  rw [e0]
  obtain ⟨ka,hka,hka2⟩:∃ ka,Tr.avO k=ka/\(ka=.nils\/ka=.lit []):=by
   cases k with
   | none=>exact ⟨_,rfl,.inl rfl⟩
   | some l=>have:l=[]:=hk;subst this;exact ⟨_,rfl,.inr rfl⟩
  rw [hT] at hS
  simp only [Tr.av,Nd.av,slV,Mea.zero,hka] at *
  rcases hka2 with rfl|rfl
  all_goals repeat' (first|refine ZAq rfl rfl rfl rfl rfl ?_|refine ZD6 rfl rfl rfl rfl ?_|refine ZYB rfl rfl rfl rfl rfl rfl rfl ?_|refine ZE ?_|refine ZD ?_|refine ZF rfl ?_|refine ZQ rfl rfl ?_|refine QE rfl ?_|refine J1 rfl rfl ?_|refine Zo rfl rfl rfl rfl ?_|refine Zs rfl rfl ?_|refine ZA rfl ?_|refine ZC ?_|refine Zz rfl rfl ?_|(refine Zp rfl rfl (fun _=>?_) (fun _=>?_)<;>try (exfalso;omega))|(refine Zk rfl rfl (fun _=>?_) (fun _=>?_)<;>try (exfalso;omega))|(refine J9 rfl rfl (fun _=>?_) (fun _=>?_)<;>try contradiction)|refine ZV rfl ?_|refine ZH rfl ?_|refine Zn rfl rfl rfl ?_|refine ZBA rfl rfl ?_|refine ZB rfl rfl rfl (hM _) ?_|refine ZB rfl rfl rfl (hS) ?_|refine ZS ?_|refine ZL ?_|refine ZO ?_|refine Zy ?_)
  all_goals try contradiction
  all_goals exact Xs (.inr rfl) rfl rfl rfl rfl
 ·intro p hp
  rcases List.mem_cons.1 hp with rfl|q
  ·exact ⟨hg 2 _ (by rw [hT];rfl),hnX _ (by omega) (by omega)⟩
  ·exact hx p q
 ·intro p hp
  simp only [List.mem_cons,List.not_mem_nil,or_false,lL] at hp
  rcases hp with rfl|rfl|rfl|rfl<;>simp only<;>omega
 ·intro p hp
  simp only [List.mem_singleton] at hp;subst hp;simp
 ·simp
 ·simp
 ·simp
 ·simp
theorem ZnC {k:List Fr} {Q:Jv} {A:List (Bool × List Blk)} {X:List Blk} {jb rx:Nat} {o hh v0 v3 v7 v20 v21 v22:AV} {mb mr ml:Int} {r:Ro} (h1:X[jb]?=some (Blk.arr 5 0 [.agg [o,hh,.int .i64 mb,.int .i64 mr,.int .i64 ml]])) (h2:X[rx]?=some (Blk.arr 5 0 [r.av])) (hne:jb≠rx)
 (hb:0<=mb/\mb<=262144/\0<=mr/\mr<=262144/\0<=ml/\ml<=262144) (hr:0<=r.m.b/\r.m.b<=65536/\0<=r.m.r/\r.m.r<=65536/\0<=r.m.l/\r.m.l<=65536)
 (h:Rk (S Tb) k Q .norm [(0,v0),(3,v3),(5,.ptr A.length jb 0 0 0),(7,v7),(20,v20),(21,v21),(22,v22)] ⟨A,false,X.set jb (.arr 5 0 [.agg [o,hh,.int .i64 (mb+r.m.b),.int .i64 (mr+r.m.r),.int .i64 (ml+r.m.l)]])⟩) :
 Ru (S Tb) (.seq ZDg (.seq ZDh ZDi)) k Q [(0,v0),(3,v3),(5,.ptr A.length jb 0 0 0),(7,v7),(10,.ptr A.length rx 0 0 0),(20,v20),(21,v21),(22,v22)] ⟨A,false,X⟩:=by
 have hlt:=(List.getElem?_eq_some_iff.1 h1).1
 have h3:∀ b,(X.set jb b)[rx]?=some (Blk.arr 5 0 [r.av]):=fun b=>by rw [jS hne];exact h2
 unfold Ro.av at h2 h3
 repeat' (first|refine ZP rfl h1 rfl rfl ?_|refine ZP rfl h2 rfl rfl ?_|refine ZE ?_|refine ZD ?_|refine ZF rfl ?_|refine ZQ rfl rfl ?_|refine Zz rfl rfl ?_|refine Zm rfl rfl (by omega) ?_)
 refine Qo h1 rfl rfl rfl rfl rfl ?_
 repeat' (first|refine ZP rfl (List.getElem?_set_self hlt) rfl rfl ?_|refine ZP rfl (h3 _) rfl rfl ?_|refine ZE ?_|refine ZD ?_|refine ZF rfl ?_|refine ZQ rfl rfl ?_|refine ZA rfl ?_|refine ZC ?_|refine Zz rfl rfl ?_|refine Zm rfl rfl (by omega) ?_)
 refine Qo (List.getElem?_set_self hlt) rfl rfl rfl rfl rfl ?_;rw [List.set_set]
 repeat' (first|refine ZP rfl (List.getElem?_set_self hlt) rfl rfl ?_|refine ZP rfl (h3 _) rfl rfl ?_|refine ZD ?_|refine ZF rfl ?_|refine ZQ rfl rfl ?_|refine ZA rfl ?_|refine ZC ?_|refine Zz rfl rfl ?_|refine Zm rfl rfl (by omega) ?_)
 refine Qo (List.getElem?_set_self hlt) rfl rfl rfl rfl rfl ?_;rw [List.set_set];refine ZA rfl ?_;exact h
end Go.Q15
namespace Go.Q15
open Go Go.QAbs
set_option maxRecDepth 100000
set_option maxHeartbeats 8000000
structure AInv (A:List (Bool × List Blk)) (L:List Blk) (ip:Nat) (a td:AV) (cls:List AV) (h:Nat) (l:List Tr) (i:Nat) (Li:List Blk) (td':AV) (rs:List Nat) (its:List It) (cs:List AV) (R:List (Nat × Ro)) (F:List (Nat × Blk)):Prop where
 le:i<=l.length
 pen:Pen A Li ip a td' (cls++cs)
 frm:Frm L (YZ ip td) Li (YZ ip td')
 fx:Fx Li (YZ ip td') F
 rts:Rx Li (YZ ip td') R
 flo:∀ p∈F,L.length+4<=p.1
 rlo:∀ p∈R,L.length+4<=p.1
 plo:∀ j,YZ ip td' j->YZ ip td j\/L.length+4<=j
 nd:(R.map Prod.fst).Nodup
 cl:ClsOk A.length ip F cs its
 tr:AddL (l.take i) rs its R
 len:L.length+4<=Li.length
 b0:Li[L.length]?=some (.arr 7 0 [(Tr.mk 0 (h+1) .zero [] (some l)).av])
 b1:Li[L.length+1]?=some (.arr 5 0 [Ro.av ⟨0,h+1,QF ((l.take i).map Tr.mea)⟩])
 b2:Li[L.length+2]?=some (.arr 1 i (ZNA A.length rs))
 b3:Li[L.length+3]?=some (.arr 1 0 [.ref A.length (L.length+2) i 0 i])
 fw:No5 F
theorem Zk3 (n:Nat) (st:St) (r:Nat):mapSt (ZY QD (n+1)) st [.ptr n r 0 0 0]=some ([.ptr n r 0 0 0],st):=by
 simp only [mapSt,ZY,QD,if_pos (Nat.lt_succ_self n),oS,Xl]
theorem Zo2 {a:AV} (h:weak a=a) (t:Tr):ZX (ZZ ([]++[a,t.av]++[]))=some [a,t.av]:=by
 simp only [lE,lN,lC,ZZ,ZW,ZX,h]
theorem ZnD {L:List Blk} {X:Nat->Prop} {R:List (Nat × Ro)} (h:Rx L X R):∀ k∈R.map Prod.fst,k<L.length:=by
 intro k hk;obtain ⟨p,hp,rfl⟩:=List.mem_map.1 hk;exact (List.getElem?_eq_some_iff.1 (h.get hp).1).1
theorem AInv.step {A:List (Bool × List Blk)} {L:List Blk} {ip:Nat} {a td:AV} {cls:List AV} (hP:Pen A L ip a td cls) {h:Nat} {l:List Tr} {i:Nat} {Li:List Blk} {td1:AV} {rs:List Nat} {its:List It} {cs:List AV} {R:List (Nat × Ro)} {F:List (Nat × Blk)}
 (hi:AInv A L ip a td cls h l i Li td1 rs its cs R F) {u:Tr} (hu:l[i]?=some u) {B:Blk} {L1:List Blk} {td2:AV} {rx:Nat} {its2:List It} {cs2:List AV} {R2:List (Nat × Ro)} {F2:List (Nat × Blk)} (ha:Added A (Li++[B]) ip a td1 (cls++cs) u L1 td2 rx its2 cs2 R2 F2)
 {T:List Blk} {L2:List Blk} (hl2:L2.length=(L1++T).length) (hold:∀ j,j<L1.length->j≠L.length+1->j≠L.length+2->j≠L.length+3->L2[j]?=L1[j]?)
 (b1:L2[L.length+1]?=some (.arr 5 0 [Ro.av ⟨0,h+1,QF ((l.take (i+1)).map Tr.mea)⟩])) (b2:L2[L.length+2]?=some (.arr 1 (i+1) (ZNA A.length (rs++[rx])))) (b3:L2[L.length+3]?=some (.arr 1 0 [.ref A.length (L.length+2) (i+1) 0 (i+1)])) :
 AInv A L ip a td cls h l (i+1) L2 td2 (rs++[rx]) (its++its2) (cs++cs2) (R++R2) (F++F2):=by
 have hlt:=(List.getElem?_eq_some_iff.1 hu).1;have hlen:=hi.len;have hl1:=ha.frm.len;rw [lL,List.length_singleton] at hl1;rw [lL] at hl2
 have hX1:∀ j,YZ ip td1 j->j<Li.length:=fun j hj=>hi.pen.lt hj
 have plo2:∀ j,YZ ip td2 j->YZ ip td j\/L.length+4<=j:=fun j hj=>by
  rcases ha.frm.own j hj with q|q
  ·exact hi.plo j q
  ·rw [lL,List.length_singleton] at q;exact .inr (by omega)
 have hltL:∀ j,YZ ip td j->j<L.length:=fun j hj=>hP.lt hj
 have hfrm:Frm L1 (YZ ip td2) L2 (YZ ip td2)->Frm L1 (YZ ip td2) L2 (YZ ip td2):=id
 -- what is Zos of L1 stays in L2
 have keep:∀ {j:Nat} {b:Blk},L1[j]?=some b->j≠L.length+1->j≠L.length+2->j≠L.length+3->L2[j]?=some b:=fun {j b} hb n1 n2 n3=>by
  rw [hold j (List.getElem?_eq_some_iff.1 hb).1 n1 n2 n3];exact hb
 have f1:=(Frm.app (L:=Li) (X:=YZ ip td1) [B]).trans ha.frm;have k1:Fx L1 (YZ ip td2) F:=hi.fx.frm f1;have k2:Rx L1 (YZ ip td2) R:=hi.rts.frm f1
 have lo2:∀ p∈R2,Li.length+1<=p.1:=fun p hp=>by have:=ha.rlo p hp;rwa [lL,List.length_singleton] at this
 have flo2:∀ p∈F2,Li.length+1<=p.1:=fun p hp=>by have:=ha.flo p hp;rwa [lL,List.length_singleton] at this
 refine ⟨hlt,?_,?_,?_,?_,?_,?_,plo2,?_,?_,?_,by omega,?_,b1,b2,b3,hi.fw.append ha.fw⟩
 ·rw [<- List.append_assoc]
  refine ha.pen.frm fun j hj=>hold j (ha.pen.lt hj) ?_ ?_ ?_<;>intro q<;>rcases plo2 j hj with w|w<;>first|omega|(have:=hltL j w;omega)
 ·refine ⟨by have:=hi.frm.len;omega,fun j hj hn=>?_,fun j hj=>?_⟩
  ·have hn1:¬ YZ ip td1 j:=fun q=>by rcases hi.plo j q with w|w;exact hn w;omega
   rw [hold j (by omega) (by omega) (by omega) (by omega),f1.old j (by omega) hn1,hi.frm.old j hj hn]
  ·rcases plo2 j hj with q|q
   ·exact .inl q
   ·exact .inr (by omega)
 ·refine Fx.append (fun p hp=>?_) (fun p hp=>?_)
  ·have:=hi.flo p hp
   exact ⟨keep (k1 p hp).1 (by omega) (by omega) (by omega),(k1 p hp).2⟩
  ·have:=flo2 p hp
   exact ⟨keep (ha.fx p hp).1 (by omega) (by omega) (by omega),(ha.fx p hp).2⟩
 ·refine Rx.append (fun p hp=>?_) (fun p hp=>?_)
  ·obtain ⟨q,hq,rfl⟩:=List.mem_map.1 hp
   have:=hi.rlo q hq
   exact ⟨keep (k2.get hq).1 (by simp only;omega) (by simp only;omega) (by simp only;omega),(k2.get hq).2⟩
  ·obtain ⟨q,hq,rfl⟩:=List.mem_map.1 hp
   have:=lo2 q hq
   exact ⟨keep (ha.rts.get hq).1 (by simp only;omega) (by simp only;omega) (by simp only;omega),(ha.rts.get hq).2⟩
 ·intro p hp
  rcases List.mem_append.1 hp with q|q
  ·exact hi.flo p q
  ·have:=flo2 p q;omega
 ·intro p hp
  rcases List.mem_append.1 hp with q|q
  ·exact hi.rlo p q
  ·have:=lo2 p q;omega
 ·rw [List.map_append,List.nodup_append]
  refine ⟨hi.nd,?_,?_⟩
  ·exact ha.nd
  ·intro x hx y hy e
   subst e;have h1:=ZnD hi.rts x hx;obtain ⟨p,hp,rfl⟩:=List.mem_map.1 hy
   have:=lo2 p hp
   omega
 ·exact (hi.cl.mono (fun p hp=>by simp [hp])).append (ha.cl.mono (fun p hp=>by simp [hp]))
 ·rw [Zg hu]
  exact hi.tr.snoc ha.tr
 ·have hb0:=hi.b0
  rw [<- f1.old _ (by omega) (fun q=>by rcases hi.plo _ q with w|w;have:=hltL _ w;omega;omega)] at hb0
  exact keep hb0 (by omega) (by omega) (by omega)
theorem AddT.root {t:Tr} {rx:Nat} {its:List It} {R:List (Nat × Ro)} (h:AddT t rx its R):∃ r:Ro,(rx,r)∈R/\r.m=t.mea/\r.h=t.h:=by
 cases h with
 | @kept o h m k _ h0=>exact ⟨⟨o,h,m⟩,by simp,(ZNC h0).symm,rfl⟩
 | @leaf s k _=>exact ⟨⟨0,0,Yi s⟩,by simp,(ZNB _ _).symm,rfl⟩
 | @inner h l _ rs its R hl hn hx=>exact ⟨⟨0,h+1,QF (l.map Tr.mea)⟩,by simp,(Zdn _ _).symm,rfl⟩
theorem ZoH {l:List Tr} {A:List (Bool × List Blk)} (ih:∀ u∈l,∀ {L:List Blk} {ip:Nat} {a td:AV} {cls:List AV},Pen A L ip a td cls->cls.length+u.cnt<1000000 ->
 ∃ L' td' rx its cs R F,S Tb Qr [.ptr A.length ip 0 0 0,u.av] ⟨A,false,L⟩=some (.ptr A.length rx 0 0 0,⟨A,false,L'⟩)/\Added A L ip a td cls u L' td' rx its cs R F)
 (hl4:1<=l.length/\l.length<=4) (hfit:∀ u∈l,u.mea.Fit 65536) {h:Nat} (hh:h<=16) {L:List Blk} {ip:Nat} {a td:AV} {cls:List AV} (hP:Pen A L ip a td cls) (hc:cls.length+(Tr.mk 0 (h+1) .zero [] (some l)).cnt<1000000) :
 ∃ L' td' rx its cs R F,S Tb Qr [.ptr A.length ip 0 0 0,(Tr.mk 0 (h+1) .zero [] (some l)).av] ⟨A,false,L⟩=some (.ptr A.length rx 0 0 0,⟨A,false,L'⟩)/\Added A L ip a td cls (.mk 0 (h+1) .zero [] (some l)) L' td' rx its cs R F:=by
 have hav:(Tr.mk 0 (h+1) .zero [] (some l)).av=.agg [.int .u64 (0:Nat),.int .i64 ((h+1:Nat):Int),.int .i64 0,.int .i64 0,.int .i64 0,.str [],.lit (l.map Tr.av)]:=by
  rw [Tr.av,Tr.avO_sl];rfl
 have hcn:(Tr.mk 0 (h+1) .zero [] (some l)).cnt=1+Tr.cntL l:=by rw [Tr.cnt,Tr.cntO];simp
 rw [hcn] at hc
 have hltL:∀ j,YZ ip td j->j<L.length:=fun j hj=>hP.lt hj
 have hmain:Sp Tb Qr [.ptr A.length ip 0 0 0,(Tr.mk 0 (h+1) .zero [] (some l)).av] ⟨A,false,L⟩ fun v st'=>∃ L' td' rx its cs R F,v=.ptr A.length rx 0 0 0/\st'=⟨A,false,L'⟩/\Added A L ip a td cls (.mk 0 (h+1) .zero [] (some l)) L' td' rx its cs R F:=by
  refine Zmm rfl ?_
  have e0:(⟨A,false,L⟩:St)=⟨A,false,L++[]⟩:=by rw [lN]
  rw [e0,hav]
  repeat' (first|refine ZAq rfl rfl rfl rfl rfl ?_|refine ZD6 rfl rfl rfl rfl ?_|refine Zg3 rfl ?_|refine ZE ?_|refine ZD ?_|refine ZF rfl ?_|refine ZQ rfl rfl ?_|refine QE rfl ?_|refine Zo rfl rfl rfl rfl ?_|refine ZA rfl ?_|refine ZC ?_|refine QU rfl ?_|(refine Zp rfl rfl (fun _=>?_) (fun _=>?_)<;>try (exfalso;omega))|(refine Zk rfl rfl (fun _=>?_) (fun _=>?_)<;>try (exfalso;omega))|(refine J9 rfl rfl (fun _=>?_) (fun _=>?_)<;>try contradiction)|refine ZH rfl ?_|refine Zn rfl rfl rfl ?_|refine ZL ?_)
  refine Z2 (α:=Nat × List Blk) (fun p=>[(0,.ptr A.length ip 0 0 0),(3,.ptr A.length L.length 0 0 0),(5,.ptr A.length (L.length+1) 0 0 0),(7,.ptr A.length (L.length+3) 0 0 0),(20,.lit (l.map Tr.av)),(21,.int .i64 l.length),(22,.int .i64 p.1)])
   (fun p=>⟨A,false,p.2⟩) (fun p=>∃ td' rs its cs R F,AInv A L ip a td cls h l p.1 p.2 td' rs its cs R F) (fun p=>l.length-p.1) (0,_) ?_ rfl ?_ ?_
  ·simp
  ·refine ⟨td,[],[],[],[],[],Nat.zero_le _,?_,.app _,fun p hp=>by simp at hp,fun p hp=>by simp at hp,fun p hp=>by simp at hp,fun p hp=>by simp at hp,fun j hj=>.inl hj,by simp,.nil,.nil,by simp,?_,?_,?_,?_,.nil⟩
   ·rw [lN];exact hP.app _
   ·exact (Q2 (i:=0)).trans (by rw [hav];rfl)
   ·exact Q2 (i:=1)
   ·exact Q2 (i:=2)
   ·exact Q2 (i:=3)
  rintro ⟨i,Li⟩ ⟨td1,rs,its,cs,R,F,hi⟩
  simp only at hi ⊢
  have hle:=hi.le
  have hrs:rs.length=i:=by rw [hi.tr.len,List.length_take];omega
  have hplen:i=(ZNA A.length rs).length:=by simp [ZNA,hrs]
  have hll:=hi.len
  rcases Nat.lt_or_ge i l.length with hlt|hge
  ·obtain ⟨u,hu⟩:∃ u,l[i]?=some u:=⟨l[i]'hlt,by simp [hlt]⟩
   have hum:=jM hu
   have ht1:0<=((i:Nat):Int)/\l[((i:Nat):Int).toNat]?=some u:=⟨by omega,by rw [show ((i:Nat):Int).toNat=i by omega];exact hu⟩
   have hc1:(cls++cs).length+u.cnt<1000000:=by
    have h1:=hi.cl.len;have h2:=hi.tr.cnt
    have h3:Tr.cntL l=Tr.cntL (l.take i)+(u.cnt+Tr.cntL (l.drop (i+1))):=by
     conv=>lhs;rw [<- List.take_append_drop (i+1) l,Zg hu,Tr.cntL_append,Tr.cntL_append]
     simp [Tr.cntL];omega
    rw [lL];omega
   obtain ⟨L1,td2,rx,its2,cs2,R2,F2,hS,ha⟩:=ih u hum (hi.pen.app [Blk.arr 7 0 [u.av]]) hc1;obtain ⟨r,hr,hrm,hrh⟩:=ha.tr.root;have hrx:=ha.rlo _ hr;have hrg:=(ha.rts.get hr).1
   simp only at hrx hrg
   rw [lL,List.length_singleton] at hrx;have f1:=(Frm.app (L:=Li) (X:=YZ ip td1) [Blk.arr 7 0 [u.av]]).trans ha.frm
   have hnx:∀ j,j<4->¬ YZ ip td1 (L.length+j):=fun j hj q=>by
    rcases hi.plo _ q with w|w
    ·have:=hltL _ w;omega
    ·omega
   have g1:=hi.b1;have g2:=hi.b2;have g3:=hi.b3
   rw [<- f1.old _ (by omega) (hnx 1 (by omega))] at g1
   rw [<- f1.old _ (by omega) (hnx 2 (by omega))] at g2
   rw [<- f1.old _ (by omega) (hnx 3 (by omega))] at g3
   have hl1:=ha.frm.len;rw [lL,List.length_singleton] at hl1
   have gA2:∀ T,(L1++T)[L.length+2]?=some (.arr 1 i (ZNA A.length rs)):=fun T=>ZE4 g2
   have gA3:∀ T b,((L1++T).set (L.length+2) b)[L.length+3]?=some (.arr 1 0 [.ref A.length (L.length+2) i 0 i]):=fun T b=>by
    rw [jS (by omega)];exact ZE4 g3
   have gA1:∀ T b c,(((L1++T).set (L.length+2) b).set (L.length+3) c)[L.length+1]?=some (.arr 5 0 [.agg [.int .u64 (0:Nat),.int .i64 ((h+1:Nat):Int),.int .i64 (QF ((l.take i).map Tr.mea)).b,.int .i64 (QF ((l.take i).map Tr.mea)).r,.int .i64 (QF ((l.take i).map Tr.mea)).l]]):=fun T b c=>by
    rw [jS (by omega),jS (by omega)];exact ZE4 g1
   have gAr:∀ T b c,(((L1++T).set (L.length+2) b).set (L.length+3) c)[rx]?=some (.arr 5 0 [r.av]):=fun T b c=>by
    rw [jS (by omega),jS (by omega)];exact ZE4 hrg
   have hsf:=ZHs (l:=(l.take i).map Tr.mea) (fun m hm=>by obtain ⟨w,hw,rfl⟩:=List.mem_map.1 hm;exact hfit w (List.mem_of_mem_take hw))
   have hsl:(((l.take i).map Tr.mea).length:Int)*65536<=262144:=by simp;omega
   have huf:=hfit u hum;rw [<- hrm] at huf;obtain ⟨s1,s2,s3,s4,s5,s6⟩:=hsf;obtain ⟨m1,m2,m3,m4,m5,m6⟩:=huf
   have hbb:0<=(QF ((l.take i).map Tr.mea)).b/\(QF ((l.take i).map Tr.mea)).b<=262144/\0<=(QF ((l.take i).map Tr.mea)).r/\(QF ((l.take i).map Tr.mea)).r<=262144/\0<=(QF ((l.take i).map Tr.mea)).l/\(QF ((l.take i).map Tr.mea)).l<=262144:=⟨s1,by omega,s3,by omega,s5,by omega⟩
   have hpl:(ZNA A.length rs).length+[AV.ptr A.length rx 0 0 0].length<4294967296:=by simp;omega
   repeat' (first|refine YE rfl rfl ht1 Z5 ?_|refine ZnC (gA1 _ _ _) (gAr _ _ _) (by omega) hbb ⟨m1,m2,m3,m4,m5,m6⟩ ?_|refine ZE ?_|refine ZD ?_|refine ZF rfl ?_|refine ZA rfl ?_|refine ZC ?_|(refine Zh rfl rfl (fun _=>?_) (fun _=>?_)<;>try (exfalso;omega))|refine ZV rfl ?_|refine Zm rfl rfl (by omega) ?_|refine Zw rfl rfl rfl ?_|refine QM rfl (Zq _) ?_|refine JF rfl rfl (Zq _) ?_|refine Yf rfl rfl rfl (Z8 _ _ _) (QY _ _) rfl ?_|refine ZB rfl rfl (by first|rfl|(simp only [lE,lN,lC,ZZ,ZW,ZX];first|done|rfl)) (hS) ?_|refine ZP rfl g3 rfl rfl ?_|refine Zho rfl rfl ?_|refine Ze8 (ys:=[.ptr A.length rx 0 0 0]) rfl rfl (ZYA _ _ []) (gA2 _) hplen rfl (Zk3 _ _ _) hpl (by decide) ?_|refine Qo (gA3 _ _) rfl rfl rfl (Jr _ (Nat.lt_succ_self _)) rfl ?_|refine ZI ?_|refine ZL ?_|refine Zy ?_|refine QH ?_)
   have hT3:(((L1++[Blk.arr 1 0 [.ptr A.length rx 0 0 0]]).set (L.length+2) (.arr 1 (i+1) (ZNA A.length rs++[.ptr A.length rx 0 0 0]))).set (L.length+3) (.arr 1 0 ([AV.ref A.length (L.length+2) i 0 i].set 0 (.ref A.length (L.length+2) (i+1) 0 (i+[AV.ptr A.length rx 0 0 0].length))))).length=(L1++[Blk.arr 1 0 [.ptr A.length rx 0 0 0]]).length:=by simp
   refine ⟨(i+1,_),⟨rfl,rfl⟩,⟨td2,rs++[rx],its++its2,cs++cs2,R++R2,F++F2,hi.step hP hu ha (T:=[Blk.arr 1 0 [.ptr A.length rx 0 0 0]]) (by simp) ?_ ?_ ?_ ?_⟩,by simp only;omega⟩
   ·intro j hj n1 n2 n3
    rw [jS (by omega),jS (by omega),jS (by omega),jL hj]
   ·rw [List.getElem?_set_self (by rw [hT3,lL];omega),Zg hu,List.map_append,ZHr]
    rw [jC,List.map_nil,QF,QF,Mea.add_zero,<- hrm];rfl
   ·rw [jS (by omega),jS (by omega),List.getElem?_set_self (by rw [lL];omega)]
    simp [ZNA]
   ·rw [jS (by omega),List.getElem?_set_self (by rw [List.length_set,lL];omega)]
    rfl
  ·obtain rfl:i=l.length:=by omega
   have htr:=hi.tr;have g1:=hi.b1;rw [List.take_length] at htr g1;have g0:=hi.b0
   have g2:Li[L.length+2]?=some (.arr 1 rs.length (ZNA A.length rs)):=by rw [hrs];exact hi.b2
   have g3:Li[L.length+3]?=some (.arr 1 0 [.ref A.length (L.length+2) rs.length 0 rs.length]):=by rw [hrs];exact hi.b3
   have hcl:(cls++cs).length<1000000:=by
    have h1:=hi.cl.len;have h2:=htr.cnt;rw [lL];omega
   have hnx:∀ j,j<4->¬ YZ ip td1 (L.length+j):=fun j hj q=>by
    rcases hi.plo _ q with w|w
    ·have:=hltL _ w;omega
    ·omega
   obtain ⟨L1,td2,hS,hp,hf,hx⟩:=Znk hi.pen (rx:=L.length+1) (Cv.two (n:=A.length) L.length (L.length+3)) hcl
   have hnx2:∀ j,j<4->¬ YZ ip td2 (L.length+j):=fun j hj q=>by
    rcases hf.own _ q with w|w
    ·exact hnx j hj w
    ·omega
   rw [<- hf.old L.length (by omega) (hnx 0 (by omega))] at g0
   rw [<- hf.old _ (by omega) (hnx 1 (by omega))] at g1
   rw [<- hf.old _ (by omega) (hnx 2 (by omega))] at g2
   rw [<- hf.old _ (by omega) (hnx 3 (by omega))] at g3
   have hkl:∀ k∈R.map Prod.fst,L.length+4<=k:=fun k hk=>by
    obtain ⟨p,hp,rfl⟩:=List.mem_map.1 hk;exact hi.rlo p hp
   repeat' (first|refine ZE ?_|refine ZD ?_|refine ZF rfl ?_|refine ZA rfl ?_|refine ZC ?_|(refine Zh rfl rfl (fun _=>?_) (fun _=>?_)<;>try (exfalso;omega))|refine ZH rfl ?_|refine ZBA rfl rfl ?_|refine ZB rfl rfl rfl (hS) ?_|refine ZS ?_|refine Zu ?_|refine ZO ?_|refine Ze ?_|refine Zy ?_|refine Zb rfl ?_|refine Zt ?_)
   all_goals try (exfalso;omega)
   refine ⟨_,_,Xs (.inr rfl) rfl rfl rfl rfl,L1,td2,L.length+1,its++[⟨L.length+1,.inn (h+1) rs⟩],cs++[clV A.length Li.length (Li.length+2) (Li.length+1)],R++[(L.length+1,⟨0,h+1,QF (l.map Tr.mea)⟩)],
    (F++[(L.length,Blk.arr 7 0 [(Tr.mk 0 (h+1) .zero [] (some l)).av]),(L.length+3,Blk.arr 1 0 [.ref A.length (L.length+2) rs.length 0 rs.length]),(L.length+2,Blk.arr 1 rs.length (ZNA A.length rs))]) ++
     [(Li.length,Blk.arr 1 0 [.ptr A.length ip 0 0 0]),(Li.length+1,Blk.arr 1 0 [.ptr A.length (L.length+1) 0 0 0]),(Li.length+2,Blk.arr 1 0 [.func (.func JH) [] [.ptr A.length L.length 0 0 0,.ptr A.length (L.length+3) 0 0 0]])],rfl,rfl,
    ⟨by rw [<- List.append_assoc];exact hp,hi.frm.trans hf,?_,?_,?_,?_,?_,.inner htr hi.nd (fun q=>by have:=hkl _ q;omega),?_,(hi.fw.append (.cons (by decide) (.cons (by decide) (.cons (by decide) .nil)))).append (.cons (by decide) (.cons (by decide) (.cons (by decide) .nil)))⟩⟩
   ·refine Fx.append (Fx.append (hi.fx.frm hf) (fun p hp=>?_)) hx
    simp only [List.mem_cons,List.not_mem_nil,or_false] at hp
    rcases hp with rfl|rfl|rfl
    ·exact ⟨g0,hnx2 0 (by omega)⟩
    ·exact ⟨g3,hnx2 3 (by omega)⟩
    ·exact ⟨g2,hnx2 2 (by omega)⟩
   ·exact Rx.append (hi.rts.frm hf) (Rx.one g1 (hnx2 1 (by omega)))
   ·intro p hp
    simp only [List.mem_append,List.mem_cons,List.not_mem_nil,or_false] at hp
    rcases hp with (q|rfl|rfl|rfl)|rfl|rfl|rfl
    ·have:=hi.flo p q;omega
    all_goals simp only
    all_goals omega
   ·intro p hp
    simp only [List.mem_append,List.mem_singleton] at hp
    rcases hp with q|rfl
    ·have:=hi.rlo p q;omega
    ·simp only;omega
   ·refine (hi.cl.mono (fun p hp=>by simp [hp])).append (.cons ⟨Li.length,Li.length+2,Li.length+1,.func (.func JH) [] [.ptr A.length L.length 0 0 0,.ptr A.length (L.length+3) 0 0 0],rfl,by simp,by simp,by simp,⟨L.length,L.length+3,L.length+2,Tr.mk 0 (h+1) .zero [] (some l),rfl,rfl,by simp,by simp,by simp⟩⟩ .nil)
   ·rw [List.map_append,List.nodup_append]
    refine ⟨hi.nd,by simp,?_⟩
    intro x hx y hy e;simp only [jC,List.map_nil,List.mem_singleton] at hy
    have:=hkl x hx
    omega
 obtain ⟨v,st',h1,L',td',rx,its,cs,R,F,rfl,rfl,h2⟩:=hmain;exact ⟨L',td',rx,its,cs,R,F,h1,h2⟩
theorem Zo3 {N:ZJ} {t:Tr} {A:List (Bool × List Blk)} (hv:Val N t):t.bytes<=65536->∀ {L:List Blk} {ip:Nat} {a td:AV} {cls:List AV},Pen A L ip a td cls->cls.length+t.cnt<1000000 ->
 ∃ L' td' rx its cs R F,S Tb Qr [.ptr A.length ip 0 0 0,t.av] ⟨A,false,L⟩=some (.ptr A.length rx 0 0 0,⟨A,false,L'⟩)/\Added A L ip a td cls t L' td' rx its cs R F:=by
 induction hv with
 | @kept o h m k x h0 hx hok hh hm hk=>intro _ L ip a td cls hP hc;exact Zk1 hP h0 hk
 | @leaf s k h1 h2 hk=>intro _ L ip a td cls hP hc;exact Zk2 hP (by omega) ⟨h1,h2⟩ hk
 | @inner h l hh h2 h4 hl hb hv ih =>
  intro hb2 L ip a td cls hP hc
  have hbs:∀ u∈l,u.bytes<=65536:=fun u hu=>by
   obtain ⟨i,hi,rfl⟩:=List.getElem_of_mem hu
   have h3:Tr.bytesL l=Tr.bytesL (l.take i)+(l[i].bytes+Tr.bytesL (l.drop (i+1))):=by
    conv=>lhs;rw [<- List.take_append_drop (i+1) l,Zg (jE hi),Tr.bytesL_append,Tr.bytesL_append]
    simp [Tr.bytesL];omega
   have n1:=Tr.bytesL_nonneg (l:=l.take i) (fun t ht=>by have:=(hv t (List.mem_of_mem_take ht)).pos.2;omega)
   have n2:=Tr.bytesL_nonneg (l:=l.drop (i+1)) (fun t ht=>by have:=(hv t (List.mem_of_mem_drop ht)).pos.2;omega)
   rw [Tr.bytes,Tr.bytesO] at hb2
   simp [Mea.zero] at hb2
   omega
  exact ZoH (fun u hu=>ih u hu (hbs u hu)) ⟨by omega,h4⟩ (fun u hu=>(hv u hu).mea_fit (hbs u hu)) (by omega) hP hc
theorem ZnE {st:St} {n xb:Nat} {s:List UInt8} (h:st.get n xb=some (.arr 3 0 [.agg [.int .i64 0,.str s,.nils]])):S Tb Js [.ptr n xb 0 0 0] st=some (Nd.av ⟨0,s,none⟩,st):=by
 refine QJ rfl (fun A hA=>?_)
 have g:=fun L=>ZU hA (ro:=false) (L:=L) h
 repeat' (first|refine ZE ?_|refine ZD ?_|refine ZA rfl ?_|refine ZC ?_|refine Za rfl rfl rfl ?_|refine Zl rfl rfl rfl rfl rfl rfl ?_|refine Z9 rfl (g _) rfl rfl ?_|refine ZS ?_|refine ZO ?_)
 refine XR hA (by first|exact .inl rfl|exact .inr rfl) rfl rfl rfl rfl rfl ?_
 rfl
theorem ZYF (n b:Nat) (st:St):∀ l:List Kid,mapSt (ZY (n+2) b) st (l.map Kid.av)=some (l.map Kid.av,st)
 | []=>rfl
 | k::l=>by
  rw [jC,mapSt]
  show ((some (k.av,st)).bind fun r=>(mapSt (ZY (n+2) b) r.2 (l.map Kid.av)).bind (Xl r.1))=_
  rw [oS,ZYF n b st l];rfl
theorem Zk4 {b lv ix ver q n:Nat} {h:Int} {s:List UInt8} (st:St) (hl:lv<b):ZY QD b st (.agg [.int .i64 h,.str s,.ref lv ix ver q n])=some (.agg [.int .i64 h,.str s,.ref lv ix ver q n],st):=by
 show (mapSt (keepN (ZY 5 b)) _ _).bind ZIQ=_
 simp only [mapSt,keepN,ZAB,jB,if_false,ZY,oS,if_pos hl,Xl,ZIQ]
theorem ZoI {A:List (Bool × List Blk)} {L:List Blk} {ix ver n:Nat} {l:List Kid} {h:Int} {s:List UInt8} (hg:L[ix]?=some (.arr 4 ver (l.map Kid.av))) (hn:n=l.length) :
 ZY QD A.length ⟨A,false,L⟩ (.agg [.int .i64 h,.str s,.ref A.length ix ver 0 n])=some (.agg [.int .i64 h,.str s,.lit (l.map Kid.av)],⟨A,false,L.set ix .dead⟩):=by
 subst hn
 have h1:=ZIB (n:=4) (A:=A) (s:=0) (m:=l.length) hg (by simp) (es':=l.map Kid.av) (by rw [List.drop_zero,List.take_of_length_le (by simp)];exact ZYF 2 0 _ l)
 show (mapSt (keepN (ZY 5 A.length)) _ _).bind ZIQ=_
 simp only [mapSt,keepN,ZAB,jB,if_false,ZY,oS] at h1 ⊢;rw [h1];simp only [oS,Xl,ZIQ]
def kgV (lv kx:Nat):Nat->AV
 | 0=>.nils
 | i+1=>.ref lv kx i 0 (i+1)
def kgB (ks:List Kid):Nat->List Blk
 | 0=>[]
 | i+1=>[.arr 4 i ((ks.take (i+1)).map Kid.av)]
def Ro.kid (r:Ro):Kid:=⟨r.at_,r.m⟩
theorem ZnF {st:St} {n tb kb kx:Nat} {t:Tr} {rs:List Nat} {ρ:Nat->Ro} (h1:st.get n tb=some (.arr 7 0 [t.av])) (h2:st.get n kb=some (.arr 1 0 [.ref n kx rs.length 0 rs.length])) (h3:st.get n kx=some (.arr 1 rs.length (ZNA n rs))) (h4:∀ r∈rs,st.get n r=some (.arr 5 0 [(ρ r).av]))
 (hl:1<=rs.length/\rs.length<=4):S Tb JH [.ptr n tb 0 0 0,.ptr n kb 0 0 0] st=some (Nd.av ⟨t.h,[],some (rs.map fun r=>(ρ r).kid)⟩,st):=by
 refine QJ rfl (fun A hA=>?_)
 have g1:=fun L=>ZU hA (ro:=false) (L:=L) h1
 have g2:=fun L=>ZU hA (ro:=false) (L:=L) h2
 have g3:=fun L=>ZU hA (ro:=false) (L:=L) h3
 obtain ⟨ks,hks⟩:∃ ks,ks=rs.map fun r=>(ρ r).kid:=⟨_,rfl⟩
 rw [<- hks]
 have hkl:ks.length=rs.length:=by rw [hks,List.length_map]
 have hwi:∀ L,wIs 1 rs.length (St.get ⟨A,false,L⟩ n kx)=true:=fun L=>by rw [g3];simp [wIs]
 repeat' (first|refine ZE ?_|refine ZD ?_|refine ZF rfl ?_|refine ZQ rfl rfl ?_|refine ZA rfl ?_|refine ZC ?_|refine YB rfl ?_|refine Zn rfl rfl rfl ?_|refine Za rfl rfl rfl ?_|refine Zl rfl rfl rfl rfl rfl rfl ?_|refine Z9 rfl (g1 _) rfl (ZAn _) ?_|refine Z9 rfl (g2 _) rfl rfl ?_|refine ZL ?_)
 refine Z2 (α:=Nat) (fun i=>[(2,.ptr A.length 0 0 0 0),(3,.ptr A.length 1 0 0 0),(9,.ref n kx rs.length 0 rs.length),(10,.int .i64 rs.length),(11,.int .i64 i)])
  (fun i=>⟨A,false,[.arr 3 0 [.agg [.int .i64 0,.str [],.nils]],.arr 3 0 [.agg [.int .i64 t.h,.str [],kgV A.length 2 i]]]++kgB ks i⟩) (fun i=>i<=rs.length) (fun i=>rs.length-i) 0 rfl rfl (Nat.zero_le _) ?_
 intro i hi;replace hi:i<=rs.length:=hi
 rcases Nat.lt_or_ge i rs.length with hlt|hge
 ·obtain ⟨r,hr⟩:∃ r,rs[i]?=some r:=⟨rs[i]'hlt,by simp [hlt]⟩
  have g4:=fun L=>ZU hA (ro:=false) (L:=L) (h4 r (jM hr))
  have hp:(ZNA n rs)[0+((i:Nat):Int).toNat]?=some (.ptr n r 0 0 0):=by
   rw [show 0+((i:Nat):Int).toNat=i by omega,ZNA,jG,hr];rfl
  have hki:ks[i]?=some (ρ r).kid:=by rw [hks,jG,hr];rfl
  have htk:=Zg hki;unfold Ro.av at g4
  cases i with
  | zero =>
   simp only [kgV,kgB]
   repeat' (first|refine ZE ?_|refine ZD ?_|refine ZF rfl ?_|refine ZQ rfl rfl ?_|refine ZP rfl rfl rfl rfl ?_|refine ZA rfl ?_|refine ZC ?_|refine Zz rfl rfl ?_|(refine Zh rfl rfl (fun _=>?_) (fun _=>?_)<;>try (exfalso;omega))|refine ZV rfl ?_|refine Zm rfl rfl (by omega) ?_|refine Zn rfl rfl rfl ?_|refine Zl rfl rfl rfl (Jr _ (Nat.lt_succ_self _)) rfl rfl ?_|refine ZBB rfl rfl (by omega) (hwi _) ?_|refine Z9 rfl (g3 _) hp rfl ?_|refine Z9 rfl (g4 _) rfl rfl ?_|refine Zhp rfl rfl rfl ?_|refine ZKO rfl rfl rfl (by simp) (by decide) rfl ?_|refine ZI ?_|refine ZL ?_|refine Zy ?_|refine QH ?_)
   refine ⟨0+1,⟨rfl,?_⟩,by omega,by omega⟩
   simp only [kgB,htk];rfl
  | succ i =>
   simp only [kgV,kgB]
   have hl2:∀ x:AV,((ks.take (i+1)).map Kid.av).length+[x].length<4294967296:=fun x=>by simp;omega
   have hn2:i+1=((ks.take (i+1)).map Kid.av).length:=by simp;omega
   repeat' (first|refine ZCC rfl rfl rfl hn2 rfl rfl (hl2 _) (by decide) ?_|refine ZE ?_|refine ZD ?_|refine ZF rfl ?_|refine ZQ rfl rfl ?_|refine ZP rfl rfl rfl rfl ?_|refine ZA rfl ?_|refine ZC ?_|refine Zz rfl rfl ?_|(refine Zh rfl rfl (fun _=>?_) (fun _=>?_)<;>try (exfalso;omega))|refine ZV rfl ?_|refine Zm rfl rfl (by omega) ?_|refine Zn rfl rfl rfl ?_|refine Zl rfl rfl rfl (Jr _ (Nat.lt_succ_self _)) rfl rfl ?_|refine ZBB rfl rfl (by omega) (hwi _) ?_|refine Z9 rfl (g3 _) hp rfl ?_|refine Z9 rfl (g4 _) rfl rfl ?_|refine Zhp rfl rfl rfl ?_|refine ZI ?_|refine ZL ?_|refine Zy ?_|refine QH ?_)
   refine ⟨i+1+1,⟨rfl,?_⟩,by omega,by omega⟩
   simp only [kgB,htk,List.map_append];rfl
 ·obtain rfl:i=rs.length:=by omega
  obtain ⟨m,hm⟩:∃ m,rs.length=m+1:=⟨rs.length-1,by omega⟩
  have htk:ks.take (m+1)=ks:=List.take_of_length_le (by omega)
  rw [hm];simp only [kgV,kgB,htk]
  repeat' (first|refine ZE ?_|refine ZD ?_|refine ZP rfl rfl rfl rfl ?_|refine ZA rfl ?_|refine ZC ?_|(refine Zh rfl rfl (fun _=>?_) (fun _=>?_)<;>try (exfalso;omega))|refine ZH rfl ?_|refine Zl rfl rfl rfl (Zk4 _ (Nat.lt_succ_self _)) rfl rfl ?_|refine ZS ?_|refine Zu ?_|refine ZO ?_|refine Ze ?_|refine Zb rfl ?_|refine Zt ?_)
  all_goals try (exfalso;omega)
  refine XR hA (.inr rfl) rfl rfl rfl (ZoI (l:=ks) rfl (by omega)) rfl ?_
  rfl
def Q5 (ρ:Nat->Ro):ItC->Nd
 | .leaf s=>⟨0,s,none⟩
 | .inn h ks=>⟨h,[],some (ks.map fun k=>(ρ k).kid)⟩
def Zg6:ItC->List Nat
 | .leaf _=>[]
 | .inn _ ks=>ks
theorem ZnG (x:Nd):weak x.av=x.av:=by
 obtain ⟨h,s,k⟩:=x
 cases k<;>rfl
theorem wkPN {a:AV} (h:weak a=a) (x:Nd):ZX (ZZ ([]++[a,x.av]++[]))=some [a,x.av]:=by
 simp only [lE,lN,lC,ZZ,ZnG,ZX,h]
theorem ZjJ {ρ:Nat->Ro} {c:ItC} (h:NdOk (Q5 ρ c)):((Q5 ρ c).h=0->(Q5 ρ c).kids=none)/\∀ hh ks,c=.inn hh ks->1<=ks.length/\ks.length<=4:=by
 cases c with
 | leaf s=>exact ⟨fun _=>rfl,fun hh ks q=>by simp at q⟩
 | inn hh ks =>
  rcases h with q|⟨n,l,q⟩
  ·have:=q.lo;simp [Q5] at this
  ·have e:=q.eq
   have h1:=q.lo;have h2:=q.hi;simp only [Q5,Nd.mk.injEq,oJ] at e;obtain ⟨e1,_,e3⟩:=e
   refine ⟨fun w=>by simp [Q5] at w;omega,fun hh' ks' q2=>?_⟩
   simp only [ItC.inn.injEq] at q2;obtain ⟨rfl,rfl⟩:=q2;rw [<- e3,List.length_map] at h1 h2;omega
theorem ZjK {st:St} {n:Nat} {F:List (Nat × Blk)} {ρ:Nat->Ro} {cv:AV} {c:ItC} (hcv:CvOk n F cv c) (hF:∀ p∈F,st.get n p.1=some p.2) (hR:∀ r∈Zg6 c,st.get n r=some (.arr 5 0 [(ρ r).av])) (hl:∀ h ks,c=.inn h ks->1<=ks.length/\ks.length<=4) :
 S Tb (match cv with|.func (.func g) _ _=>g|_=>0) (match cv with|.func _ _ cap=>cap|_=>[]) st=some ((Q5 ρ c).av,st):=by
 cases c with
 | leaf s =>
  obtain ⟨xb,rfl,h2⟩:=hcv;exact ZnE (hF _ h2)
 | inn h ks =>
  obtain ⟨tb,kb,kx,t,rfl,h2,h3,h4,h5⟩:=hcv;subst h2;exact ZnF (hF _ h3) (hF _ h4) (hF _ h5) hR (hl _ _ rfl)
theorem CvOk.form {n:Nat} {F:List (Nat × Blk)} {cv:AV} {c:ItC} (h:CvOk n F cv c):Cv n cv:=by
 cases c with
 | leaf s=>obtain ⟨xb,rfl,_⟩:=h;exact .one _
 | inn h ks=>obtain ⟨tb,kb,kx,t,rfl,_⟩:=h;exact .two _ _
def Ro.wr (r:Ro) (h:Nat):Ro:=⟨h,r.h,r.m⟩
theorem ZnH {st:St} {n ip la b b0 b1 b2:Nat} {td rp cv:AV} {r:AR} {F:List (Nat × Blk)} {ρ:Nat->Ro} {it:It} (hb0:st.get n b0=some (.arr 1 0 [.ptr n ip 0 0 0])) (hb1:st.get n b1=some (.arr 1 0 [cv])) (hb2:st.get n b2=some (.arr 1 0 [.ptr n it.rx 0 0 0]))
 (hip:st.get n ip=some (.arr 3 0 [.agg [.ptr la (b+5) 0 0 0,td,rp]])) (hcv:CvOk n F cv it.c) (hF:∀ p∈F,st.get n p.1=some p.2) (hR:∀ k∈Zg6 it.c,st.get n k=some (.arr 5 0 [(ρ k).av])) (hrx:st.get n it.rx=some (.arr 5 0 [(ρ it.rx).av]))
 (hA:Has st la b r) (ho:AROk r) (hn:0<r.n) (hx:NdOk (Q5 ρ it.c)) (hL:∀ k∈(Q5 ρ it.c).ks,∃ y,lk r.nodes k.at_=some y/\NdOk y/\y.h+1=(Q5 ρ it.c).h/\y.mea=k.m) (hw:st.wr n)
 (hs:∀ i,i=it.rx\/i=b2->¬ (n=la/\b<=i/\i<=b+5)) :
 S Tb Xi [.ptr n b0 0 0 0,.ptr n b1 0 0 0,.ptr n b2 0 0 0] st=some (.tup [.int .u64 r.next,.int .i64 0],(QP st la b (r.add (Q5 ρ it.c))).upd n it.rx (.arr 5 0 [((ρ it.rx).wr r.next).av])):=by
 obtain ⟨hk0,hk4⟩:=ZjJ hx
 refine Xw rfl (fun A hA'=>?_)
 have g0:=fun L=>ZU hA' (ro:=false) (L:=L) hb0
 have g1:=fun L=>ZU hA' (ro:=false) (L:=L) hb1
 have g2:=fun L=>ZU hA' (ro:=false) (L:=L) hb2
 have g3:=fun L=>ZU hA' (ro:=false) (L:=L) hip
 have hC:=fun L=>ZjK (st:=St.allRo ⟨A,false,L⟩) (ρ:=ρ) hcv (fun p hp=>by rw [Jo];exact ZU hA' (hF p hp)) (fun k hk=>by rw [Jo];exact ZU hA' (hR k hk)) hk4
 have hAl:=fun L=>Zk0 (hA.push hA' (ro:=false) (L:=L)) ho hn hx hk0 hL
 have hle:=hA.le;have hP:=hA.put (r.add (Q5 ρ it.c));have hw1:(QP st la b (r.add (Q5 ρ it.c))).wr n:=ZM0 hA.cl.wr hw
 have hg2:(QP st la b (r.add (Q5 ρ it.c))).get n b2=some (.arr 1 0 [.ptr n it.rx 0 0 0]):=by rw [hA.out _ (hs _ (.inr rfl))];exact hb2
 have hgr:(QP st la b (r.add (Q5 ρ it.c))).get n it.rx=some (.arr 5 0 [(ρ it.rx).av]):=by rw [hA.out _ (hs _ (.inl rfl))];exact hrx
 cases hcv.form
 all_goals simp only at hC
 all_goals repeat' (first|refine ZB rfl rfl (wkPN rfl _) (hAl _) ?_|refine ZE ?_|refine ZD ?_|refine ZF rfl ?_|refine ZQ rfl rfl ?_|refine Zs rfl rfl ?_|refine ZA rfl ?_|refine ZC ?_|refine Zz rfl rfl ?_|(refine Zp rfl rfl (fun _=>?_) (fun _=>?_)<;>try (exfalso;omega))|refine ZV rfl ?_|refine Z9 rfl (g0 _) rfl rfl ?_|refine Z9 rfl (g1 _) rfl rfl ?_|refine Z9 rfl (g3 _) rfl rfl ?_|refine Yp rfl rfl rfl (hC _) ?_)
 all_goals rw [YV hA' hle]
 all_goals obtain ⟨A1,hA1⟩:∃ A1,A1=(QP st la b (r.add (Q5 ρ it.c))).ps:=⟨_,rfl⟩
 all_goals rw [<- hA1]
 all_goals generalize QP st la b (r.add (Q5 ρ it.c))=st1 at *
 all_goals have q2:=fun L=>ZU hA1 (ro:=false) (L:=L) hg2
 all_goals repeat' (first|refine ZF rfl ?_|refine ZQ rfl rfl ?_|refine Zz rfl rfl ?_|refine Z9 rfl (q2 _) rfl rfl ?_)
 all_goals refine is_stP hA1 rfl rfl hw1 hgr rfl rfl rfl (fun A2 hA2=>?_)
 all_goals repeat' (first|refine ZE ?_|refine ZD ?_|refine ZF rfl ?_|refine ZA rfl ?_|refine ZC ?_|refine ZS ?_|refine ZO ?_)
 all_goals refine Zj hA2 (.inr rfl) rfl rfl rfl rfl ?_
 all_goals rfl
theorem ZoJ {st:St} {n ip la b b0 b1 b2 tx ver j:Nat} {rp cv cl:AV} {cls:List AV} {r:AR} {F:List (Nat × Blk)} {ρ:Nat->Ro} {it:It} (htd:st.get n tx=some (.arr 1 ver cls)) (hj:cls[j]?=some cl) (hcl:ClOk n ip F cl it) (hlen:cls.length<1000000)
 (hip:st.get n ip=some (.arr 3 0 [.agg [.ptr la (b+5) 0 0 0,.ref n tx ver j (cls.length-j),rp]])) (hF:∀ p∈F,st.get n p.1=some p.2) (hR:∀ k∈Zg6 it.c,st.get n k=some (.arr 5 0 [(ρ k).av])) (hrx:st.get n it.rx=some (.arr 5 0 [(ρ it.rx).av]))
 (hA:Has st la b r) (ho:AROk r) (hn:0<r.n) (hx:NdOk (Q5 ρ it.c)) (hL:∀ k∈(Q5 ρ it.c).ks,∃ y,lk r.nodes k.at_=some y/\NdOk y/\y.h+1=(Q5 ρ it.c).h/\y.mea=k.m) (hw:st.wr n)
 (hs:∀ i,i=it.rx\/i=ip\/i=tx\/(∃ p∈F,i=p.1)->¬ (n=la/\b<=i/\i<=b+5)) (hne:it.rx≠ip/\it.rx≠tx/\tx≠ip) :
 S Tb X6 [.ptr n ip 0 0 0] st=some (.tup [.int .u64 r.next,.bool (decide (cls.length=j+1)),.int .i64 0],
  ((QP st la b (r.add (Q5 ρ it.c))).upd n it.rx (.arr 5 0 [((ρ it.rx).wr r.next).av])).upd n ip (.arr 3 0 [.agg [.ptr la (b+5) 0 0 0,.ref n tx ver (j+1) (cls.length-j-1),rp]])):=by
 obtain ⟨b0,b1,b2,cv,rfl,h0,h1,h2,hcv⟩:=hcl;have hjl:=(List.getElem?_eq_some_iff.1 hj).1
 refine Xw rfl (fun A hA'=>?_)
 have g3:=fun L=>ZU hA' (ro:=false) (L:=L) hip
 have gt:=fun L=>ZU hA' (ro:=false) (L:=L) htd
 have hwi:∀ L,wIs 1 ver (St.get ⟨A,false,L⟩ n tx)=true:=fun L=>by rw [gt];simp [wIs]
 have hle:=hA.le;have hnl:n<=st.A.length:=St.get_le hip;have hP:=hA.put (r.add (Q5 ρ it.c));have hw1:(QP st la b (r.add (Q5 ρ it.c))).wr n:=ZM0 hA.cl.wr hw;have hp1:=hs ip (.inr (.inl rfl));have hp2:=hs tx (.inr (.inr (.inl rfl)));have hp3:=hs it.rx (.inl rfl);have k1:(QP st la b (r.add (Q5 ρ it.c))).get n it.rx=_:=(hA.out _ hp3).trans hrx;have k2:(QP st la b (r.add (Q5 ρ it.c))).get n ip=_:=(hA.out _ hp1).trans hip;have k3:(QP st la b (r.add (Q5 ρ it.c))).get n tx=_:=(hA.out _ hp2).trans htd
 have hput:=fun L=>ZnH (st:=⟨A,false,L⟩) (ρ:=ρ) (ZU hA' (hF _ h0)) (ZU hA' (hF _ h1)) (ZU hA' (hF _ h2)) (g3 L) hcv (fun p hp=>ZU hA' (hF p hp)) (fun k hk=>ZU hA' (hR k hk)) (ZU hA' hrx) (hA.push hA' (ro:=false) (L:=L)) ho hn hx hL (X4 hA' hnl hw)
  (fun i hi=>by
   rcases hi with rfl|rfl
   ·exact hp3
   ·exact hs _ (.inr (.inr (.inr ⟨_,h2,rfl⟩))))
 have e1:∀ L,(QP ⟨A,false,L⟩ la b (r.add (Q5 ρ it.c))).upd n it.rx (.arr 5 0 [((ρ it.rx).wr r.next).av])=⟨((QP st la b (r.add (Q5 ρ it.c))).upd n it.rx (.arr 5 0 [((ρ it.rx).wr r.next).av])).ps,false,L⟩:=fun L=>by
  rw [YV hA' hle]
  exact YO rfl (by rw [ZBl];exact hnl)
 simp only [e1] at hput;clear e1
 have m1:∀ l' i',((QP st la b (r.add (Q5 ρ it.c))).upd n it.rx (.arr 5 0 [((ρ it.rx).wr r.next).av])).get l' i'=if l'=n/\i'=it.rx then some (.arr 5 0 [((ρ it.rx).wr r.next).av]) else (QP st la b (r.add (Q5 ρ it.c))).get l' i':=fun l' i'=>St.get_upd k1 rfl
 have n2:=(m1 n ip).trans ((if_neg (fun q=>hne.1 q.2.symm)).trans k2)
 have n3:=(m1 n tx).trans ((if_neg (fun q=>hne.2.1 q.2.symm)).trans k3)
 have hw2:((QP st la b (r.add (Q5 ρ it.c))).upd n it.rx (.arr 5 0 [((ρ it.rx).wr r.next).av])).wr n:=St.wr_upd hw1 hw1;clear m1 k1 k2 k3
 generalize (QP st la b (r.add (Q5 ρ it.c))).upd n it.rx (.arr 5 0 [((ρ it.rx).wr r.next).av])=st1 at *
 have hj2:cls[j+((0:Nat):Int).toNat]?=some (clV n b0 b1 b2):=by simpa using hj
 unfold clV at hj2
 repeat' (first|refine ZE ?_|refine ZD ?_|refine ZF rfl ?_|refine ZQ rfl rfl ?_|refine ZA rfl ?_|refine ZC ?_|refine Zz rfl rfl ?_|refine YB rfl ?_|(refine Zp rfl rfl (fun _=>?_) (fun _=>?_)<;>try (exfalso;omega))|refine ZH rfl ?_|refine JA rfl rfl rfl rfl ?_|refine Z9 rfl (g3 _) rfl rfl ?_|refine ZBB rfl rfl (by omega) (hwi _) ?_|refine Z9 rfl (gt _) hj2 rfl ?_|refine ZI ?_)
 all_goals try (exfalso;omega)
 refine ZB rfl rfl rfl (hput _) ?_;obtain ⟨A1,hA1⟩:∃ A1,A1=st1.ps:=⟨_,rfl⟩;rw [<- hA1]
 have q2:=fun L=>ZU hA1 (ro:=false) (L:=L) n2
 have q3:=fun L=>ZU hA1 (ro:=false) (L:=L) n3
 have hwi1:∀ L,wIs 1 ver (St.get ⟨A1,false,L⟩ n tx)=true:=fun L=>by rw [q3];simp [wIs]
 repeat' (first|refine ZE ?_|refine ZD ?_|refine ZF rfl ?_|refine ZQ rfl rfl ?_|refine Zs rfl rfl ?_|refine ZA rfl ?_|refine ZC ?_|refine Zz rfl rfl ?_|(refine Zk rfl rfl (fun _=>?_) (fun _=>?_)<;>try (exfalso;omega))|refine ZH rfl ?_|refine Z9 rfl (q2 _) rfl rfl ?_|refine ZJQ rfl rfl (by omega) (hwi1 _) ?_|refine ZI ?_)
 all_goals try contradiction
 refine is_stP hA1 rfl rfl hw2 n2 rfl (Jr _ (Nat.lt_succ_self _)) rfl (fun A2 hA2=>?_)
 have eB:Blk.arr 3 0 ([AV.agg [.ptr la (b+5) 0 0 0,.ref n tx ver j (cls.length-j),rp]].set 0 (.agg [.ptr la (b+5) 0 0 0,.ref n tx ver (j+(1:Int).toNat) (cls.length-j-(1:Int).toNat),rp]))=Blk.arr 3 0 [.agg [.ptr la (b+5) 0 0 0,.ref n tx ver (j+1) (cls.length-j-1),rp]]:=rfl;rw [eB] at hA2;have r2:(st1.upd n ip (Blk.arr 3 0 [.agg [.ptr la (b+5) 0 0 0,.ref n tx ver (j+1) (cls.length-j-1),rp]])).get n ip=_:=(St.get_upd n2 rfl).trans (if_pos ⟨rfl,rfl⟩)
 have p2:=fun L=>ZU hA2 (ro:=false) (L:=L) r2
 repeat' (first|refine ZE ?_|refine ZD ?_|refine ZF rfl ?_|refine ZQ rfl rfl ?_|refine ZA rfl ?_|refine ZC ?_|refine Zz rfl rfl ?_|refine YB rfl ?_|(refine Zp rfl rfl (fun _=>?_) (fun _=>?_)<;>try (exfalso;omega))|refine Z9 rfl (p2 _) rfl rfl ?_|refine ZS ?_|refine ZO ?_)
 ·rename_i hz
  rw [decide_eq_true (show cls.length=j+1 by omega)]
  exact Zj hA2 (.inr rfl) rfl rfl rfl rfl rfl
 ·rename_i hz
  rw [decide_eq_false (show ¬ cls.length=j+1 by omega)]
  exact Zj hA2 (.inr rfl) rfl rfl rfl rfl rfl
end Go.Q15
