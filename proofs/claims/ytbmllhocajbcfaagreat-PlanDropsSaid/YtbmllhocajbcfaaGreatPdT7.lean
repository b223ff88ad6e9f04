/- A part of the proof: M12, M13, M16, M2b, M19, PB, M14, M20, M21, M22, M23, M24, M25, M26, M27, M28, M29, M30, M31, M32, M15, MW, RA, W5. No condition. -/
import Derived.Test.YtbmllhocajbcfaaGreatPdT6
set_option linter.unusedVariables false
set_option linter.unusedSimpArgs false
namespace Go.Q15
open Go Go.QAbs
set_option maxRecDepth 100000
set_option maxHeartbeats 8000000
section
variable {O:Orc} {k:List Fr} {Q:YY} {e:Env} {A:List (Bool × List Blk)} {L:List Blk} {keep:List Nat} {is:List PI} {d:Nat}
theorem ZLV {a b:Opd} {agg:Bool} {n ix ver i o jx vb ib ob w:Nat} {es:List AV} {x v:AV} (ha:Zo e a=some (.ptr A.length ix ver i o)) (hb:Zo e b=some (.ptr A.length jx vb ib ob)) (hne:Nat.beq ix jx=false)
 (hg:L[ix]?=some (Blk.arr w ver es)) (hx:es[i]?=some x) (hv:JJ x agg o n=some v) (h:Is O is keep k Q ((d,v)::e) ⟨A,false,L⟩):Is O (⟨some d,none,false,.w (.hide [b]) (.ld agg n a)⟩::is) keep k Q e ⟨A,false,L⟩:=by
 refine ZbP ?_ h
 have hp:ZAF (Xq e [b]) A.length ix=false:=by
  have hxy:ix≠jx:=fun q=>by subst q;simp at hne
  simp [ZAF,Xq,ZL hb,ZDh,hxy]
 have hgt:(St.hide (ZAF (Xq e [b])) ⟨A,false,L⟩).get A.length ix=some (Blk.arr w ver es):=by
  rw [ZB8,hp,St.get_cur,hg];rfl
 simp only [QE,PO.reads,if_true,evalPO,ZL ha,loadP,hgt,ZIy,hx,hv,Option.bind_some,Qd,QW]
theorem ZOR {a x:Opd} {n ix ver i o w:Nat} {es:List AV} {v v' y:AV} (hg:L[ix]?=some (Blk.arr w ver es)) (ha:Zo e a=some (.ptr A.length ix ver i o)) (hx:Zo e x=some v) (hy:es[i]?=some y) (him:imm 6 v=true)
 (hs:Zi QU (A.length+1) ⟨A,false,L⟩ v=some (v,⟨A,false,L⟩)) (hv:(Q0 w y o n v).bind YP=some v') (h:Is O is keep k Q e ⟨A,false,L.set ix (Blk.arr w ver (es.set i v'))⟩):Is O (⟨none,none,false,.w (.plain a) (.st n a x)⟩::is) keep k Q e ⟨A,false,L⟩:=by
 have hlt:ix<L.length:=by
  rw [List.getElem?_eq_some_iff] at hg;exact hg.1
 have hv':Q0 w y o n v=some v':=by
  simp only [Option.bind_eq_some_iff] at hv;obtain ⟨u,h1,h2⟩:=hv;rw [h1,Y5 h2]
 refine QA (od:=none) (v:=.undef) (st':=⟨A,false,L.set ix (Blk.arr w ver (es.set i v'))⟩) ?_ h
 have hsb:ZFM (.ptr A.length ix ver i o) (.ptr A.length ix ver i o)=true:=by simp [ZFM]
 simp only [Zs,QE,ZNU,ZL ha,ZL hx,hsb,him,and_self,if_true];simp only [evalPO,ZL ha,ZL hx,ZAd,hs,Option.bind_some,ZD3,St.get_cur,hg,vis,XO,if_true,hy,hv',St.put,if_false,jB,if_pos hlt,ZBY]
end
theorem ZD0 {e:Env} {A:List (Bool × List Blk)} {st:St} {L:List Blk} {x:Ex} {b b2 c ix ver w ix2 ver2 w2:Nat} {t t2:Tr} {k:IntKind} {n:Int} {u:AV} (hA:A=st.A++[(st.ro,st.L)]) (hx:x=.norm\/x=.ret) (ht:Jw e b=some (.ptr A.length ix ver 0 0)) (hg:L[ix]?=some (.arr w ver [t.av]))
 (ht2:Jw e b2=some (.ptr A.length ix2 ver2 0 0)) (hg2:L[ix2]?=some (.arr w2 ver2 [t2.av])) (hc:Jw e c=some (.int k n)) (hu:.tup [t.av,t2.av,.int k n]=u):Jv false [.c b true 7,.c b2 true 7,.s c] (x,e,⟨A,false,L⟩)=some (u,st):=by
 subst hu;refine ZFa (v:=.tup [t.av,t2.av,.int k n]) (ro:=false) (L':=L) hA hx ?_ ?_ rfl
 ·simp only [Qn,ZDL,ZLT ht hg,ZLT ht2 hg2,Option.bind_some]
  simp only [ZBZ,QN hc,Option.bind_some,Option.map_some,ZHL]
 ·show (mapSt (Zi 5 A.length) _ _).bind ZgS=_
  rw [mapSt,ZQO 3,Option.bind_some,mapSt,ZQO 3];rfl
theorem Zk8 {N:ZQ} (hN:GoodN N):∀ (n:Nat) {st:St} {lv ix:Nat} (hr:Rd st lv ix N) {t:Tr} (ht:VE N t) (hn:t.h=n) (a:Int) (h0:0<=a) (h1:a<=t.bytes) (hb:t.bytes<=65536),
 S Tb Xy [.ptr lv ix 0 0 0,t.av,.int .i64 a] st=some (.tup [(Xf N n t a).1.av,(Xf N n t a).2.av,.int .i64 0],st):=by
 intro n
 induction n with
 | zero =>
  intro st lv ix hr t ht hn a h0 h1 hb
  refine Z5 rfl (fun A hA=>?_)
  have hrp:=fun L=>hr.push hA (ro:=false) (L:=L)
  have hB:=fun st=>Xn t ht.pos.1 (by omega) st
  rw [Xf]
  by_cases ha:a=0
  ·rw [if_pos ha]
   repeat' (first|refine ZE ?_|refine ZD ?_|refine ZF rfl ?_|refine ZB rfl ?_|refine ZA ?_|(refine Zq rfl rfl (fun _=>?_) (fun _=>?_)<;>try (exfalso;omega))|refine ZU rfl ?_|refine Zj rfl rfl rfl ?_|refine Zh rfl rfl rfl ?_|refine Zu rfl rfl rfl (QC _ _ _) (QT _ _) rfl ?_|refine Zy rfl (Zv _) (QB _) ?_|refine ZLV rfl rfl rfl rfl rfl (Zl _) ?_|refine ZOR rfl rfl rfl rfl rfl rfl rfl ?_|refine ZP ?_|refine ZO ?_|refine ZY ?_)
   all_goals try (exfalso;omega)
   exact ZD0 (t:=.zero) hA (.inr rfl) rfl rfl rfl rfl rfl rfl
  ·rw [if_neg ha]
   by_cases ha2:a=t.bytes
   ·rw [if_pos ha2]
    repeat' (first|refine ZE ?_|refine ZD ?_|refine ZF rfl ?_|refine ZB rfl ?_|refine ZA ?_|(refine Zq rfl rfl (fun _=>?_) (fun _=>?_)<;>try (exfalso;omega))|refine ZU rfl ?_|refine ZG rfl ?_|refine Zj rfl rfl rfl ?_|refine Zh rfl rfl rfl ?_|refine Zu rfl rfl rfl rfl rfl rfl ?_|refine ZS rfl rfl rfl (Zl _) ?_|refine Zu rfl rfl rfl (QC _ _ _) (QT _ _) rfl ?_|refine Zy rfl (Zv _) (QB _) ?_|refine ZC rfl rfl (by first|rfl|(simp only [List.nil_append,List.append_nil,List.cons_append,Zg,ZW,ZZ];first|done|rfl)) (hB _) ?_|refine ZH ?_|refine ZP ?_|refine ZO ?_|refine ZY ?_)
    all_goals try (exfalso;omega)
    exact ZD0 (t2:=.zero) hA (.inr rfl) rfl rfl rfl rfl rfl rfl
   ·rw [if_neg ha2]
    have hv:=ht.val (by omega)
    have hl:=hv.line hn
    have hL:=fun L=>ZeF (hrp L) hv
    have hC:=fun st=>Zor (Qi N t) a st
    rw [<- ZiG hl.2 (by omega)] at hC
    generalize Qi N t=s at *
    repeat' (first|refine ZE ?_|refine ZD ?_|refine ZF rfl ?_|refine ZJ rfl rfl ?_|refine Z0 rfl rfl ?_|refine ZB rfl ?_|refine ZA ?_|(refine Zq rfl rfl (fun _=>?_) (fun _=>?_)<;>try (exfalso;omega))|(refine Zp rfl rfl (fun _=>?_) (fun _=>?_)<;>try (exfalso;omega))|refine ZU rfl ?_|refine ZG rfl ?_|refine Zj rfl rfl rfl ?_|refine Zh rfl rfl rfl ?_|refine Zu rfl rfl rfl rfl rfl rfl ?_|refine ZS rfl rfl rfl (Zl _) ?_|refine Zy rfl (Zv _) (QB _) ?_|refine ZS rfl rfl rfl (YK _) ?_|refine ZC rfl rfl (by first|rfl|(simp only [List.nil_append,List.append_nil,List.cons_append,Zg,ZW,ZZ];first|done|rfl)) (hB _) ?_|refine ZC rfl rfl (by first|rfl|(simp only [List.nil_append,List.append_nil,List.cons_append,Zg,ZW,ZZ];first|done|rfl)) (hL _) ?_|refine ZC rfl rfl (by first|rfl|(simp only [List.nil_append,List.append_nil,List.cons_append,Zg,ZW,ZZ];first|done|rfl)) (hC _) ?_|refine ZH ?_|refine ZP ?_|refine ZO ?_|refine ZY ?_)
    all_goals try (exfalso;omega)
    exact ZD0 (t:=Qu (s.take a.toNat)) (t2:=Qu (s.drop a.toNat)) hA (.inr rfl) rfl rfl rfl rfl rfl rfl
 | succ n ih =>
  intro st lv ix hr t ht hn a h0 h1 hb
  refine Z5 rfl (fun A hA=>?_)
  have hrp:=fun L=>hr.push hA (ro:=false) (L:=L)
  have hB:=fun st=>Xn t ht.pos.1 (by omega) st
  rw [Xf]
  by_cases ha:a=0
  ·rw [if_pos ha]
   repeat' (first|refine ZE ?_|refine ZD ?_|refine ZF rfl ?_|refine ZB rfl ?_|refine ZA ?_|(refine Zq rfl rfl (fun _=>?_) (fun _=>?_)<;>try (exfalso;omega))|refine ZU rfl ?_|refine Zj rfl rfl rfl ?_|refine Zh rfl rfl rfl ?_|refine Zu rfl rfl rfl (QC _ _ _) (QT _ _) rfl ?_|refine Zy rfl (Zv _) (QB _) ?_|refine ZLV rfl rfl rfl rfl rfl (Zl _) ?_|refine ZOR rfl rfl rfl rfl rfl rfl rfl ?_|refine ZP ?_|refine ZO ?_|refine ZY ?_)
   all_goals try (exfalso;omega)
   exact ZD0 (t:=.zero) hA (.inr rfl) rfl rfl rfl rfl rfl rfl
  ·rw [if_neg ha]
   by_cases ha2:a=t.bytes
   ·rw [if_pos ha2]
    repeat' (first|refine ZE ?_|refine ZD ?_|refine ZF rfl ?_|refine ZB rfl ?_|refine ZA ?_|(refine Zq rfl rfl (fun _=>?_) (fun _=>?_)<;>try (exfalso;omega))|refine ZU rfl ?_|refine ZG rfl ?_|refine Zj rfl rfl rfl ?_|refine Zh rfl rfl rfl ?_|refine Zu rfl rfl rfl rfl rfl rfl ?_|refine ZS rfl rfl rfl (Zl _) ?_|refine Zu rfl rfl rfl (QC _ _ _) (QT _ _) rfl ?_|refine Zy rfl (Zv _) (QB _) ?_|refine ZC rfl rfl (by first|rfl|(simp only [List.nil_append,List.append_nil,List.cons_append,Zg,ZW,ZZ];first|done|rfl)) (hB _) ?_|refine ZH ?_|refine ZP ?_|refine ZO ?_|refine ZY ?_)
    all_goals try (exfalso;omega)
    exact ZD0 (t2:=.zero) hA (.inr rfl) rfl rfl rfl rfl rfl rfl
   ·rw [if_neg ha2]
    have vt:=ht.val (by omega)
    have h16:=vt.h16
    obtain ⟨c1,c2,c3,c4⟩:=Jm hN vt (by omega)
    have hC:=fun L=>ZAs (hrp L) vt (by omega)
    generalize Z9 N t=l at *
    have hl:∀ u∈l,Val N u/\u.h=n/\Big u:=fun u hu=>⟨(c1 u hu).1,by have:=(c1 u hu).2.1;omega,(c1 u hu).2.2⟩
    have hpos:∀ u∈l,0<=u.bytes:=fun u hu=>by have:=(hl u hu).1.pos.2;omega
    obtain ⟨s1,s2,s3,s4⟩:=ZYm l a (by omega) hpos h0 (by omega)
    have key:∀ k Q p6 p7 L,
     (Rk (S Tb) k Q (.ex 0) [(0,.ptr lv ix 0 0 0),(2,.int .i64 (JN l a).2),(6,.ptr A.length p6 0 0 0),(7,.ptr A.length p7 0 0 0),(13,.lit (l.map Tr.av)),(14,.int .i64 (JN l a).1),(77,.bool false)] ⟨A,false,L⟩) ->
     Ru (S Tb) (.loop ZNH) k Q [(0,.ptr lv ix 0 0 0),(2,.int .i64 a),(6,.ptr A.length p6 0 0 0),(7,.ptr A.length p7 0 0 0),(13,.lit (l.map Tr.av)),(14,.int .i64 0)] ⟨A,false,L⟩:=by
     intro k Q p6 p7 L hex
     refine Zr (α:=Nat × Int) (fun p=>[(0,.ptr lv ix 0 0 0),(2,.int .i64 p.2),(6,.ptr A.length p6 0 0 0),(7,.ptr A.length p7 0 0 0),(13,.lit (l.map Tr.av)),(14,.int .i64 p.1)]) (fun p=>⟨A,false,L⟩)
      (fun p=>p.1<l.length/\0<=p.2/\p.2<=a/\(JN l a).1=p.1+(JN (l.drop p.1) p.2).1/\(JN l a).2=(JN (l.drop p.1) p.2).2) (fun p=>l.length-p.1) (0,a) rfl rfl ⟨by simp only;omega,h0,Int.le_refl _,by simp,by simp⟩ ?_
     rintro ⟨i,b⟩ ⟨i1,i2,i3,i4,i5⟩
     simp only at i1 i2 i3 i4 i5 ⊢
     have hu:l[i]?=some l[i]:=by simp [i1]
     generalize l[i]=u at hu;have hum:=jM hu;have hub:=hpos u hum
     have hu16:u.bytes<=65536:=by
      have e:=hu
      have e2:Tr.bytesL l=Tr.bytesL (l.take i)+(u.bytes+Tr.bytesL (l.drop (i+1))):=by
       conv=>lhs;rw [<- List.take_append_drop (i+1) l,Zm hu,Tr.bytesL_append,Tr.bytesL_append]
       simp [Tr.bytesL];omega
      have:=Tr.bytesL_nonneg (l:=l.take i) (fun w hw=>hpos w (List.mem_of_mem_take hw))
      have:=Tr.bytesL_nonneg (l:=l.drop (i+1)) (fun w hw=>hpos w (List.mem_of_mem_drop hw))
      omega
     have hBu:∀ w,l[((i:Nat):Int).toNat]?=some w->∀ st,S Tb QV [w.av] st=some (.int .i64 u.bytes,st):=by
      intro w hw st;have hw2:l[i]?=some w:=hw;rw [hu] at hw2
      have:=Option.some.inj hw2
      subst this
      exact Xn u (hl u hum).1.pos.1 (by omega) st
     have hd:l.drop i=u::l.drop (i+1):=by
      rw [List.drop_eq_getElem_cons i1]
      congr 1
      rw [jE i1] at hu;exact Option.some.inj hu
     repeat' (first|refine ZE ?_|refine ZD ?_|refine ZF rfl ?_|refine Z4 rfl ?_|refine JH rfl rfl ?_|refine Zk rfl rfl rfl rfl ?_|refine ZB rfl ?_|refine ZA ?_|refine QH rfl ?_|(refine Zd rfl rfl (fun _=>?_) (fun _=>?_)<;>try (exfalso;omega))|(refine Jg rfl rfl (fun _=>?_) (fun _=>?_)<;>try (exfalso;omega))|refine ZU rfl ?_|refine ZG rfl ?_|refine Zb rfl rfl (by omega) ?_|refine Ql rfl rfl (by omega) ?_|refine Qc rfl rfl (by omega) Zv (fun _ _=>?_)|refine QD rfl (Zl _) ?_|refine ZC rfl rfl (by first|rfl|(simp only [List.nil_append,List.append_nil,List.cons_append,Zg,ZW,ZZ];first|done|rfl)) (hBu _ (by assumption) _) ?_|refine ZH ?_|refine Zn ?_|refine ZI ?_|refine Za ?_|refine Zt ?_|refine Zw ?_|refine Zf ?_)
     all_goals try (exfalso;omega)
     ·rename_i g1 g2 g3 g4 g5 g6
      have hne:l.drop (i+1)≠[]:=by
       intro q
       have:=congrArg List.length q
       rw [List.length_drop] at this
       simp at this;omega
      have hsk:JN (l.drop i) b=((JN (l.drop (i+1)) (b-u.bytes)).1+1,(JN (l.drop (i+1)) (b-u.bytes)).2):=by
       rw [hd]
       cases hq:l.drop (i+1) with
       | nil=>exact absurd hq hne
       | cons v r=>rw [JN,if_pos (by omega)]
      refine ⟨(i+1,b-u.bytes),⟨rfl,rfl⟩,⟨by simp only;omega,by simp only;omega,by simp only;omega,?_,?_⟩,by simp only;omega⟩
      ·simp only [i4,hsk];omega
      ·simp only [i5,hsk]
     ·have hsk : JN (l.drop i) b = (0, b) := by
       rw [hd]
       cases hq:l.drop (i+1) with
       | nil=>rfl
       | cons v r=>rw [JN,if_neg (by omega)]
      rw [i4,i5,hsk] at hex;exact hex
     ·have hq:l.drop (i+1)=[]:=List.drop_of_length_le (by omega)
      have hsk:JN (l.drop i) b=(0,b):=by rw [hd,hq];rfl
      rw [i4,i5,hsk] at hex;exact hex
    repeat' (first|refine ZE ?_|refine ZD ?_|refine ZF rfl ?_|refine ZJ rfl rfl ?_|refine Z0 rfl rfl ?_|refine ZB rfl ?_|refine ZA ?_|(refine Zq rfl rfl (fun _=>?_) (fun _=>?_)<;>try (exfalso;omega))|(refine Zp rfl rfl (fun _=>?_) (fun _=>?_)<;>try (exfalso;omega))|refine ZG rfl ?_|refine Zh rfl rfl rfl ?_|refine ZS rfl rfl rfl (Zl _) ?_|refine Zy rfl (Zv _) (QB _) ?_|refine ZS rfl rfl rfl (YK _) ?_|refine ZC rfl rfl (by first|rfl|(simp only [List.nil_append,List.append_nil,List.cons_append,Zg,ZW,ZZ];first|done|rfl)) (hB _) ?_|refine ZC rfl rfl (by first|rfl|(simp only [List.nil_append,List.append_nil,List.cons_append,Zg,ZW,ZZ];first|done|rfl)) (hC _) ?_|refine ZH ?_|refine ZI ?_)
    all_goals try (exfalso;omega)
    refine key _ _ _ _ _ ?_
    generalize hk:(JN l a).1=k at *
    generalize hb2:(JN l a).2=b at *
    have hlm:(l.map Tr.av).length=l.length:=by simp
    have hh1:∀ u∈l.take k,u.h<=65536:=fun u hu=>by have:=(hl u (List.mem_of_mem_take hu)).2.1;omega
    have hh2:∀ u∈l.drop k,u.h<=65536:=fun u hu=>by have:=(hl u (List.mem_of_mem_drop hu)).2.1;omega
    have hh3:∀ u∈l.drop (k+1),u.h<=65536:=fun u hu=>by have:=(hl u (List.mem_of_mem_drop hu)).2.1;omega
    have hG1:∀ st,S Tb QO [.lit ((l.map Tr.av).take ((k:Nat):Int).toNat)] st=some ((grp (l.take k)).av,st):=fun st=>Xo (by rw [List.length_take];omega) hh1 (by rw [Int.toNat_natCast,<- List.map_take];exact .lit _)
    have hG2:∀ st,S Tb QO [.lit ((l.map Tr.av).drop ((k:Nat):Int).toNat)] st=some ((grp (l.drop k)).av,st):=fun st=>Xo (by rw [List.length_drop];omega) hh2 (by rw [Int.toNat_natCast,<- List.map_drop];exact .lit _)
    have hG3:∀ st,S Tb QO [.lit ((l.map Tr.av).drop (((k:Nat):Int)+1).toNat)] st=some ((grp (l.drop (k+1))).av,st):=fun st=>Xo (by rw [List.length_drop];omega) hh3 (by rw [show (((k:Nat):Int)+1).toNat=k+1 by omega,<- List.map_drop];exact .lit _)
    by_cases hz:b=0
    ·rw [if_pos hz]
     generalize grp (l.take k)=g1 at *
     generalize grp (l.drop k)=g2 at *
     repeat' (first|refine ZE ?_|refine ZD ?_|refine ZF rfl ?_|refine ZB rfl ?_|refine ZA ?_|(refine Zq rfl rfl (fun _=>?_) (fun _=>?_)<;>try (exfalso;omega))|refine ZU rfl ?_|refine Zu rfl rfl rfl (QC _ _ _) (QT _ _) rfl ?_|refine ZCA rfl rfl (by omega) (XD _) ?_|refine ZNd rfl rfl (by omega) (XD _) ?_|refine JI rfl rfl rfl (hG1 _) ?_|refine ZC rfl rfl (by first|rfl|(simp only [List.nil_append,List.append_nil,List.cons_append,Zg,ZW,ZZ];first|done|rfl)) (hG2 _) ?_|refine ZP ?_|refine ZO ?_|refine ZY ?_|refine ZX rfl ?_)
     all_goals try (exfalso;omega)
     exact ZD0 hA (.inr rfl) rfl rfl rfl rfl rfl rfl
    ·rw [if_neg hz]
     obtain ⟨u,hu⟩:∃ u,l[k]?=some u:=⟨l[k],by simp [s1]⟩
     rw [hu];simp only [Option.getD_some];obtain ⟨u1,u2,u3⟩:=hl u (jM hu);have hub:=s4 u hu
     have hsum:Tr.bytesL l=Tr.bytesL (l.take k)+(u.bytes+Tr.bytesL (l.drop (k+1))):=by
      conv=>lhs;rw [<- List.take_append_drop (k+1) l,Zm hu,Tr.bytesL_append,Tr.bytesL_append]
      simp [Tr.bytesL];omega
     have p1:=Tr.bytesL_nonneg (l:=l.take k) (fun w hw=>hpos w (List.mem_of_mem_take hw))
     have p2:=Tr.bytesL_nonneg (l:=l.drop (k+1)) (fun w hw=>hpos w (List.mem_of_mem_drop hw))
     have hc:=ZHI hN n u b (.inr u1) u2 s2 (by omega) (by omega)
     have hcut:∀ w,l[((k:Nat):Int).toNat]?=some w->∀ L,S Tb Xy [.ptr lv ix 0 0 0,w.av,.int .i64 b] ⟨A,false,L⟩=some (.tup [(Xf N n u b).1.av,(Xf N n u b).2.av,.int .i64 0],⟨A,false,L⟩):=by
      intro w hw L;have hw2:l[k]?=some w:=hw;rw [hu] at hw2
      have:=Option.some.inj hw2
      subst this
      exact ih (hrp L) (.inr u1) u2 b s2 (by omega) (by omega)
     have a1:=(ZOP (N:=N) (l:=l.take k) (by rw [List.length_take];omega) (show n+1<=16 by omega) (fun u hu=>hl u (List.mem_of_mem_take hu))).1
     have d1:=(ZOP (N:=N) (l:=l.drop (k+1)) (by rw [List.length_drop];omega) (show n+1<=16 by omega) (fun u hu=>hl u (List.mem_of_mem_drop hu))).1
     have hcl:=hc.l;have hcr:=hc.r
     have hK1:=fun L=>ZK9 hN (hrp L) a1 hcl
     have hK2:=fun L=>ZK9 hN (hrp L) hcr d1
     generalize Xf N n u b=r at *
     obtain ⟨r1,r2⟩:=r
     simp only at *
     generalize grp (l.take k)=g1 at *
     generalize grp (l.drop (k+1))=g3 at *
     generalize Yf N g1 r1=z1 at *
     generalize Yf N r2 g3=z2 at *
     repeat' (first|refine ZE ?_|refine ZD ?_|refine ZF rfl ?_|refine Z0 rfl rfl ?_|refine ZB rfl ?_|refine ZA ?_|(refine Zq rfl rfl (fun _=>?_) (fun _=>?_)<;>try (exfalso;omega))|(refine Zp rfl rfl (fun _=>?_) (fun _=>?_)<;>try (exfalso;omega))|refine ZG rfl ?_|refine Zb rfl rfl (by omega) ?_|refine Zh rfl rfl rfl ?_|refine Qc rfl rfl (by omega) Zv (fun _ _=>?_)|refine QD rfl (Zl _) ?_|refine ZS rfl rfl rfl (Zl _) ?_|refine Zu rfl rfl rfl (QC _ _ _) (QT _ _) rfl ?_|refine ZCA rfl rfl (by omega) (XD _) ?_|refine ZNd rfl rfl (by omega) (XD _) ?_|refine JI rfl rfl rfl (hG1 _) ?_|refine JI rfl rfl rfl (hG3 _) ?_|refine ZC rfl rfl (by first|rfl|(simp only [List.nil_append,List.append_nil,List.cons_append,Zg,ZW,ZZ];first|done|rfl)) (hcut _ (by assumption) _) ?_|refine ZC rfl rfl (by first|rfl|(simp only [List.nil_append,List.append_nil,List.cons_append,Zg,ZW,ZZ];first|done|rfl)) (hK1 _) ?_|refine ZC rfl rfl (by first|rfl|(simp only [List.nil_append,List.append_nil,List.cons_append,Zg,ZW,ZZ];first|done|rfl)) (hK2 _) ?_|refine ZLV rfl rfl rfl rfl rfl (Zl _) ?_|refine ZOR rfl rfl rfl rfl (ZON 4 _) (QC _ _ _) (QT _ _) ?_|refine ZH ?_|refine ZP ?_|refine ZO ?_|refine ZX rfl ?_)
     all_goals try (exfalso;omega)
     exact ZD0 hA (.inr rfl) rfl rfl rfl rfl rfl rfl
theorem ZFB {st:St} {lv ix:Nat} {N:ZQ} (hr:Rd st lv ix N) {t:Tr} (ht:VE N t) (hb:t.bytes<=65536):S Tb Jh [.ptr lv ix 0 0 0,t.av] st=some (.int .i64 0,st):=by
 rcases ht with h|h
 ·exact Zfo h
 ·exact ZjB hr h hb
theorem ZoF {N:ZQ} {st:St} {lv ix:Nat} (hr:Rd st lv ix N) {x y:Tr} (hx:VE N x) (hy:VE N y) (none:Bool) (hn:none=false->Val N x/\Val N y) (hb:x.bytes+y.bytes<=65536) :
 S Tb ZI9 [.ptr lv ix 0 0 0,x.av,y.av,.bool none] st=some (.int .i64 0,st):=by
 refine Z5 rfl (fun A hA=>?_)
 have hrp:=fun L=>hr.push hA (ro:=false) (L:=L)
 have hx0:=hx.pos.2;have hy0:=hy.pos.2
 have hC1:=fun L=>ZFB (hrp L) hx (by omega)
 have hC2:=fun L=>ZFB (hrp L) hy (by omega)
 have hB1:=fun st=>Xn x hx.pos.1 (by omega) st
 have hB2:=fun st=>Xn y hy.pos.1 (by omega) st
 cases none with
 | true =>
  repeat' (first|refine ZE ?_|refine ZD ?_|refine ZF rfl ?_|refine JH rfl rfl ?_|refine Zom rfl ?_|refine Zk rfl rfl rfl rfl ?_|refine ZB rfl ?_|refine ZA ?_|refine J2 rfl rfl ?_|(refine Zd rfl rfl (fun _=>?_) (fun _=>?_)<;>try (exfalso;omega))|(refine QQ rfl rfl (fun _=>?_) (fun _=>?_)<;>try (exfalso;omega))|(refine Zp rfl rfl (fun _=>?_) (fun _=>?_)<;>try (exfalso;omega))|refine ZU rfl ?_|refine ZG rfl ?_|refine Qs rfl rfl ?_|refine Zb rfl rfl (by omega) ?_|refine Zh rfl rfl rfl ?_|refine QD rfl (Zl _) ?_|refine Qf rfl rfl (Zl _) ?_|refine ZS rfl rfl rfl (Zl _) ?_|refine Zu rfl rfl rfl (QC _ _ _) (QT _ _) rfl ?_|refine Zy rfl (Zv _) (QB _) ?_|refine ZBy rfl rfl ?_|refine Qe ?_|refine Zcs rfl rfl (by simp) rfl (Zv _) ?_|refine ZC rfl rfl (by first|rfl|(simp only [List.nil_append,List.append_nil,List.cons_append,Zg,ZW,ZZ];first|done|rfl)) (hC1 _) ?_|refine ZC rfl rfl (by first|rfl|(simp only [List.nil_append,List.append_nil,List.cons_append,Zg,ZW,ZZ];first|done|rfl)) (hC2 _) ?_|refine JI rfl rfl (wk1 _) (hB1 _) ?_|refine ZC rfl rfl (by first|rfl|(simp only [List.nil_append,List.append_nil,List.cons_append,Zg,ZW,ZZ];first|done|rfl)) (hB2 _) ?_|refine ZH ?_|refine ZP ?_|refine Zn ?_|refine ZI ?_|refine ZO ?_|refine Za ?_|refine Zt ?_|refine ZX rfl ?_)
  all_goals try (exfalso;omega)
  all_goals refine Ze hA (by simp) rfl rfl rfl rfl ?_
  all_goals rfl
 | false =>
  obtain ⟨vx,vy⟩:=hn rfl;obtain ⟨k,hk,hK⟩:=vx.kindNe;obtain ⟨k2,hk2,hK2⟩:=vy.kindNe
  repeat' (first|refine ZE ?_|refine ZD ?_|refine ZF rfl ?_|refine Z4 rfl ?_|refine Zk rfl rfl rfl rfl ?_|refine ZB rfl ?_|refine ZA ?_|refine J2 rfl rfl ?_|(refine Zd rfl rfl (fun _=>?_) (fun _=>?_)<;>try (exfalso;omega))|(refine QQ rfl rfl (fun _=>?_) (fun _=>?_)<;>try (exfalso;omega))|(refine Zq rfl rfl (fun _=>?_) (fun _=>?_)<;>try (exfalso;omega))|(refine Zp rfl rfl (fun _=>?_) (fun _=>?_)<;>try (exfalso;omega))|refine ZU rfl ?_|refine ZG rfl ?_|refine Qs rfl rfl ?_|refine Zb rfl rfl (by omega) ?_|refine Zh rfl rfl rfl ?_|refine QD rfl (Zl _) ?_|refine Qf rfl rfl (Zl _) ?_|refine ZS rfl rfl rfl (Zl _) ?_|refine Zu rfl rfl rfl (QC _ _ _) (QT _ _) rfl ?_|refine Zy rfl (Zv _) (QB _) ?_|refine ZBy rfl rfl ?_|refine Qe ?_|refine Zcs rfl rfl (by simp) rfl (Zv _) ?_|refine ZC rfl rfl (by first|rfl|(simp only [List.nil_append,List.append_nil,List.cons_append,Zg,ZW,ZZ];first|done|rfl)) (hC1 _) ?_|refine ZC rfl rfl (by first|rfl|(simp only [List.nil_append,List.append_nil,List.cons_append,Zg,ZW,ZZ];first|done|rfl)) (hC2 _) ?_|refine ZC rfl rfl (by first|rfl|(simp only [List.nil_append,List.append_nil,List.cons_append,Zg,ZW,ZZ];first|done|rfl)) (hK _) ?_|refine ZC rfl rfl (by first|rfl|(simp only [List.nil_append,List.append_nil,List.cons_append,Zg,ZW,ZZ];first|done|rfl)) (hK2 _) ?_|refine JI rfl rfl (wk1 _) (hB1 _) ?_|refine ZC rfl rfl (by first|rfl|(simp only [List.nil_append,List.append_nil,List.cons_append,Zg,ZW,ZZ];first|done|rfl)) (hB2 _) ?_|refine ZH ?_|refine ZP ?_|refine Zn ?_|refine ZI ?_|refine ZO ?_|refine Za ?_|refine Zt ?_|refine ZX rfl ?_)
  all_goals try (exfalso;omega)
  all_goals refine Ze hA (by simp) rfl rfl rfl rfl ?_
  all_goals rfl
theorem Zft {N:ZQ} (hN:GoodN N) {st:St} {lv ix:Nat} (hr:Rd st lv ix N) {x y:Tr} (hx:VE N x) (hy:VE N y) (hb:x.bytes+y.bytes<=65536) :
 S Tb ZD8 [.ptr lv ix 0 0 0,x.av,y.av] st=some (.tup [(Yf N x y).own.av,.int .i64 0],st):=by
 refine Z5 rfl (fun A hA=>?_)
 have hrp:=fun L=>hr.push hA (ro:=false) (L:=L)
 have hBo:=fun L=>ZoF (hrp L) hx hy true (fun q=>by cases q) hb
 have hCo:=fun L=>ZK9 hN (hrp L) hx hy
 have hO:=fun st=>Zfn (Yf N x y) (Xe hN hx hy hb).ve.pos.1 st
 generalize Yf N x y=z at *
 generalize z.own=zo at *
 repeat' (first|refine ZE ?_|refine ZD ?_|refine ZF rfl ?_|refine Z0 rfl rfl ?_|refine ZB rfl ?_|refine ZA ?_|(refine Zp rfl rfl (fun _=>?_) (fun _=>?_)<;>try (exfalso;omega))|refine ZG rfl ?_|refine Zh rfl rfl rfl ?_|refine ZS rfl rfl rfl (Zl _) ?_|refine Zu rfl rfl rfl (QC _ _ _) (QT _ _) rfl ?_|refine Zy rfl (Zv _) (QB _) ?_|refine ZC rfl rfl (by first|rfl|(simp only [List.nil_append,List.append_nil,List.cons_append,Zg,ZW,ZZ];first|done|rfl)) (hBo _) ?_|refine ZC rfl rfl (by first|rfl|(simp only [List.nil_append,List.append_nil,List.cons_append,Zg,ZW,ZZ];first|done|rfl)) (hCo _) ?_|refine ZC rfl rfl (by first|rfl|(simp only [List.nil_append,List.append_nil,List.cons_append,Zg,ZW,ZZ];first|done|rfl)) (hO _) ?_|refine ZH ?_|refine ZP ?_|refine ZO ?_)
 all_goals try (exfalso;omega)
 exact ZHB hA (.inr rfl) rfl rfl rfl rfl
theorem ZoG {N:ZQ} (hN:GoodN N) {st:St} {lv ix:Nat} (hr:Rd st lv ix N) {t:Tr} (ht:VE N t) (a:Int) (h0:0<=a) (h1:a<=t.bytes) (hb:t.bytes<=65536) :
 S Tb ZNg [.ptr lv ix 0 0 0,t.av,.int .i64 a] st=some (.tup [(Xf N t.h t a).1.own.av,(Xf N t.h t a).2.own.av,.int .i64 0],st):=by
 refine Z5 rfl (fun A hA=>?_)
 have hrp:=fun L=>hr.push hA (ro:=false) (L:=L)
 have hC:=fun L=>ZFB (hrp L) ht hb
 have hB:=fun st=>Xn t ht.pos.1 (by omega) st
 have hK:=fun L=>Zk8 hN t.h (hrp L) ht rfl a h0 h1 hb
 have hok:=ZHI hN t.h t a ht rfl h0 h1 hb
 have hO1:=fun st=>Zfn _ hok.l.pos.1 st
 have hO2:=fun st=>Zfn _ hok.r.pos.1 st
 generalize Xf N t.h t a=r at *
 obtain ⟨r1,r2⟩:=r
 simp only at *
 generalize r1.own=o1 at *
 generalize r2.own=o2 at *
 repeat' (first|refine ZE ?_|refine ZD ?_|refine ZF rfl ?_|refine Z4 rfl ?_|refine Zk rfl rfl rfl rfl ?_|refine Z0 rfl rfl ?_|refine ZB rfl ?_|refine ZA ?_|(refine Zd rfl rfl (fun _=>?_) (fun _=>?_)<;>try (exfalso;omega))|(refine QQ rfl rfl (fun _=>?_) (fun _=>?_)<;>try (exfalso;omega))|(refine Zp rfl rfl (fun _=>?_) (fun _=>?_)<;>try (exfalso;omega))|refine ZG rfl ?_|refine Zh rfl rfl rfl ?_|refine ZS rfl rfl rfl (Zl _) ?_|refine Zu rfl rfl rfl (QC _ _ _) (QT _ _) rfl ?_|refine Zy rfl (Zv _) (QB _) ?_|refine ZC rfl rfl (by first|rfl|(simp only [List.nil_append,List.append_nil,List.cons_append,Zg,ZW,ZZ];first|done|rfl)) (hC _) ?_|refine ZC rfl rfl (by first|rfl|(simp only [List.nil_append,List.append_nil,List.cons_append,Zg,ZW,ZZ];first|done|rfl)) (hB _) ?_|refine ZC rfl rfl (by first|rfl|(simp only [List.nil_append,List.append_nil,List.cons_append,Zg,ZW,ZZ];first|done|rfl)) (hK _) ?_|refine JI rfl rfl (wk1 _) (hO1 _) ?_|refine ZC rfl rfl (by first|rfl|(simp only [List.nil_append,List.append_nil,List.cons_append,Zg,ZW,ZZ];first|done|rfl)) (hO2 _) ?_|refine ZH ?_|refine ZP ?_|refine ZO ?_)
 all_goals try (exfalso;omega)
 exact ZD0 hA (.inr rfl) rfl rfl rfl rfl rfl rfl
structure Out (st:St) (lv jb jx:Nat) (ver:Nat) (s:List UInt8):Prop where
 wr:st.wr lv
 box:st.get lv jb=some (.arr 1 0 [.ref lv jx ver 0 s.length])
 blk:st.get lv jx=some (.arr 1 ver (QS s))
 ne:jx≠jb
def Qx (st:St) (lv jb jx ver:Nat) (s:List UInt8):St:=(st.upd lv jx (.arr 1 ver (QS s))).upd lv jb (.arr 1 0 [.ref lv jx ver 0 s.length])
theorem ZhO (s:List UInt8):JS 1 (QS s)=true:=by
 induction s with
 | nil=>rfl
 | cons b s ih=>rw [QS,jC,JS,List.all_cons];exact Bool.and_eq_true_iff.2 ⟨rfl,ih⟩
theorem ZhP (b:Nat) (st:St) (s:List UInt8):mapSt (Zi QU b) st (QS s)=some (QS s,st):=by
 induction s with
 | nil=>rfl
 | cons x s ih =>
  show mapSt (Zi QU b) st (AV.int .u8 x.toNat::QS s)=_
  rw [mapSt]
  show ((some (AV.int .u8 x.toNat,st)).bind fun r=>(mapSt (Zi QU b) r.2 (QS s)).bind (XW r.1))=_
  rw [Option.bind_some,ih];rfl
theorem ZYo (s t:List UInt8):QS (s++t)=QS s++QS t:=by simp [QS]
theorem ZLA (s:List UInt8):(QS s).length=s.length:=by simp [QS]
theorem ZLW {w v:Nat} {es:List AV}:vis (some (Blk.arr w v es))=some (Blk.arr w v es):=rfl
theorem Out.put {st:St} {lv jb jx ver:Nat} {s:List UInt8} (h:Out st lv jb jx ver s) (ver':Nat) (t:List UInt8):Out (Qx st lv jb jx ver' t) lv jb jx ver' t:=by
 have g1:∀ l' i',(st.upd lv jx (.arr 1 ver' (QS t))).get l' i'=if l'=lv/\i'=jx then some (.arr 1 ver' (QS t)) else st.get l' i':=fun l' i'=>St.get_upd h.blk ZLW
 have b1:(st.upd lv jx (.arr 1 ver' (QS t))).get lv jb=some (.arr 1 0 [.ref lv jx ver 0 s.length]):=by rw [g1,if_neg (fun q=>h.ne q.2.symm)];exact h.box
 have g2:∀ l' i',(Qx st lv jb jx ver' t).get l' i'=if l'=lv/\i'=jb then some (.arr 1 0 [.ref lv jx ver' 0 t.length]) else (st.upd lv jx (.arr 1 ver' (QS t))).get l' i':=fun l' i'=>St.get_upd b1 ZLW
 refine ⟨St.wr_upd (St.wr_upd h.wr h.wr) (St.wr_upd h.wr h.wr),by rw [g2,if_pos ⟨rfl,rfl⟩],?_,h.ne⟩
 rw [g2,if_neg (fun q=>h.ne q.2),g1,if_pos ⟨rfl,rfl⟩]
theorem ZHJ {st:St} {lv jb jx ver:Nat} {s:List UInt8} (h:Out st lv jb jx ver s) (ver':Nat) (t:List UInt8) {l' i':Nat} (hn:¬ (l'=lv/\(i'=jx\/i'=jb))):(Qx st lv jb jx ver' t).get l' i'=st.get l' i':=by
 have b1:(st.upd lv jx (.arr 1 ver' (QS t))).get lv jb=some (.arr 1 0 [.ref lv jx ver 0 s.length]):=by
  rw [St.get_upd h.blk ZLW,if_neg (fun q=>h.ne q.2.symm)];exact h.box
 rw [Qx,St.get_upd b1 ZLW,if_neg (fun q=>hn ⟨q.1,.inr q.2⟩),St.get_upd h.blk ZLW,if_neg (fun q=>hn ⟨q.1,.inl q.2⟩)]
theorem ZQQ {st:St} {lv ix:Nat} {b c:Blk}:(st.upd lv ix b).upd lv ix c=st.upd lv ix c:=by
 unfold St.upd
 by_cases h:lv=st.A.length
 ·simp only [if_pos h,List.set_set]
 ·simp only [if_neg h,List.length_set]
  rcases Nat.lt_or_ge lv st.A.length with q|q
  ·simp only [List.set_set,List.getElem?_set,if_true,if_pos q,Option.getD_some,ZZM]
  ·simp only [List.set_eq_of_length_le q]
theorem ZQR {st:St} {lv ix jx:Nat} {b c:Blk} (h:ix≠jx):(st.upd lv ix b).upd lv jx c=(st.upd lv jx c).upd lv ix b:=by
 unfold St.upd
 by_cases hl:lv=st.A.length
 ·simp only [if_pos hl]
  rw [List.set_comm _ _ h]
 ·simp only [if_neg hl,List.length_set]
  rcases Nat.lt_or_ge lv st.A.length with q|q
  ·simp only [List.set_set,List.getElem?_set,if_true,if_pos q,Option.getD_some,ZZM]
   rw [List.set_comm _ _ h]
  ·simp only [List.set_eq_of_length_le q]
theorem ZhQ {st:St} {lv jb jx v1 v2:Nat} {s t:List UInt8} (h:jx≠jb):Qx (Qx st lv jb jx v1 s) lv jb jx v2 t=Qx st lv jb jx v2 t:=by
 unfold Qx
 rw [ZQR (st:=st.upd lv jx _) (fun q=>h q.symm),ZQQ,ZQQ]
theorem Zfu {st:St} {A:List (Bool × List Blk)} {ro:Bool} {L:List Blk} (hA:A=st.A++[(st.ro,st.L)]) {lv jb jx ver:Nat} {s:List UInt8} (hl:lv<=st.A.length) :
 Qx ⟨A,ro,L⟩ lv jb jx ver s=⟨(Qx st lv jb jx ver s).A++[((Qx st lv jb jx ver s).ro,(Qx st lv jb jx ver s).L)],ro,L⟩:=by
 unfold Qx;rw [Jp hA hl]
 exact Jp rfl (by rw [St.upd_A];exact hl)
section
variable {O:Orc} {k:List Fr} {Q:YY} {e:Env} {A:List (Bool × List Blk)} {L:List Blk} {keep:List Nat} {is:List PI} {d:Nat}
theorem ZjH {st:St} {s x:Opd} {lv jb jx ver:Nat} {t u:List UInt8} (hA:A=st.A++[(st.ro,st.L)]) (ho:Out st lv jb jx ver t) (hs:Zo e s=some (.ref lv jx ver 0 t.length)) (hx:Zo e x=some (.str u)) (hl:t.length+u.length<4294967296)
 (h:∀ A',A'=(st.upd lv jx (.arr 1 (ver+1) (QS (t++u)))).A++[((st.upd lv jx (.arr 1 (ver+1) (QS (t++u)))).ro,(st.upd lv jx (.arr 1 (ver+1) (QS (t++u)))).L)]->Is O is keep k Q ((d,.ref lv jx (ver+1) 0 (t.length+u.length))::e) ⟨A',false,L⟩) :
 Is O (⟨some d,none,false,.app 1 1 s x⟩::is) keep k Q e ⟨A,false,L⟩:=by
 have hlv:=St.get_le ho.blk;refine QA (v:=.ref lv jx (ver+1) 0 (t.length+u.length)) (st':=St.upd ⟨A,false,L⟩ lv jx (.arr 1 (ver+1) (QS (t++u)))) ?_ ?_
 ·have hg:=ZV hA (ro:=false) (L:=L) ho.blk
  have hw:=XI hA hlv ho.wr (ro:=false) (L:=L)
  simp only [Zs,evalPO,ZL hs,ZL hx,elems,Option.bind_some,Q1,ZLA,ZhO,if_true,ZhP,ZZJ,hg,ZLe,true_and,if_pos (show 0+t.length<=t.length/\t.length+u.length<4294967296/\1<=4096 by omega),List.drop_zero]
  rw [List.take_of_length_le (by rw [ZLA];omega),<- ZYo,St.put_upd hw hg]
  rfl
 ·rw [Jp hA hlv]
  exact h _ rfl
end
theorem Rd.out {st:St} {lv jb jx ver pl px:Nat} {s:List UInt8} {N:ZQ} (hr:Rd st pl px N) (ho:Out st lv jb jx ver s) (hne:pl≠lv) (v:Nat) (t:List UInt8):Rd (Qx st lv jb jx v t) pl px N:=by
 obtain ⟨a0,a1,im,a3,a4,a5,h1,h2⟩:=hr
 exact ⟨a0,a1,im,a3,a4,a5,by rw [ZHJ ho _ _ (fun q=>hne q.1)];exact h1,by rw [ZHJ ho _ _ (fun q=>hne q.1)];exact h2⟩
structure WalkAt (st:St) (lv ab ob xb wb pl px:Nat) (N:ZQ):Prop where
 rd:Rd st pl px N
 lt:pl≠lv
 a:st.get lv ab=some (.arr 1 0 [.ptr pl px 0 0 0])
 w:st.get lv wb=some (.arr 1 0 [.func (.func Yj) [] [.ptr lv ab 0 0 0,.ptr lv ob 0 0 0,.ptr lv wb 0 0 0]])
 na:ab≠xb/\ab≠ob
 nw:wb≠xb/\wb≠ob
theorem WalkAt.put {st:St} {lv ab ob xb wb pl px ver:Nat} {N:ZQ} {s:List UInt8} (h:WalkAt st lv ab ob xb wb pl px N) (ho:Out st lv ob xb ver s) (v:Nat) (t:List UInt8):WalkAt (Qx st lv ob xb v t) lv ab ob xb wb pl px N :=
 ⟨h.rd.out ho h.lt v t,h.lt,by rw [ZHJ ho _ _ (fun q=>by rcases q.2 with w|w;exact h.na.1 w;exact h.na.2 w)];exact h.a,by rw [ZHJ ho _ _ (fun q=>by rcases q.2 with w|w;exact h.nw.1 w;exact h.nw.2 w)];exact h.w,h.na,h.nw⟩
theorem ZYp {o:Option Blk} {b:Blk} (h:vis o=some b):o=some b:=by
 cases o with
 | none=>simp [vis] at h
 | some c=>cases c<;>simp [vis] at h<;>exact congrArg some h
theorem ZYq {α:Type} {l:List α} {i:Nat} {b:α} (h:l[i]?=some b):l.set i b=l:=by
 obtain ⟨h1,h2⟩:=List.getElem?_eq_some_iff.1 h;subst h2;exact List.set_getElem_self h1
theorem upd_same {st:St} {lv ix:Nat} {b:Blk} (h:st.get lv ix=some b):st.upd lv ix b=st:=by
 unfold St.upd
 by_cases q:lv=st.A.length
 ·rw [if_pos q]
  rw [St.get,if_pos q] at h;have h2:=ZYp h;rw [ZYq h2]
 ·rw [if_neg q]
  rw [St.get,if_neg q] at h
  cases hr:st.A[lv]? with
  | none=>rw [hr] at h;simp at h
  | some r =>
   rw [hr] at h;have h2:=ZYp h;have e1:r.2.set ix b=r.2:=ZYq h2;simp only [Option.getD_some,ZZM,e1]
   rw [show (r.1,r.2)=r from rfl]
   rw [ZYq hr]
theorem Out.same {st:St} {lv jb jx ver:Nat} {s:List UInt8} (h:Out st lv jb jx ver s):Qx st lv jb jx ver s=st:=by
 rw [Qx,upd_same h.blk,upd_same h.box]
theorem Out.push {st:St} {A:List (Bool × List Blk)} {ro:Bool} {L:List Blk} (hA:A=st.A++[(st.ro,st.L)]) {lv jb jx ver:Nat} {s:List UInt8} (h:Out st lv jb jx ver s):Out ⟨A,ro,L⟩ lv jb jx ver s :=
 ⟨XI hA (St.get_le h.blk) h.wr,ZV hA h.box,ZV hA h.blk,h.ne⟩
theorem WalkAt.push {st:St} {A:List (Bool × List Blk)} {ro:Bool} {L:List Blk} (hA:A=st.A++[(st.ro,st.L)]) {lv ab ob xb wb pl px:Nat} {N:ZQ} (h:WalkAt st lv ab ob xb wb pl px N):WalkAt ⟨A,ro,L⟩ lv ab ob xb wb pl px N :=
 ⟨h.rd.push hA,h.lt,ZV hA h.a,ZV hA h.w,h.na,h.nw⟩
theorem wk4 (t:Tr) (a b c:AV) (ha:weak a=a) (hb:weak b=b) (hc:weak c=c):ZZ (Zg ([]++[t.av]++[a,b,c]))=some [t.av,a,b,c]:=by
 simp only [List.nil_append,List.cons_append,Zg,ZW,ha,hb,hc,ZZ]
theorem ZoH {N:ZQ} (hN:GoodN N):∀ (n:Nat) (t:Tr),Val N t->t.h=n->t.bytes<=65536->∀ {st:St} {lv ab ob xb wb pl px ver:Nat} {s:List UInt8},WalkAt st lv ab ob xb wb pl px N->Out st lv ob xb ver s->s.length+t.bytes<4294967296 ->
 Sp Tb Yj [t.av,.ptr lv ab 0 0 0,.ptr lv ob 0 0 0,.ptr lv wb 0 0 0] st fun v st'=>v=.int .i64 0/\∃ ver',st'=Qx st lv ob xb ver' (s++t.txt N):=by
 intro n
 induction n with
 | zero =>
  intro t hv hh hb st lv ab ob xb wb pl px ver s hw ho hl;refine ZiD rfl ?_;obtain ⟨A,hA⟩:∃ A,A=st.A++[(st.ro,st.L)]:=⟨_,rfl⟩;rw [<- hA]
  have hL:=fun L=>ZeF (hw.rd.push hA (ro:=false) (L:=L)) hv
  have hln:=hv.line hh;have htx:=ZK8 hv hh;rw [htx]
  have hg1:=fun L=>ZV hA (ro:=false) (L:=L) hw.a
  have hg2:=fun L=>ZV hA (ro:=false) (L:=L) ho.box
  generalize Qi N t=u at *
  repeat' (first|refine ZE ?_|refine ZD ?_|refine ZF rfl ?_|refine ZJ rfl rfl ?_|refine Z0 rfl rfl ?_|refine ZB rfl ?_|refine ZA ?_|(refine Zq rfl rfl (fun _=>?_) (fun _=>?_)<;>try (exfalso;omega))|refine ZU rfl ?_|refine Qf rfl rfl (Zl _) ?_|refine Zy rfl (Zv _) (QB _) ?_|refine ZS rfl rfl rfl (YK _) ?_|refine Z8 rfl (hg1 _) rfl rfl ?_|refine ZC rfl rfl (by first|rfl|(simp only [List.nil_append,List.append_nil,List.cons_append,Zg,ZW,ZZ];first|done|rfl)) (hL _) ?_|refine Z8 rfl (hg2 _) rfl rfl ?_)
  all_goals try (exfalso;omega)
  refine ZjH hA ho rfl rfl (by omega) (fun A' hA'=>?_)
  have hgo:(st.upd lv xb (.arr 1 (ver+1) (QS (s++u)))).get lv ob=some (.arr 1 0 [.ref lv xb ver 0 s.length]):=by
   rw [St.get_upd ho.blk ZLW,if_neg (fun q=>ho.ne q.2.symm)];exact ho.box
  refine ZD7 hA' rfl rfl (St.wr_upd ho.wr ho.wr) hgo rfl (QX _ (Nat.lt_succ_self _)) rfl (fun A2 hA2=>?_)
  repeat' (first|refine ZE ?_|refine ZD ?_|refine ZF rfl ?_|refine ZB rfl ?_|refine ZA ?_|refine ZP ?_|refine ZO ?_|refine ZY ?_)
  refine ⟨_,_,Ze hA2 (.inr rfl) rfl rfl rfl rfl rfl,rfl,ver+1,?_⟩;unfold Qx;rw [List.length_append];rfl
 | succ n ih =>
  intro t hv hh hb st lv ab ob xb wb pl px ver s hw ho hl;refine ZiD rfl ?_;obtain ⟨A,hA⟩:∃ A,A=st.A++[(st.ro,st.L)]:=⟨_,rfl⟩;rw [<- hA]
  obtain ⟨c1,c2,c3,c4⟩:=Jm hN hv (by omega)
  have hC:=fun L=>ZAs (hw.rd.push hA (ro:=false) (L:=L)) hv (by omega)
  have htx:=ZAt hN hv (by omega)
  have hg1:=fun L=>ZV hA (ro:=false) (L:=L) hw.a
  rw [htx];rw [<- c4] at hl hb
  generalize Z9 N t=l at *
  have hpos:∀ u∈l,1<=u.bytes:=fun u hu=>(c1 u hu).1.pos.2
  repeat' (first|refine ZE ?_|refine ZD ?_|refine ZF rfl ?_|refine ZJ rfl rfl ?_|refine Z0 rfl rfl ?_|refine ZB rfl ?_|refine ZA ?_|refine QH rfl ?_|(refine Zq rfl rfl (fun _=>?_) (fun _=>?_)<;>try (exfalso;omega))|(refine Zp rfl rfl (fun _=>?_) (fun _=>?_)<;>try (exfalso;omega))|refine ZG rfl ?_|refine Qf rfl rfl (Zl _) ?_|refine Zy rfl (Zv _) (QB _) ?_|refine ZS rfl rfl rfl (YK _) ?_|refine Z8 rfl (hg1 _) rfl rfl ?_|refine ZC rfl rfl (by first|rfl|(simp only [List.nil_append,List.append_nil,List.cons_append,Zg,ZW,ZZ];first|done|rfl)) (hC _) ?_|refine ZH ?_|refine ZI ?_)
  all_goals try (exfalso;omega)
  have hst:st=Qx st lv ob xb ver s:=ho.same.symm
  refine Zr (α:=Nat × List Blk × Nat) (fun p=>[(3,.ptr lv wb 0 0 0),(35,.lit (l.map Tr.av)),(36,.int .i64 l.length),(37,.int .i64 p.1)])
   (fun p=>⟨(Qx st lv ob xb p.2.2 (s++Tr.txtL N (l.take p.1))).A++[((Qx st lv ob xb p.2.2 (s++Tr.txtL N (l.take p.1))).ro,(Qx st lv ob xb p.2.2 (s++Tr.txtL N (l.take p.1))).L)],false,p.2.1⟩)
   (fun p=>p.1<=l.length) (fun p=>l.length-p.1) (0,[Blk.arr 7 0 [t.av]],ver) rfl ?_ (by simp) ?_
  ·simp only [List.take_zero,Tr.txtL,List.append_nil,<- hst,<- hA]
   rfl
  rintro ⟨i,G,ver⟩ hi
  simp only at hi ⊢
  have hw2:=hw.put ho ver (s++Tr.txtL N (l.take i));have ho2:=ho.put ver (s++Tr.txtL N (l.take i))
  have hpp:∀ v2 t2,Qx (Qx st lv ob xb ver (s++Tr.txtL N (l.take i))) lv ob xb v2 t2=Qx st lv ob xb v2 t2:=fun v2 t2=>ZhQ ho.ne
  generalize hs1:Qx st lv ob xb ver (s++Tr.txtL N (l.take i))=st1 at *
  obtain ⟨A1,hA1⟩:∃ A1,A1=st1.A++[(st1.ro,st1.L)]:=⟨_,rfl⟩;rw [<- hA1]
  have hgw:=fun L=>ZV hA1 (ro:=false) (L:=L) hw2.w
  repeat' (first|refine ZE ?_|refine ZD ?_|refine ZF rfl ?_|refine ZB rfl ?_|refine ZA ?_|(refine Zd rfl rfl (fun _=>?_) (fun _=>?_)<;>try (exfalso;omega))|refine ZU rfl ?_|refine ZG rfl ?_|refine Zy rfl rfl rfl ?_|refine Qc rfl rfl (by omega) Zv (fun _ _=>?_)|refine QD rfl (Zl _) ?_|refine J7 rfl rfl rfl (QC _ _ _) (QT _ _) rfl ?_|refine ZH ?_|refine ZP ?_|refine Zn ?_|refine ZI ?_|refine ZO ?_|refine Za ?_|refine ZX rfl ?_|refine Zf ?_)
  ·rename_i u hu
   have hu2:l[i]?=some u:=hu;have hum:=jM hu2
   have hsum:Tr.bytesL l=Tr.bytesL (l.take i)+(u.bytes+Tr.bytesL (l.drop (i+1))):=by
    conv=>lhs;rw [<- List.take_append_drop (i+1) l,Zm hu2,Tr.bytesL_append,Tr.bytesL_append]
    simp [Tr.bytesL];omega
   have p1:=ZOQ hN (l:=l.take i) (fun w hw=>(c1 w (List.mem_of_mem_take hw)).1)
   have p2:=Tr.bytesL_nonneg (l:=l.drop (i+1)) (fun w hw=>by have:=hpos w (List.mem_of_mem_drop hw);omega)
   have p3:=Tr.bytesL_nonneg (l:=l.take i) (fun w hw=>by have:=hpos w (List.mem_of_mem_take hw);omega)
   have hle:lv<=st1.A.length:=St.get_le ho2.blk
   have htx2:s++Tr.txtL N (l.take (i+1))=s++Tr.txtL N (l.take i)++u.txt N:=by
    rw [Zm hu2,Tr.txtL_append,List.append_assoc];simp [Tr.txtL]
   have ihu:=fun L=>ih u (c1 u hum).1 (by have:=(c1 u hum).2.1;omega) (by omega) (hw2.push hA1 (ro:=false) (L:=L)) (ho2.push hA1 (ro:=false) (L:=L)) (by rw [List.length_append];omega)
   refine Z8 rfl (hgw _) rfl rfl ?_
   repeat' (refine Qf rfl rfl (Zl _) ?_)
   refine ZVd rfl rfl (wk4 _ _ _ _ rfl rfl rfl) (ihu _) ?_
   rintro v st' ⟨rfl,v2,rfl⟩
   rw [Zfu hA1 hle,hpp,<- htx2]
   repeat' (first|refine ZE ?_|refine ZD ?_|refine ZF rfl ?_|refine ZB rfl ?_|refine ZA ?_|(refine Zp rfl rfl (fun _=>?_) (fun _=>?_)<;>try (exfalso;omega))|refine ZG rfl ?_|refine Zb rfl rfl (by omega) ?_|refine ZH ?_|refine Zt ?_|refine Zw ?_)
   exact ⟨(i+1,_,v2),⟨rfl,rfl⟩,by simp only;omega,by simp only;omega⟩
  ·have hi':i=l.length:=by omega
   subst hi'
   rw [List.take_length] at *
   refine ⟨_,_,Ze hA1 (.inr rfl) rfl rfl rfl rfl rfl,rfl,ver,?_⟩;exact hs1.symm
structure KRef (st:St) (lv ix ver:Nat) (ks:List Kid):Prop where
 ex:∃ es,st.get lv ix=some (.arr 4 ver es)/\es.take ks.length=ks.map Kid.av
theorem KRef.push {st:St} {A:List (Bool × List Blk)} {ro:Bool} {L:List Blk} (hA:A=st.A++[(st.ro,st.L)]) {lv ix ver:Nat} {ks:List Kid} (h:KRef st lv ix ver ks):KRef ⟨A,ro,L⟩ lv ix ver ks:=by
 obtain ⟨es,h1,h2⟩:=h;exact ⟨es,ZV hA h1,h2⟩
theorem ZD1 {ks:List Kid} {es:List AV} (h:es.take ks.length=ks.map Kid.av) {i:Nat} {k:Kid} (hk:ks[i]?=some k):es[0+((i:Nat):Int).toNat]?=some k.av:=by
 have hlt:i<ks.length:=(List.getElem?_eq_some_iff.1 hk).1
 have h1:(es.take ks.length)[i]?=some k.av:=by rw [h,jG,hk];rfl
 rw [List.getElem?_take,if_pos hlt] at h1
 rw [show 0+((i:Nat):Int).toNat=i by omega];exact h1
def ndR (h:Nat) (lv ix ver n:Nat):AV:=.agg [.int .i64 h,.str [],.ref lv ix ver 0 n]
theorem ZhR (n:Nat) (hn:n<=15) (ks:List Kid) (hk:2<=ks.length/\ks.length<=4) (hs:∀ k∈ks,KidOk n k) (st:St) {lv ix ver:Nat} (hr:KRef st lv ix ver ks):S Tb XZ [ndR (n+1) lv ix ver ks.length] st=some (.bool true,st):=by
 refine Z5 rfl (fun A hA=>?_)
 obtain ⟨es,g,ge⟩:=hr
 have gA:=fun L=>ZV hA (ro:=false) (L:=L) g
 have hwi:∀ L,wIs 4 ver (St.get ⟨A,false,L⟩ lv ix)=true:=fun L=>by rw [gA];simp [wIs]
 unfold ndR
 repeat' (first|refine ZE ?_|refine ZD ?_|refine ZF rfl ?_|refine ZJ rfl rfl ?_|refine ZS rfl rfl rfl rfl ?_|refine Z4 rfl ?_|refine Zk rfl rfl rfl rfl ?_|refine Z0 rfl rfl ?_|refine ZB rfl ?_|refine ZA ?_|refine QJ rfl ?_|(refine Zd rfl rfl (fun _=>?_) (fun _=>?_)<;>try (exfalso;omega))|(refine QQ rfl rfl (fun _=>?_) (fun _=>?_)<;>try (exfalso;omega))|(refine Zq rfl rfl (fun _=>?_) (fun _=>?_)<;>try (exfalso;omega))|(refine ZVb rfl rfl (fun _=>?_) (fun _=>?_)<;>try contradiction)|refine ZG rfl ?_|refine Ql rfl rfl (by omega) ?_|refine Zh rfl rfl rfl ?_|refine ZC rfl rfl rfl (Zfk n _ (by omega) (by omega) _) ?_|refine ZH ?_|refine ZI ?_)
 refine Zr (α:=Nat × List Blk) (fun p=>[(3,.int .i64 (leastB n)),(4,.int .i64 (mostB n)),(59,.ref lv ix ver 0 ks.length),(60,.int .i64 ks.length),(61,.int .i64 p.1)]) (fun p=>⟨A,false,p.2⟩) (fun p=>p.1<=ks.length) (fun p=>ks.length-p.1) (0,[.arr 3 0 [.agg [.int .i64 ↑(n+1),.str [],.ref lv ix ver 0 ks.length]]]) rfl rfl (by simp) ?_
 rintro ⟨i,G⟩ hi
 simp only at hi ⊢
 repeat' (first|refine ZE ?_|refine ZD ?_|refine ZF rfl ?_|refine ZB rfl ?_|refine ZA ?_|(refine Zd rfl rfl (fun _=>?_) (fun _=>?_)<;>try (exfalso;omega))|refine ZU rfl ?_|refine ZG rfl ?_|refine ZH ?_|refine ZP ?_|refine Zn ?_|refine ZI ?_|refine ZO ?_|refine Za ?_|refine ZX rfl ?_|refine Zf ?_)
 ·rename_i hlt
  obtain ⟨k,hk'⟩:∃ k,ks[i]?=some k:=⟨ks[i]'(by omega),by simp [show i<ks.length by omega]⟩
  obtain ⟨a1,b1,c1,d1,e1,f1,g1⟩:=hs k (jM hk')
  refine Qg rfl rfl (by omega) (hwi _) ?_
  refine Z8 (x:=k.av) rfl (gA _) (ZD1 ge hk') rfl ?_
  repeat' (first|refine ZE ?_|refine ZD ?_|refine ZF rfl ?_|refine ZJ rfl rfl ?_|refine Z4 rfl ?_|refine Zk rfl rfl rfl rfl ?_|refine ZB rfl ?_|refine ZA ?_|refine Qf rfl rfl rfl ?_|(refine Zd rfl rfl (fun _=>?_) (fun _=>?_)<;>try (exfalso;omega))|(refine QQ rfl rfl (fun _=>?_) (fun _=>?_)<;>try (exfalso;omega))|(refine Zp rfl rfl (fun _=>?_) (fun _=>?_)<;>try (exfalso;omega))|refine ZG rfl ?_|refine Zb rfl rfl (by omega) ?_|refine Zy rfl rfl rfl ?_|refine J7 rfl rfl rfl rfl rfl rfl ?_|refine ZC rfl rfl rfl (ZLP k.at_ a1 _) ?_|refine ZH ?_|refine Zt ?_|refine Zw ?_)
  exact ⟨(i+1,_),⟨rfl,rfl⟩,by simp only;omega,by simp only;omega⟩
 ·refine Ze hA (by simp) rfl rfl rfl rfl ?_
  rfl
theorem Zmz (n:Nat) (ks:List Kid) (hk:ks.length<=4) (hs:∀ k∈ks,k.m.Fit 65536) (st:St) {lv ix ver:Nat} (hr:KRef st lv ix ver ks):S Tb ZAn [ndR (n+1) lv ix ver ks.length] st=some ((QK (ks.map Kid.m)).av,st):=by
 refine Z5 rfl (fun A hA=>?_)
 obtain ⟨es,g,ge⟩:=hr
 have gA:=fun L=>ZV hA (ro:=false) (L:=L) g
 have hwi:∀ L,wIs 4 ver (St.get ⟨A,false,L⟩ lv ix)=true:=fun L=>by rw [gA];simp [wIs]
 unfold ndR
 repeat' (first|refine ZE ?_|refine ZD ?_|refine ZF rfl ?_|refine ZJ rfl rfl ?_|refine ZS rfl rfl rfl rfl ?_|refine ZB rfl ?_|refine ZA ?_|refine QJ rfl ?_|(refine Zq rfl rfl (fun _=>?_) (fun _=>?_)<;>try (exfalso;omega))|refine ZG rfl ?_|refine Zh rfl rfl rfl ?_|refine JP rfl ?_|refine ZH ?_|refine ZI ?_)
 refine Zr (α:=Nat × List Blk) (fun p=>[(2,.ptr A.length 1 0 0 0),(3,.ref A.length 2 p.1 0 p.1),(13,.ref lv ix ver 0 ks.length),(14,.int .i64 ks.length),(15,.int .i64 p.1)]) (fun p=>⟨A,false,.arr 3 0 [.agg [.int .i64 ↑(n+1),.str [],.ref lv ix ver 0 ks.length]]::.arr 3 0 [.agg [.int .i64 0,.int .i64 0,.int .i64 0]]::.arr 3 p.1 ((ks.take p.1).map fun k=>k.m.av)::p.2⟩) (fun p=>p.1<=ks.length) (fun p=>ks.length-p.1) (0,[]) rfl rfl (by simp) ?_
 rintro ⟨i,G⟩ hi
 simp only at hi ⊢
 repeat' (first|refine ZE ?_|refine ZD ?_|refine ZF rfl ?_|refine ZB rfl ?_|refine ZA ?_|(refine Zd rfl rfl (fun _=>?_) (fun _=>?_)<;>try (exfalso;omega))|refine ZU rfl ?_|refine ZG rfl ?_|refine ZH ?_|refine Zn ?_|refine ZI ?_|refine Za ?_|refine ZX rfl ?_|refine Zf ?_)
 ·rename_i hlt
  obtain ⟨k,hk'⟩:∃ k,ks[i]?=some k:=⟨ks[i]'(by omega),by simp [show i<ks.length by omega]⟩
  refine Qg rfl rfl (by omega) (hwi _) ?_
  refine Z8 (x:=k.av) rfl (gA _) (ZD1 ge hk') rfl ?_
  repeat' (first|refine ZD ?_|refine ZF rfl ?_|refine ZJ rfl rfl ?_|refine ZB rfl ?_|refine ZA ?_|refine Qf rfl rfl rfl ?_|refine Zb rfl rfl (by omega) ?_|refine Zy rfl rfl rfl ?_|refine J7 rfl rfl rfl rfl rfl rfl ?_|refine QR rfl rfl rfl rfl ?_|refine ZCB rfl rfl rfl (by first|rfl|(simp;done)|(simp;omega)) (by first|omega|(simp<;>omega)) (by decide) rfl rfl ?_|refine Zt ?_|refine Zw ?_)
  refine ⟨(i+1,G++[.arr 4 0 [k.av]]),⟨rfl,?_⟩,by simp only;omega,by simp only;omega⟩
  rw [Zm hk',List.map_append];rfl
 ·have hi':ks.take i=ks:=List.take_of_length_le (by omega)
  refine ZC rfl rfl rfl (Zns (ks.map Kid.m) (by simpa using hk) (by intro m hm;obtain ⟨k,hk1,rfl⟩:=List.mem_map.1 hm;exact hs k hk1) _ A.length 2 i i (by simp;omega) (by rw [St.get_cur,hi',List.map_map];rfl)) ?_
  rw [show (QK (ks.map Kid.m)).av=.agg [.int .i64 (QK (ks.map Kid.m)).b,.int .i64 (QK (ks.map Kid.m)).r,.int .i64 (QK (ks.map Kid.m)).l] from rfl]
  repeat' (first|refine ZB rfl ?_|refine ZA ?_|refine Q5 rfl rfl rfl rfl rfl rfl ?_|refine ZP ?_|refine ZO ?_)
  refine Jc hA (by simp) rfl rfl rfl rfl rfl ?_
  rfl
theorem ZhS (n:Nat) (hn:n<=15) (ks:List Kid) (hk:2<=ks.length/\ks.length<=4) (hs:∀ k∈ks,KidOk n k) (hsum:(QK (ks.map Kid.m)).b<=65536) (st:St) {lv ix ver:Nat} (hr:KRef st lv ix ver ks):S Tb ZAJ [ndR (n+1) lv ix ver ks.length] st=some (.int .i64 0,st):=by
 refine Z5 rfl (fun A hA=>?_)
 have hf:=fun L=>ZhR n hn ks hk hs _ (hr.push hA (ro:=false) (L:=L))
 have hS:=fun L=>Zmz n ks hk.2 (fun k hk=>(hs k hk).fit) _ (hr.push hA (ro:=false) (L:=L))
 unfold Mea.av ndR at *
 repeat' (first|refine ZE ?_|refine ZD ?_|refine ZF rfl ?_|refine ZS rfl rfl rfl rfl ?_|refine ZB rfl ?_|refine ZA ?_|refine ZNc (agg:=false) rfl rfl ?_|(refine QQ rfl rfl (fun _=>?_) (fun _=>?_)<;>try (exfalso;omega))|refine ZG rfl ?_|refine Qs rfl rfl ?_|refine Zh rfl rfl rfl ?_|refine ZC rfl rfl rfl (hf _) ?_|refine ZC rfl rfl rfl (hS _) ?_|refine ZH ?_|refine ZP ?_|refine ZO ?_)
 refine Ze hA (by simp) rfl rfl rfl rfl ?_
 rfl
structure AR where
 blk:List Int
 n:Nat
 ver:Nat
 states:List Int
 gens:List Int
 most:Int
 nodes:ZQ
 slots:Int
 allocs:Int
 frees:Int
 stale:Int
namespace AR
def b0 (r:AR):Blk:=.arr 1 0 (r.states.map (.int .u8))
def b1 (r:AR):Blk:=.arr 1 r.ver (r.blk.map (.int .i64))
def b2 (r:AR):Blk:=.arr 1 0 (r.gens.map (.int .u64))
def b3 (r:AR) (lv b:Nat):Blk:=.arr 4 0 [.agg [.ref lv (b+1) r.ver 0 r.n,.ref lv b 0 0 r.states.length,.ref lv (b+2) 0 0 r.gens.length,.int .u64 r.most]]
def b4 (r:AR):Blk:=.map (r.nodes.map nodeAV)
def b5 (r:AR) (lv b:Nat):Blk:=.arr 6 0 [.agg [.int .i64 r.slots,.ptr lv (b+3) 0 0 0,.map lv (b+4),.int .i64 r.allocs,.int .i64 r.frees,.int .i64 r.stale]]
end AR
structure Has (st:St) (lv b:Nat) (r:AR):Prop where
 wr:st.wr lv
 h0:st.get lv b=some r.b0
 h1:st.get lv (b+1)=some r.b1
 h2:st.get lv (b+2)=some r.b2
 h3:st.get lv (b+3)=some (r.b3 lv b)
 h4:st.get lv (b+4)=some r.b4
 h5:st.get lv (b+5)=some (r.b5 lv b)
theorem Has.rd {st:St} {lv b:Nat} {r:AR} (h:Has st lv b r):Rd st lv (b+5) r.nodes:=⟨_,_,_,_,_,_,h.h5,h.h4⟩
theorem ZNQ {T:Tab} {f:FuncId} {body:PC} {res:List RV} {args:List AV} {st st2:St} {v:AV} (hT:T f=some (.pf ⟨false,body,res⟩))
 (h:∀ A,A=st.A++[(st.ro,st.L)]->Ru (S T) body [] (fun x e st'=>Jv false res (x,e,st')=some (v,st2)) (J0 0 args) ⟨A,false,[]⟩):S T f args st=some (v,st2):=by
 obtain ⟨⟨x,e',st',h1,h2⟩⟩:=h _ rfl;refine Zj1 hT ?_;simp only [Jo,jB,if_false,St.push,h1,Option.bind_some];exact h2
def AR.take (r:AR) (s:Nat):AR:={ r with n:=r.n-1,states:=r.states.set s 1 }
def QZ (st:St) (lv b:Nat) (r:AR) (s:Nat):St:=(st.upd lv (b+3) ((r.take s).b3 lv b)).upd lv b (r.take s).b0
theorem ZDH {st:St} {lv b:Nat} {r:AR} (h:Has st lv b r) (s:Nat) (l' i':Nat):(QZ st lv b r s).get l' i'=if l'=lv/\i'=b then some (r.take s).b0 else if l'=lv/\i'=b+3 then some ((r.take s).b3 lv b) else st.get l' i':=by
 have g1:∀ l' i',(st.upd lv (b+3) ((r.take s).b3 lv b)).get l' i'=if l'=lv/\i'=b+3 then some ((r.take s).b3 lv b) else st.get l' i':=fun l' i'=>St.get_upd h.h3 rfl
 have b1:(st.upd lv (b+3) ((r.take s).b3 lv b)).get lv b=some r.b0:=by rw [g1,if_neg (by omega)];exact h.h0
 rw [QZ,St.get_upd b1 rfl,g1]
theorem Has.take {st:St} {lv b:Nat} {r:AR} (h:Has st lv b r) (s:Nat):Has (QZ st lv b r s) lv b (r.take s):=by
 refine ⟨St.wr_upd (St.wr_upd h.wr h.wr) (St.wr_upd h.wr h.wr),?_,?_,?_,?_,?_,?_⟩
 ·rw [ZDH h,if_pos ⟨rfl,rfl⟩]
 ·rw [ZDH h,if_neg (by omega),if_neg (by omega)];exact h.h1
 ·rw [ZDH h,if_neg (by omega),if_neg (by omega)];exact h.h2
 ·rw [ZDH h,if_neg (by omega),if_pos ⟨rfl,rfl⟩]
 ·rw [ZDH h,if_neg (by omega),if_neg (by omega)];exact h.h4
 ·rw [ZDH h,if_neg (by omega),if_neg (by omega)];exact h.h5
theorem ZhT {st:St} {lv b:Nat} {r:AR} (h:Has st lv b r) {k s g:Nat} (hn:r.n=k+1) (hk:r.blk[k]?=some (s:Int)) (hs:s<r.states.length) (hs2:s<16384) (hg:r.gens[s]?=some (g:Int)) (hg1:1<=g/\g<=4294967295) (hbig:r.n<65536) :
 S Tb Y9 [.ptr lv (b+3) 0 0 0] st=some (.tup [.int .u64 ((g*65536+s:Nat):Int),.int .i64 0],QZ st lv b r s):=by
 refine ZNQ rfl (fun A hA=>?_)
 have g1:=fun L=>ZV hA (ro:=false) (L:=L) h.h1
 have g3:=fun L=>ZV hA (ro:=false) (L:=L) h.h3
 unfold AR.b1 at g1;unfold AR.b3 at g3;rw [hn] at g3
 have hM:=fun st=>Zmq s g hs2 hg1 st
 repeat' (first|refine ZE ?_|refine ZD ?_|refine ZF rfl ?_|refine ZJ rfl rfl ?_|refine ZB rfl ?_|refine ZA ?_|refine Z2 rfl rfl ?_|refine QJ rfl ?_|(refine Zq rfl rfl (fun _=>?_) (fun _=>?_)<;>try (exfalso;omega))|refine ZG rfl ?_|refine Ql rfl rfl (by omega) ?_|refine Q4 rfl rfl rfl rfl ?_|refine Z8 rfl (g3 _) rfl rfl ?_|refine ZH ?_)
 all_goals try (exfalso;omega)
 have hw1:∀ L,wIs 1 r.ver (St.get ⟨A,false,L⟩ lv (b+1))=true:=fun L=>by rw [g1];simp [wIs]
 refine Qg rfl rfl (by omega) (hw1 _) ?_
 refine Z8 (x:=.int .i64 s) rfl (g1 _) (by rw [show 0+(((k+1:Nat):Int)-1).toNat=k by omega,jG,hk];rfl) rfl ?_
 repeat' (first|refine ZE ?_|refine ZD ?_|refine ZF rfl ?_|refine ZJ rfl rfl ?_|refine ZB rfl ?_|refine ZA ?_|refine Z2 rfl rfl ?_|refine QJ rfl ?_|refine Ql rfl rfl (by omega) ?_|refine Z8 rfl (g3 _) rfl rfl ?_)
 refine ZAm rfl rfl (by omega) (hw1 _) ?_
 repeat' (first|refine ZJ rfl rfl ?_|refine Z2 rfl rfl ?_)
 have hle:=St.get_le h.h3;have h3':=h.h3;unfold AR.b3 at h3';rw [hn] at h3'
 refine ZD7 hA rfl rfl h.wr h3' rfl (QX _ (Nat.lt_succ_self _)) rfl (fun A1 hA1=>?_)
 have e1:(((k+1:Nat):Int)-1).toNat=k:=by omega
 have eB:Blk.arr 4 0 ([AV.agg [.ref lv (b+1) r.ver 0 (k+1),.ref lv b 0 0 r.states.length,.ref lv (b+2) 0 0 r.gens.length,.int .u64 r.most]].set 0 (.agg [.ref lv (b+1) r.ver 0 (((k+1:Nat):Int)-1).toNat,.ref lv b 0 0 r.states.length,.ref lv (b+2) 0 0 r.gens.length,.int .u64 r.most]))=(r.take s).b3 lv b:=by
  simp [AR.b3,AR.take,hn]
 rw [eB] at hA1
 have q1:∀ l' i',(st.upd lv (b+3) ((r.take s).b3 lv b)).get l' i'=if l'=lv/\i'=b+3 then some ((r.take s).b3 lv b) else st.get l' i':=fun l' i'=>St.get_upd h.h3 rfl
 have hw:=St.wr_upd (b:=(r.take s).b3 lv b) (ix:=b+3) h.wr h.wr
 have k0:(st.upd lv (b+3) ((r.take s).b3 lv b)).get lv b=some r.b0:=by rw [q1,if_neg (by omega)];exact h.h0
 have k2:(st.upd lv (b+3) ((r.take s).b3 lv b)).get lv (b+2)=some r.b2:=by rw [q1,if_neg (by omega)];exact h.h2
 have k3:(st.upd lv (b+3) ((r.take s).b3 lv b)).get lv (b+3)=some ((r.take s).b3 lv b):=by rw [q1,if_pos ⟨rfl,rfl⟩]
 have et:QZ st lv b r s=(st.upd lv (b+3) ((r.take s).b3 lv b)).upd lv b (r.take s).b0:=rfl;rw [et]
 generalize st.upd lv (b+3) ((r.take s).b3 lv b)=st1 at *
 unfold AR.b0 at k0;unfold AR.b3 AR.take at k3;simp only [List.length_set] at k3
 have m0:=fun L=>ZV hA1 (ro:=false) (L:=L) k0
 have m3:=fun L=>ZV hA1 (ro:=false) (L:=L) k3
 have hw0:∀ L,wIs 1 0 (St.get ⟨A1,false,L⟩ lv b)=true:=fun L=>by rw [m0];simp [wIs]
 repeat' (first|refine ZE ?_|refine ZD ?_|refine ZF rfl ?_|refine ZJ rfl rfl ?_|refine ZB rfl ?_|refine ZA ?_|refine Z2 rfl rfl ?_|refine Z8 rfl (m3 _) rfl rfl ?_|refine Qg rfl rfl (by omega) (hw0 _) ?_)
 refine ZD7 hA1 (y:=.int .u8 (r.states[s]'hs)) rfl rfl hw k0 ?_ rfl rfl (fun A2 hA2=>?_)
 ·rw [show 0+((s:Nat):Int).toNat=s by omega,jG,jE hs];rfl
 have eS:Blk.arr 1 0 ((r.states.map (AV.int .u8)).set (0+((s:Nat):Int).toNat) (.int .u8 1))=(r.take s).b0:=by
  rw [show 0+((s:Nat):Int).toNat=s by omega]
  unfold AR.b0 AR.take;simp only [List.map_set]
 rw [eS] at hA2
 have q2:∀ l' i',(st1.upd lv b (r.take s).b0).get l' i'=if l'=lv/\i'=b then some (r.take s).b0 else st1.get l' i':=fun l' i'=>St.get_upd k0 rfl
 have n2:(st1.upd lv b (r.take s).b0).get lv (b+2)=some r.b2:=by rw [q2,if_neg (by omega)];exact k2
 have n3:(st1.upd lv b (r.take s).b0).get lv (b+3)=some (.arr 4 0 [.agg [.ref lv (b+1) r.ver 0 (r.n-1),.ref lv b 0 0 r.states.length,.ref lv (b+2) 0 0 r.gens.length,.int .u64 r.most]]):=by rw [q2,if_neg (by omega)];exact k3
 generalize st1.upd lv b (r.take s).b0=st2 at *
 unfold AR.b2 at n2
 have o2:=fun L=>ZV hA2 (ro:=false) (L:=L) n2
 have o3:=fun L=>ZV hA2 (ro:=false) (L:=L) n3
 have hw2:∀ L,wIs 1 0 (St.get ⟨A2,false,L⟩ lv (b+2))=true:=fun L=>by rw [o2];simp [wIs]
 have hsg:s<r.gens.length:=(List.getElem?_eq_some_iff.1 hg).1
 repeat' (first|refine ZE ?_|refine ZD ?_|refine ZF rfl ?_|refine ZJ rfl rfl ?_|refine ZB rfl ?_|refine ZA ?_|refine Z2 rfl rfl ?_|refine Z8 rfl (o3 _) rfl rfl ?_|refine Qg rfl rfl (by omega) (hw2 _) ?_)
 refine Z8 (x:=.int .u64 g) rfl (o2 _) (by rw [show 0+((s:Nat):Int).toNat=s by omega,jG,hg];rfl) rfl ?_
 repeat' (first|refine ZF rfl ?_|refine Z0 rfl rfl ?_|refine ZB rfl ?_|refine ZA ?_|refine ZC rfl rfl rfl (hM _) ?_|refine ZP ?_|refine ZO ?_)
 refine Ze hA2 (.inr rfl) rfl rfl rfl rfl ?_;rfl
end Go.Q15
namespace Go.Q15
open Go Go.QAbs
set_option maxRecDepth 100000
set_option maxHeartbeats 1000000
def ZAB {α:Type} (l:List α) (g:Int) (i:Nat):List α:=(l.drop (ZAD l.length g i).toNat).take (Jj l.length g i).toNat
def Xg (row:List Tr):List Tr:=(List.range (Zc row.length 4).toNat).map fun i=>grp (ZAB row (Zc row.length 4) i)
def YL:Nat->List Tr->List Tr
 | 0,row=>row
 | n+1,row=>if row.length<=1 then row else YL n (Xg row)
noncomputable def ZAX (s:List UInt8):Tr:=grp (YL s.length ((Q9 s).map Qu))
theorem Zfv (s:List UInt8) (g:Int) (i:Nat):ZHC s g i=ZAB s g i:=rfl
theorem ZYr {α:Type} (l:List α) {g:Int} (hg:1<=g):∀ k:Nat,k<=g.toNat->((List.range k).map (ZAB l g)).flatten=l.take (ZAD l.length g k).toNat
 | 0,_=>by rw [ZBx l.length g (by omega)];simp
 | k+1,h=>by
  rw [List.range_succ,List.map_append,List.flatten_append,ZYr l hg k (by omega),ZAr]
  have h1:=XE (n:=l.length) (g:=g) (by omega) (by omega) (i:=k) (by omega)
  have h2:=YT (n:=l.length) (g:=g) (by omega) (by omega) k
  simp only [jC,List.map_nil,List.flatten_cons,List.flatten_nil,List.append_nil,ZAB];rw [Int.toNat_add h1.1 h2,List.take_add]
theorem ZcB {α:Type} (l:List α) {g:Int} (hg:1<=g):((List.range g.toNat).map (ZAB l g)).flatten=l:=by
 rw [ZYr l hg g.toNat (Nat.le_refl _),Zfp l.length g (by omega)]
 simp
theorem ZLB {α:Type} (l:List α) {g:Int} (hg:1<=g) {i:Nat} (hi:i<g.toNat):((ZAB l g i).length:Int)=Jj l.length g i:=by
 have h1:=XE (n:=l.length) (g:=g) (by omega) (by omega) (i:=i+1) (by omega)
 have h0:=XE (n:=l.length) (g:=g) (by omega) (by omega) (i:=i) (by omega)
 have h2:=YT (n:=l.length) (g:=g) (by omega) (by omega) i
 rw [ZAr] at h1;rw [ZAB,List.length_take,List.length_drop];omega
theorem ZLC {n m:Int} (hm:1<=m) (hn:1<=n) {i:Nat}:Jj n (Zc n m) i<=m/\n / Zc n m<=Jj n (Zc n m) i:=by
 have hg:=Jk hn hm;have e1:Zc n m*(n / Zc n m)+n % Zc n m=n:=Int.mul_ediv_add_emod n (Zc n m)
 have e2:=Int.emod_nonneg n (show Zc n m≠0 by omega)
 have e3:n<=m*Zc n m:=by
  have a1:m*((n-1) / m)+(n-1) % m=n-1:=Int.mul_ediv_add_emod (n-1) m
  have a2:=Int.emod_lt_of_pos (n-1) (show 0<m by omega)
  unfold Zc;rw [Int.mul_add];omega
 refine ⟨?_,by unfold Jj;split<;>omega⟩
 have e4:n / Zc n m<=m:=by
  apply Int.ediv_le_of_le_mul (by omega)
  exact e3
 unfold Jj
 split
 ·rename_i h
  rcases Int.lt_or_le (n / Zc n m) m with q|q
  ·omega
  ·have:n / Zc n m=m:=by omega
   rw [this] at e1
   have:Zc n m*m=m*Zc n m:=Int.mul_comm _ _
   omega
 ·omega
structure Row (N:ZQ) (row:List Tr) (h:Nat) (s:List UInt8):Prop where
 val:∀ t∈row,Val N t/\t.h=h
 big:2<=row.length->∀ t∈row,Big t
 txt:Tr.txtL N row=s
theorem ZjI (N:ZQ) (ls:List (List Tr)) (h:∀ l∈ls,2<=l.length):Tr.txtL N (ls.map grp)=Tr.txtL N ls.flatten:=by
 induction ls with
 | nil=>rfl
 | cons a r ih =>
  rw [jC,Tr.txtL,List.flatten_cons,Tr.txtL_append,ZHH N (h a (by simp)),ih (fun l hl=>h l (by simp [hl]))]
theorem ZYs {N:ZQ} {row:List Tr} {h:Nat} {s:List UInt8} (hr:Row N row h s) (h2:2<=row.length) (hh:h+1<=16):Row N (Xg row) (h+1) s/\(Xg row).length<row.length/\1<=(Xg row).length:=by
 have hg:=Jk (n:=row.length) (most:=4) (by omega) (by omega)
 have hg4:Zc row.length 4=((row.length:Int)-1) / 4+1:=rfl
 have hlen:(Xg row).length=(Zc row.length 4).toNat:=by unfold Xg;simp
 have hsz:∀ i,i<(Zc row.length 4).toNat->2<=(ZAB row (Zc row.length 4) i).length/\(ZAB row (Zc row.length 4) i).length<=4:=by
  intro i hi;have h1:=ZLB row hg.1 hi
  have h3:=ZLC (n:=row.length) (m:=4) (by omega) (by omega) (i:=i)
  have h4:2<=(row.length:Int) / Zc row.length 4:=by
   apply (Int.le_ediv_iff_mul_le (by omega)).2
   omega
  omega
 refine ⟨⟨?_,?_,?_⟩,by omega,by omega⟩
 ·intro t ht
  unfold Xg at ht;obtain ⟨i,hi,rfl⟩:=List.mem_map.1 ht;rw [List.mem_range] at hi;obtain ⟨a,b⟩:=hsz i hi
  obtain ⟨g1,g2,g3⟩:=ZBr (N:=N) (h:=h) a b hh (fun u hu=>by
   have hm:u∈row:=List.mem_of_mem_drop (List.mem_of_mem_take hu)
   exact ⟨(hr.val u hm).1,(hr.val u hm).2,hr.big h2 u hm⟩)
  exact ⟨g1,g2⟩
 ·intro _ t ht
  unfold Xg at ht;obtain ⟨i,hi,rfl⟩:=List.mem_map.1 ht;rw [List.mem_range] at hi;obtain ⟨a,b⟩:=hsz i hi;rw [ZLS a];intro q;simp [Tr.h] at q
 ·have e:Xg row=((List.range (Zc row.length 4).toNat).map (ZAB row (Zc row.length 4))).map grp:=by unfold Xg;rw [List.map_map];rfl
  rw [e,ZjI N _ (fun l hl=>by
   obtain ⟨i,hi,rfl⟩:=List.mem_map.1 hl;rw [List.mem_range] at hi
   exact (hsz i hi).1),ZcB row hg.1,hr.txt]
theorem ZLX {N:ZQ} (hN:GoodN N):∀ (n:Nat) (row:List Tr) (h:Nat) (s:List UInt8),Row N row h s->row.length<=n+1->s.length<=65536->∃ h',Row N (YL n row) h' s/\(YL n row).length<=1/\(1<=row.length->1<=(YL n row).length)
 | 0,row,h,s,hr,hl,hs=>⟨h,hr,by rw [YL];omega,fun q=>q⟩
 | n+1,row,h,s,hr,hl,hs=>by
  rw [YL]
  split
  ·exact ⟨h,hr,by assumption,fun q=>q⟩
  ·rename_i h2
   have hh:h+1<=16:=by
    match row,h2,hr with
    | t::r,h2,hr =>
     have h1:=(hr.val t (by simp))
     have h3:=ZHG hN h1.1
     have h4:(t.txt N).length<=s.length:=by rw [<- hr.txt,Tr.txtL,List.length_append];omega
     have:=h1.1.height hN (by omega)
     omega
    | [],h2,_=>simp at h2
   obtain ⟨a,b,c⟩:=ZYs hr (by omega) hh
   obtain ⟨h',d,e,f⟩:=ZLX hN n (Xg row) (h+1) s a (by omega) hs
   exact ⟨h',d,e,fun _=>f c⟩
theorem ZHK {N:ZQ} (s:List UInt8):Row N ((Q9 s).map Qu) 0 s/\((Q9 s).map Qu).length<=s.length/\(s≠[]->1<=((Q9 s).map Qu).length):=by
 unfold Q9
 split
 ·rename_i h
  have:s=[]:=List.length_eq_zero_iff.1 h
  subst this
  exact ⟨⟨fun t ht=>by simp at ht,fun h=>by simp at h,rfl⟩,by simp,fun q=>absurd rfl q⟩
 ·rename_i h
  have hg:=Jk (n:=s.length) (most:=16) (by omega) (by omega)
  have hsz:∀ i,i<(Zc s.length 16).toNat->1<=(ZAB s (Zc s.length 16) i).length/\(ZAB s (Zc s.length 16) i).length<=16/\(2<=Zc s.length 16->8<=(ZAB s (Zc s.length 16) i).length):=by
   intro i hi;have h1:=ZLB s hg.1 hi
   have h3:=ZLC (n:=s.length) (m:=16) (by omega) (by omega) (i:=i)
   have h4:1<=(s.length:Int) / Zc s.length 16:=by
    apply (Int.le_ediv_iff_mul_le (by omega)).2
    omega
   refine ⟨by omega,by omega,fun h2=>?_⟩
   have hg4:Zc s.length 16=((s.length:Int)-1) / 16+1:=rfl
   have h5:8<=(s.length:Int) / Zc s.length 16:=by
    apply (Int.le_ediv_iff_mul_le (by omega)).2
    omega
   omega
  have hlen:(((List.range (Zc s.length 16).toNat).map (ZHC s (Zc s.length 16))).map Qu).length=(Zc s.length 16).toNat:=by simp
  refine ⟨⟨?_,?_,?_⟩,by omega,fun _=>by omega⟩
  ·intro t ht
   obtain ⟨c,hc,rfl⟩:=List.mem_map.1 ht;obtain ⟨i,hi,rfl⟩:=List.mem_map.1 hc;rw [List.mem_range] at hi
   have:=hsz i hi
   exact ⟨ZFA ⟨this.1,this.2.1⟩,rfl⟩
  ·intro h2 t ht
   obtain ⟨c,hc,rfl⟩:=List.mem_map.1 ht;obtain ⟨i,hi,rfl⟩:=List.mem_map.1 hc;rw [List.mem_range] at hi
   have:=(hsz i hi).2.2 (by omega)
   intro _;rw [XF,Zfv];omega
  ·have hf : ∀ l : List (List UInt8), Tr.txtL N (l.map Qu) = l.flatten := by
    intro l
    induction l with
    | nil=>rfl
    | cons a l ih=>rw [jC,Tr.txtL,ih,ZQP,List.flatten_cons]
   rw [hf];exact ZcB s hg.1
theorem ZLY {N:ZQ} (hN:GoodN N) {s:List UInt8} (hs:s.length<=65536):VE N (ZAX s)/\(ZAX s).txt N=s/\(ZAX s).bytes=s.length:=by
 obtain ⟨a,b,c⟩:=ZHK (N:=N) s
 obtain ⟨h',d,e,f⟩:=ZLX hN s.length _ 0 s a (by omega) hs
 unfold ZAX
 generalize YL s.length ((Q9 s).map Qu)=row at *
 match row,e,d with
 | [],_,d =>
  have:s=[]:=d.txt.symm
  subst this;exact ⟨.inl zero_empty,rfl,rfl⟩
 | [t],_,d =>
  have h1:=(d.val t (by simp)).1
  have h2:=d.txt;simp only [Tr.txtL,List.append_nil] at h2;refine ⟨.inr h1,h2,?_⟩
  have:=ZHG hN h1
  rw [h2] at this;exact this.symm
set_option maxHeartbeats 8000000
theorem ZSQ {α:Type} (G:List α) (a:α) (r:List α):(G++a::r)[G.length]?=some a:=by
 rw [List.getElem?_append_right (Nat.le_refl _)];simp
theorem ZiI {α:Type} (G:List α) (a b:α) (r:List α):(G++a::b::r)[G.length+1]?=some b:=by
 rw [List.getElem?_append_right (by omega)];simp
theorem ZiJ {α:Type} (G:List α) (a b c:α) (r:List α):(G++a::b::r).set (G.length+1) c=G++a::c::r:=by
 rw [List.set_append_right _ _ (by omega)];simp
theorem ZYt {O:Orc} {k:List Fr} {Q:YY} {e:Env} {A:List (Bool × List Blk)} {L:List Blk} {keep:List Nat} {is:List PI} {d:Nat} {s x:Opd} {ix ver n:Nat} {l:List Tr} {t:Tr} (hs:Zo e s=some (.ref A.length ix ver 0 n)) (hx:Zo e x=some (.lit ([t].map Tr.av))) (hg:L[ix]?=some (Blk.arr 7 ver (l.map Tr.av))) (hb:n=l.length)
 (hl:l.length+1<4294967296) (h:Is O is keep k Q ((d,.ref A.length ix (ver+1) 0 (n+1))::e) ⟨A,false,L.set ix (Blk.arr 7 (ver+1) ((l++[t]).map Tr.av))⟩):Is O (⟨some d,none,false,.app 7 80 s x⟩::is) keep k Q e ⟨A,false,L⟩:=by
 subst hb
 refine ZLU hs hg rfl hx (.lit _) (by simp;omega) ?_
 simpa using h
theorem Zfw {O:Orc} {k:List Fr} {Q:YY} {e:Env} {A:List (Bool × List Blk)} {L:List Blk} {keep:List Nat} {is:List PI} {d w:Nat} (h:Is O is keep k Q ((d,.ref A.length L.length 0 0 0)::e) ⟨A,false,L++[Blk.arr w 0 []]⟩):Is O (⟨some d,none,false,.onil w⟩::is) keep k Q e ⟨A,false,L⟩ :=
 QA (v:=.ref A.length L.length 0 0 0) (st':=⟨A,false,L++[Blk.arr w 0 []]⟩) (by simp only [Zs,evalPO,Option.bind_some,St.new_cur,Jf]) h
theorem ZjJ {N:ZQ} (hN:GoodN N) {A:List (Bool × List Blk)} {k:List Fr} {Q:YY} {s:List UInt8} (hs:s.length<=65536) (B:Blk) (row:List Tr) (n:Nat) (r:List Tr) (hrow:Row N row 0 s) (hn:row.length<=n+1) (h64:row.length<=65536) (hr:YL n row=r)
 (hex:∀ (G:List Blk) (ver:Nat),Rk (S Tb) k Q (.ex 2) [(2,.ptr A.length 0 0 0 0),(4,.ref A.length (B::G).length ver 0 r.length),(31,.bool false)] ⟨A,false,B::G++[.arr 7 ver (r.map Tr.av)]⟩) (ver:Nat) (ex:Env) :
 Ru (S Tb) (.loop ZHO) k Q ((2,.ptr A.length 0 0 0 0)::(4,.ref A.length 1 ver 0 row.length)::ex) ⟨A,false,[B,.arr 7 ver (row.map Tr.av)]⟩:=by
 refine Zr (α:=List Tr × List Blk × Nat × Env) (fun p=>(2,.ptr A.length 0 0 0 0)::(4,.ref A.length (B::p.2.1).length p.2.2.1 0 p.1.length)::p.2.2.2) (fun p=>⟨A,false,B::p.2.1++[.arr 7 p.2.2.1 (p.1.map Tr.av)]⟩)
  (fun p=>p.1.length<=65536/\∃ k h,p.1.length<=k+1/\Row N p.1 h s/\YL k p.1=r) (fun p=>p.1.length) (row,[],ver,ex) rfl rfl ⟨h64,n,0,hn,hrow,hr⟩ ?_
 rintro ⟨row,G,ver,ex⟩ ⟨h64,kk,h,hk,hR,hb⟩
 simp only at h64 hk hR hb ⊢
 repeat' (first|refine ZE ?_|refine ZD ?_|refine ZF rfl ?_|refine ZB rfl ?_|refine ZA ?_|refine QJ rfl ?_|(refine QQ rfl rfl (fun _=>?_) (fun _=>?_)<;>try (exfalso;omega))|refine ZU rfl ?_|refine ZG rfl ?_|refine ZH ?_|refine Zn ?_|refine ZI ?_|refine Za ?_|refine Zf ?_)
 ·rename_i hgt
  have hgt2:2<=row.length:=by omega
  obtain ⟨kk,rfl⟩:∃ j,kk=j+1:=⟨kk-1,by omega⟩
  rw [YL,if_neg (by omega)] at hb
  have hh:h+1<=16:=by
   match row,hgt2,hR with
   | t::r,_,hR =>
    have h1:=(hR.val t (by simp))
    have h3:=ZHG hN h1.1
    have h4:(t.txt N).length<=s.length:=by rw [<- hR.txt,Tr.txtL,List.length_append];omega
    have:=h1.1.height hN (by omega)
    omega
  obtain ⟨u1,u2,u3⟩:=ZYs hR hgt2 hh
  refine ZC rfl rfl rfl (Zmv row.length 4 _ (by omega)) ?_
  have hg:=Jk (n:=row.length) (most:=4) (by omega) (by omega)
  have hget:=fun i hi=>ZHD (n:=row.length) (m:=4) (by omega) (i:=i) hi
  have hlen:=ZHE (n:=row.length) (m:=4) (by omega)
  have hpb:=fun (i:Nat) hi=>XE (n:=row.length) (g:=Zc row.length 4) (by omega) (by omega) (i:=i) hi
  have hps:=ZAr row.length (Zc row.length 4)
  have hp0:=ZBx row.length (Zc row.length 4) (by omega)
  have hsn:=YT (n:=row.length) (g:=Zc row.length 4) (by omega) (by omega)
  have hrl:(Xg row).length=(Zc row.length 4).toNat:=by unfold Xg;simp
  have hrg:∀ i,i<(Zc row.length 4).toNat->(Xg row)[i]?=some (grp (ZAB row (Zc row.length 4) i)):=by
   intro i hi;unfold Xg;rw [jG,List.getElem?_range hi];rfl
  have hpl:=fun i hi=>ZLB row (g:=Zc row.length 4) hg.1 (i:=i) hi
  have hpe:∀ i,ZAB row (Zc row.length 4) i=(row.drop (ZAD row.length (Zc row.length 4) i).toNat).take (Jj row.length (Zc row.length 4) i).toNat:=fun _=>rfl
  generalize Yr (row.length:Int) 4=z at *
  generalize Zc (row.length:Int) 4=g at *
  generalize Xg row=up at *
  have hh2:∀ u∈row,u.h<=65536:=fun u hu=>by have:=(hR.val u hu).1.h16;omega
  repeat' (first|refine ZE ?_|refine ZD ?_|refine ZF rfl ?_|refine Z0 rfl rfl ?_|refine ZB rfl ?_|refine ZA ?_|refine QH rfl ?_|(refine Zp rfl rfl (fun _=>?_) (fun _=>?_)<;>try (exfalso;omega))|refine ZG rfl ?_|refine Zfw ?_|refine ZH ?_|refine ZI ?_)
  all_goals try (exfalso;omega)
  refine Zr (α:=Nat) (fun i=>[(2,.ptr A.length 0 0 0 0),(4,.ref A.length (B::G).length ver (ZAD row.length g i).toNat (row.length-(ZAD row.length g i).toNat)),(9,.ref A.length ((B::G).length+1) i 0 i),(42,ZDz z),(43,.int .i64 z.length),(44,.int .i64 i)])
   (fun i=>⟨A,false,B::G++[.arr 7 ver (row.map Tr.av),.arr 7 i ((up.take i).map Tr.av)]⟩) (fun i=>i<=z.length) (fun i=>z.length-i) 0 ?_ ?_ (Nat.zero_le _) ?_
  ·simp [hp0]
  ·simp
  intro i hi
  repeat' (first|refine ZE ?_|refine ZD ?_|refine ZF rfl ?_|refine ZB rfl ?_|refine ZA ?_|refine QD rfl rfl ?_|refine Qc rfl rfl (by omega) (fun _=>rfl) (fun _ _=>?_)|(refine Zd rfl rfl (fun _=>?_) (fun _=>?_)<;>try (exfalso;omega))|refine ZU rfl ?_|refine ZG rfl ?_|refine ZH ?_|refine Zn ?_|refine ZI ?_|refine Za ?_|refine Zt ?_|refine ZX rfl ?_|refine Zw ?_|refine Zf ?_)
  ·rename_i hlt x hx
   have hi2:i<g.toNat:=by omega
   have hx2:z[i]?=some x:=hx;rw [hget i hi2] at hx2;have hx3:=Option.some.inj hx2;subst hx3
   have hb0:=hpb i (by omega)
   have hb1:=hpb (i+1) (by omega)
   rw [hps i] at hb1;have hs0:=hsn i;have hpl2:=hpl i hi2;have hrg2:=hrg i hi2;have hpe2:=hpe i;have hps2:=hps i
   generalize ZAD (row.length:Int) g i=p at *
   generalize Jj (row.length:Int) g i=q at *
   generalize ZAB row g i=part at *
   have hgetL:∀ b:Blk,(B::G++[.arr 7 ver (row.map Tr.av),b])[(B::G).length]?=some (.arr 7 ver (row.map Tr.av)):=fun b=>ZSQ _ _ _
   have hwi:wIs 7 ver (St.get ⟨A,false,B::G++[.arr 7 ver (row.map Tr.av),.arr 7 i ((up.take i).map Tr.av)]⟩ A.length (B::G).length)=true:=by
    rw [St.get_cur,hgetL];simp [vis,wIs]
   refine ZAm rfl rfl (by omega) hwi ?_
   have hSl:Sl ⟨A,false,B::G++[.arr 7 ver (row.map Tr.av),.arr 7 i ((up.take i).map Tr.av)]⟩ (.ref A.length (B::G).length ver p.toNat q.toNat) part:=by
    refine .ref (es:=row.map Tr.av) (by rw [St.get_cur,hgetL];rfl) (by omega) (by rw [List.length_map];omega) ?_
    rw [hpe2,<- List.map_drop,<- List.map_take]
   refine ZC rfl rfl rfl (Xo (by omega) (fun u hu=>hh2 u (by rw [hpe2] at hu;exact List.mem_of_mem_drop (List.mem_of_mem_take hu))) hSl) ?_
   have hti:(up.take i).length=i:=by rw [List.length_take];omega
   refine Yk rfl ?_
   refine ZYt rfl rfl (ZiI _ _ _ _) hti.symm (by omega) ?_
   rw [ZiJ];have htk:=Zm hrg2;rw [<- htk]
   repeat' (first|refine ZD ?_|refine ZF rfl ?_|refine ZB rfl ?_|refine ZA ?_)
   have hwi2:wIs 7 ver (St.get ⟨A,false,B::G++[.arr 7 ver (row.map Tr.av),.arr 7 (i+1) ((up.take (i+1)).map Tr.av)]⟩ A.length (B::G).length)=true:=by
    rw [St.get_cur,hgetL];simp [vis,wIs]
   refine ZFZ rfl rfl (by omega) hwi2 ?_
   repeat' (first|refine ZD ?_|refine ZF rfl ?_|refine ZB rfl ?_|refine ZA ?_|refine Zb rfl rfl (by omega) ?_|refine Zt ?_|refine Zw ?_)
   refine ⟨i+1,⟨?_,rfl⟩,by omega,by omega⟩
   rw [show p.toNat+q.toNat=(p+q).toNat by omega,show row.length-p.toNat-q.toNat=row.length-(p+q).toNat by omega]
   simp only [hps2];rfl
  ·have hi2:i=up.length:=by omega
   subst hi2;rw [List.take_length]
   refine ⟨(up,G++[.arr 7 ver (row.map Tr.av)],up.length,[]),⟨?_,?_⟩,⟨by simp only;omega,kk,h+1,by simp only;omega,u1,hb⟩,by simp only;omega⟩
   ·simp
   ·simp
 ·have hrr : YL kk row = row := by
   cases kk with
   | zero=>rfl
   | succ j=>rw [YL,if_pos (by omega)]
  rw [hrr] at hb;subst hb;exact hex G ver
theorem ZSy (s:List UInt8):(Q9 s).length<=s.length:=by
 have:=(ZHK (N:=[]) s).2.1
 simpa using this
theorem ZeH {N:ZQ} (hN:GoodN N) (s:List UInt8) (hs:s.length<=65536) (st:St):S Tb ZAH [.str s] st=some (.tup [(ZAX s).av,.int .i64 0],st):=by
 refine Z5 rfl (fun A hA=>?_)
 have hcl:=ZSy s
 have hch:=fun st=>Zk3 s st (by omega)
 obtain ⟨ra,rb,rc⟩:=ZHK (N:=N) s
 obtain ⟨h',rd,re,rf⟩:=ZLX hN s.length _ 0 s ra (by omega) hs
 unfold ZAX
 generalize hres:YL s.length ((Q9 s).map Qu)=r at *
 have hG:=fun {v:AV} {st:St} (hv:Sl st v r)=>Xo (by omega) (fun u hu=>by have:=(rd.val u hu).1.h16;omega) hv
 have hlen:((Q9 s).map Qu).length=(Q9 s).length:=by simp
 generalize hc:Q9 s=c at *
 unfold ZSv at hch
 repeat' (first|refine ZE ?_|refine ZD ?_|refine ZF rfl ?_|refine ZB rfl ?_|refine ZA ?_|refine Qp rfl ?_|refine QH rfl ?_|(refine QQ rfl rfl (fun _=>?_) (fun _=>?_)<;>try (exfalso;omega))|refine ZG rfl ?_|refine Zh rfl rfl rfl ?_|refine JP rfl ?_|refine ZC rfl rfl (by first|rfl|(simp only [List.nil_append,List.append_nil,List.cons_append,Zg,ZW,ZZ];first|done|rfl)) (hch _) ?_|refine ZH ?_|refine ZI ?_)
 all_goals try (exfalso;omega)
 refine Zr (α:=Nat) (fun i=>[(2,.ptr A.length 0 0 0 0),(4,.ref A.length 1 i 0 i),(17,.lit (c.map .str)),(18,.int .i64 c.length),(19,.int .i64 i)])
  (fun i=>⟨A,false,[.arr 7 0 [trZ],.arr 7 i ((c.take i).map fun s=>(Qu s).av)]⟩) (fun i=>i<=c.length) (fun i=>c.length-i) 0 rfl rfl (by simp) ?_
 rintro i hi
 repeat' (first|refine ZE ?_|refine ZD ?_|refine ZF rfl ?_|refine ZB rfl ?_|refine ZA ?_|refine QD rfl rfl ?_|refine Qc rfl rfl (by omega) (fun _=>rfl) (fun _ _=>?_)|(refine Zd rfl rfl (fun _=>?_) (fun _=>?_)<;>try (exfalso;omega))|refine ZU rfl ?_|refine ZG rfl ?_|refine Zb rfl rfl (by omega) ?_|refine Zj rfl rfl rfl ?_|refine QR rfl rfl rfl rfl ?_|refine ZBc rfl rfl rfl (by first|rfl|(simp;done)|(simp;omega)) (by first|omega|(simp<;>omega)) (by decide) rfl rfl rfl ?_|refine ZH ?_|refine Zn ?_|refine ZI ?_|refine Za ?_|refine Zt ?_|refine ZX rfl ?_|refine Zw ?_|refine Zf ?_)
 ·rename_i x hx
  have hx2:c[i]?=some x:=hx
  refine ⟨i+1,⟨rfl,?_⟩,by omega,by omega⟩
  simp only [Zm hx2,List.map_append,jC,List.map_nil];rfl
 ·have hi':i=c.length:=by omega
  subst hi';rw [List.take_length]
  have:=ZjJ hN hs (A:=A) (.arr 7 0 [trZ]) (c.map Qu) s.length r ra (by omega) (by omega) hres (k:=[.blk 2,.seq (.seq ZHP .ret)]) (Q:=fun x e st'=>Jv false [.c 2 true 7,.s 3] (x,e,st')=some (.tup [(grp r).av,.int .i64 0],st)) (fun G ver=>?_) c.length [(17,.lit (c.map .str)),(18,.int .i64 c.length),(19,.int .i64 c.length),(20,.bool false)]
  ·rw [List.map_map,List.length_map] at this
   exact this
  ·repeat' (first|refine ZE ?_|refine ZD ?_|refine ZF rfl ?_|refine ZB rfl ?_|refine ZA ?_|refine Q5 rfl rfl rfl rfl (QC _ _ _) (QT _ _) ?_|refine ZC rfl rfl (by first|rfl|(simp only [List.nil_append,List.append_nil,List.cons_append,Zg,ZW,ZZ];first|done|rfl)) (hG (Sl.cur (ZSQ _ _ _) rfl)) ?_|refine ZP ?_|refine ZO ?_|refine ZX rfl ?_)
   exact ZHB hA (.inr rfl) rfl rfl rfl rfl
theorem Zfx:∀ {N:ZQ} {h:Nat} {x:Nd},lk N h=none->ZIx (.int .u64 h) x.av (N.map nodeAV)=some ((N++[(h,x)]).map nodeAV)
 | [],h,x,_=>rfl
 | p::N,h,x,hn=>by
  rw [lk] at hn
  by_cases q:p.1=h
  ·rw [if_pos q] at hn;simp at hn
  ·rw [if_neg q] at hn
   rw [jC,ZIx]
   show (Option.bind (if IntKind.u64=IntKind.u64 then some ((h:Int) == (p.1:Int)) else none) fun b=>if b=true then some ((AV.int .u64 h,x.av)::N.map nodeAV) else (ZIx (.int .u64 h) x.av (N.map nodeAV)).map (nodeAV p::·))=_
   rw [if_pos rfl,Option.bind_some,if_neg (by simp;omega),Zfx hn]
   rfl
section
variable {O:Orc} {k:List Fr} {Q:YY} {e:Env} {A:List (Bool × List Blk)} {L:List Blk} {keep:List Nat} {is:List PI} {d:Nat}
theorem Zfy {st:St} {x i v:Opd} {lv ix h:Nat} {w:AV} {es es':List (AV × AV)} (hA:A=st.A++[(st.ro,st.L)]) (hx:Zo e x=some (.map lv ix)) (hi:Zo e i=some (.int .u64 h)) (hv:Zo e v=some w) (hw:st.wr lv) (hg:st.get lv ix=some (.map es))
 (hs:Zi QU (lv+1) ⟨A,false,L⟩ w=some (w,⟨A,false,L⟩)) (hp:ZIx (.int .u64 h) w es=some es')
 (hh:∀ A',A'=(st.upd lv ix (.map es')).A++[((st.upd lv ix (.map es')).ro,(st.upd lv ix (.map es')).L)]->Is O is keep k Q e ⟨A',false,L⟩):Is O (⟨none,none,false,.mupd 0 x i v⟩::is) keep k Q e ⟨A,false,L⟩:=by
 have hl:=St.get_le hg;refine QA (od:=none) (v:=.undef) (st':=St.upd ⟨A,false,L⟩ lv ix (.map es')) ?_ ?_
 ·simp only [Zs,evalPO,ZL hx,ZL hi,ZL hv,ZSY,Y0,if_true,hs,Option.bind_some,ZVl,ZV hA hg,ZS2,hp,St.put_upd (XI hA hl hw) (ZV hA hg),ZBY]
 ·rw [Jp hA hl]
  exact hh _ rfl
end
theorem Zm0 {st:St} {lv ix ver:Nat} {ks:List Kid} (hr:KRef st lv ix ver ks) (hl:ks.length<=4):S Tb Z6 [.ref lv ix ver 0 ks.length] st=some (.lit (ks.map Kid.av),st):=by
 obtain ⟨es,g,ge⟩:=hr;refine Zj2 (o:=ZFV 4) rfl ?_
 have hle:ks.length<=es.length:=by
  have:=congrArg List.length ge
  rw [List.length_take,List.length_map] at this;omega
 have him:(ks.map Kid.av).all (imm 6)=true:=by
  rw [List.all_eq_true];intro v hv;obtain ⟨k,_,rfl⟩:=List.mem_map.1 hv;rfl
 simp only [ZFV,g,ZEM,true_and,Nat.zero_add,if_pos hle,List.drop_zero,Option.bind_some,ge,Zb5,List.length_map,show ks.length<=65536 by omega,him,and_self,if_true]
def AR.alloc (r:AR) (s g:Nat) (x:Nd):AR:={ r.take s with nodes:=r.nodes++[(g*65536+s,x.copy)],allocs:=r.allocs+1 }
def Yx (st:St) (lv b:Nat) (r:AR) (s g:Nat) (x:Nd):St:=((QZ st lv b r s).upd lv (b+4) (r.alloc s g x).b4).upd lv (b+5) ((r.alloc s g x).b5 lv b)
theorem ZBz {st:St} {lv b:Nat} {r:AR} (h:Has st lv b r) (s g:Nat) (x:Nd) (l' i':Nat):(Yx st lv b r s g x).get l' i'=if l'=lv/\i'=b+5 then some ((r.alloc s g x).b5 lv b) else if l'=lv/\i'=b+4 then some (r.alloc s g x).b4 else (QZ st lv b r s).get l' i':=by
 have ht:=h.take s
 have g1:∀ l' i',((QZ st lv b r s).upd lv (b+4) (r.alloc s g x).b4).get l' i'=if l'=lv/\i'=b+4 then some (r.alloc s g x).b4 else (QZ st lv b r s).get l' i':=fun l' i'=>St.get_upd ht.h4 rfl
 have b1:((QZ st lv b r s).upd lv (b+4) (r.alloc s g x).b4).get lv (b+5)=some ((r.take s).b5 lv b):=by rw [g1,if_neg (by omega)];exact ht.h5
 rw [Yx,St.get_upd b1 rfl,g1]
theorem Has.alloc {st:St} {lv b:Nat} {r:AR} (h:Has st lv b r) (s g:Nat) (x:Nd):Has (Yx st lv b r s g x) lv b (r.alloc s g x):=by
 have ht:=h.take s;refine ⟨St.wr_upd (St.wr_upd ht.wr ht.wr) (St.wr_upd ht.wr ht.wr),?_,?_,?_,?_,?_,?_⟩
 ·rw [ZBz h,if_neg (by omega),if_neg (by omega)];exact ht.h0
 ·rw [ZBz h,if_neg (by omega),if_neg (by omega)];exact ht.h1
 ·rw [ZBz h,if_neg (by omega),if_neg (by omega)];exact ht.h2
 ·rw [ZBz h,if_neg (by omega),if_neg (by omega)];exact ht.h3
 ·rw [ZBz h,if_neg (by omega),if_pos ⟨rfl,rfl⟩]
 ·rw [ZBz h,if_pos ⟨rfl,rfl⟩]
theorem ZSR {st:St} {A:List (Bool × List Blk)} {ro:Bool} {L:List Blk} (hA:A=st.A++[(st.ro,st.L)]) {lv b s:Nat} {r:AR} (hl:lv<=st.A.length) :
 QZ ⟨A,ro,L⟩ lv b r s=⟨(QZ st lv b r s).A++[((QZ st lv b r s).ro,(QZ st lv b r s).L)],ro,L⟩:=by
 unfold QZ;rw [Jp hA hl]
 exact Jp rfl (by rw [St.upd_A];exact hl)
theorem ZhU (st:St) (lv b s:Nat) (r:AR):(QZ st lv b r s).A.length=st.A.length:=by
 unfold QZ;rw [St.upd_A,St.upd_A]
structure CanTake (r:AR) (k s g:Nat):Prop where
 n:r.n=k+1
 blk:r.blk[k]?=some (s:Int)
 st:s<r.states.length
 s16:s<16384
 gen:r.gens[s]?=some (g:Int)
 g1:1<=g
 g2:g<=4294967295
 big:r.n<65536
 new:lk r.nodes (g*65536+s)=none
 al:0<=r.allocs/\r.allocs<1000000
theorem ZSS {st:St} {lv b:Nat} {r:AR} (h:Has st lv b r) {k s g:Nat} (hc:CanTake r k s g) (x:Nd) (v:AV) (hone:v.one=true)
 (A:List (Bool × List Blk)) (G:List Blk) (hA:A=(QZ st lv b r s).A++[((QZ st lv b r s).ro,(QZ st lv b r s).L)]) (hC:∀ L,S Tb Z6 [weak v] ⟨A,false,L⟩=some (.lit (x.ks.map Kid.av),⟨A,false,L⟩)) :
 Ru (S Tb) (.seq ZAR (.seq ZAS (.seq ZAT (.seq ZAU .ret)))) [] (fun x' e st' =>
  Jv false [RV.s 4,RV.s 5] (x',e,st')=some (.tup [.int .u64 ((g*65536+s:Nat):Int),.int .i64 0],Yx st lv b r s g x))
  [(0,.ptr lv (b+5) 0 0 0),(3,.ptr A.length 0 0 0 0),(13,.int .u64 ((g*65536+s:Nat):Int)),(14,.int .i64 0),(72,.bool false)] ⟨A,false,.arr 3 0 [.agg [.int .i64 x.h,.str x.text,v]]::G⟩:=by
 have ht:=h.take s
 have g5:=fun L=>ZV hA (ro:=false) (L:=L) ht.h5
 unfold AR.b5 at g5;have hal:=hc.al;have hpv:JJ (.agg [.int .i64 x.h,.str x.text,v]) false 2 1=some v:=rfl
 repeat' (first|refine ZE ?_|refine ZD ?_|refine ZJ rfl rfl ?_|refine ZS rfl rfl rfl rfl ?_)
 refine ZC rfl rfl rfl (hC _) ?_;have hstv:(Q0 3 (.agg [.int .i64 x.h,.str x.text,v]) 2 1 (.lit (x.ks.map Kid.av))).bind YP=some x.copy.av:=rfl
 repeat' (first|refine ZE ?_|refine ZD ?_|refine ZF rfl ?_|refine ZJ rfl rfl ?_|refine ZS rfl rfl rfl rfl ?_|refine ZB rfl ?_|refine ZA ?_|refine Z2 rfl rfl ?_|refine Q5 rfl rfl rfl rfl rfl rfl ?_|refine Z8 rfl (g5 _) rfl rfl ?_)
 have hp:=Zfx (N:=r.nodes) (x:=x.copy) hc.new
 refine Zfy (w:=x.copy.av) hA rfl rfl rfl ht.wr ht.h4 rfl hp (fun A1 hA1=>?_)
 have eM:Blk.map ((r.nodes++[(g*65536+s,x.copy)]).map nodeAV)=(r.alloc s g x).b4:=rfl;rw [eM] at hA1
 have q1:∀ l' i',((QZ st lv b r s).upd lv (b+4) (r.alloc s g x).b4).get l' i'=if l'=lv/\i'=b+4 then some (r.alloc s g x).b4 else (QZ st lv b r s).get l' i':=fun l' i'=>St.get_upd ht.h4 rfl
 have k5:((QZ st lv b r s).upd lv (b+4) (r.alloc s g x).b4).get lv (b+5)=some ((r.take s).b5 lv b):=by rw [q1,if_neg (by omega)];exact ht.h5
 have hw1:=St.wr_upd (b:=(r.alloc s g x).b4) (ix:=b+4) ht.wr ht.wr;have eA:Yx st lv b r s g x=((QZ st lv b r s).upd lv (b+4) (r.alloc s g x).b4).upd lv (b+5) ((r.alloc s g x).b5 lv b):=rfl;rw [eA]
 generalize (QZ st lv b r s).upd lv (b+4) (r.alloc s g x).b4=st1 at *
 unfold AR.b5 at k5
 have m5:=fun L=>ZV hA1 (ro:=false) (L:=L) k5
 have hat:(r.take s).allocs=r.allocs:=rfl;rw [hat] at k5 m5
 repeat' (first|refine ZE ?_|refine ZD ?_|refine ZF rfl ?_|refine ZJ rfl rfl ?_|refine ZB rfl ?_|refine ZA ?_|refine Z2 rfl rfl ?_|refine Zb rfl rfl (by omega) ?_|refine Z8 rfl (m5 _) rfl rfl ?_)
 refine ZD7 hA1 rfl rfl hw1 k5 rfl rfl rfl (fun A2 hA2=>?_)
 have eB:Blk.arr 6 0 ([AV.agg [.int .i64 (r.take s).slots,.ptr lv (b+3) 0 0 0,.map lv (b+4),.int .i64 r.allocs,.int .i64 (r.take s).frees,.int .i64 (r.take s).stale]].set 0 (.agg [.int .i64 (r.take s).slots,.ptr lv (b+3) 0 0 0,.map lv (b+4),.int .i64 (r.allocs+1),.int .i64 (r.take s).frees,.int .i64 (r.take s).stale]))=(r.alloc s g x).b5 lv b:=rfl;rw [eB] at hA2
 repeat' (first|refine ZE ?_|refine ZD ?_|refine ZF rfl ?_|refine ZB rfl ?_|refine ZA ?_|refine ZP ?_|refine ZO ?_)
 refine Ze hA2 (.inr rfl) rfl rfl rfl rfl ?_;rfl
theorem ZYu {st:St} {lv b:Nat} {r:AR} (h:Has st lv b r) {k s g:Nat} (hc:CanTake r k s g) (text:List UInt8) (ht:ZAc text) :
 S Tb Qh [.ptr lv (b+5) 0 0 0,.agg [.int .i64 (0:Nat),.str text,.nils]] st=some (.tup [.int .u64 ((g*65536+s:Nat):Int),.int .i64 0],Yx st lv b r s g ⟨0,text,none⟩):=by
 refine ZNQ rfl (fun A hA=>?_)
 have hN:=fun st=>ZYh ⟨0,text,none⟩ (.inl ⟨rfl,ht.1,ht.2,rfl⟩) st
 simp only [Nd.av,slV] at hN
 have g5:=fun L=>ZV hA (ro:=false) (L:=L) h.h5
 unfold AR.b5 at g5
 repeat' (first|refine ZE ?_|refine ZD ?_|refine ZF rfl ?_|refine ZJ rfl rfl ?_|refine ZS rfl rfl rfl rfl ?_|refine ZB rfl ?_|refine ZA ?_|refine Z2 rfl rfl ?_|refine JC rfl ?_|(refine Zd rfl rfl (fun _=>?_) (fun _=>?_)<;>try (exfalso;omega))|(refine Zp rfl rfl (fun _=>?_) (fun _=>?_)<;>try (exfalso;omega))|refine ZG rfl ?_|refine Q4 rfl rfl rfl rfl ?_|refine Zh rfl rfl rfl ?_|refine ZC rfl rfl rfl (hN _) ?_|refine Qe ?_|refine Z8 rfl (g5 _) rfl rfl ?_|refine ZH ?_|refine Zn ?_|refine ZI ?_|refine Za ?_|refine ZX rfl ?_)
 all_goals try (exfalso;omega)
 have hle:=St.get_le h.h3
 have hTk:=fun L=>ZhT (st:=⟨A,false,L⟩) ⟨XI hA hle h.wr,ZV hA h.h0,ZV hA h.h1,ZV hA h.h2,ZV hA h.h3,ZV hA h.h4,ZV hA h.h5⟩ hc.n hc.blk hc.st hc.s16 hc.gen ⟨hc.g1,hc.g2⟩ hc.big
 refine ZC rfl rfl rfl (hTk _) ?_;rw [ZSR hA hle];obtain ⟨A1,hA1⟩:∃ A1,A1=(QZ st lv b r s).A++[((QZ st lv b r s).ro,(QZ st lv b r s).L)]:=⟨_,rfl⟩;rw [<- hA1]
 have hlen:A.length=A1.length:=by rw [hA,hA1,List.length_append,List.length_append,ZhU];rfl
 rw [hlen];refine ZF rfl ?_;refine Z0 rfl rfl ?_;refine Z0 rfl rfl ?_;refine ZF rfl ?_;refine ZF rfl ?_;refine ZB rfl ?_;refine ZA ?_;refine ZE ?_;refine ZE ?_;refine ZD ?_;refine ZF rfl ?_
 refine Zp rfl rfl (fun q=>absurd rfl q) (fun _=>?_)
 refine ZB rfl ?_;refine ZA ?_;refine ZG rfl ?_;refine ZH ?_;refine ZA ?_
 have:=ZSS h hc ⟨0,text,none⟩ .nils rfl A1 [] hA1 (fun L=>Zmr _)
 exact this
section
variable {O:Orc} {k:List Fr} {Q:YY} {e:Env} {A:List (Bool × List Blk)} {L:List Blk} {keep:List Nat} {is:List PI} {d:Nat}
theorem ZhV {agg:Bool} {n:Nat} {a:Opd} {ver i o w:Nat} {es:List AV} {x v:AV} {c:Blk} (ha:Zo e a=some (.ptr A.length L.length ver i o)) (hx:es[i]?=some x) (hv:JJ x agg o n=some v)
 (h:Is O is keep k Q ((d,v)::e) ⟨A,false,L++[Blk.arr w ver es]++[c]⟩):Is O (⟨some d,none,false,.ld agg n a⟩::is) keep k Q e ⟨A,false,L++[Blk.arr w ver es]++[c]⟩ :=
 ZS (w:=w) ha (by rw [List.append_assoc];exact ZSQ L _ _) hx hv h
theorem Zk9 {agg:Bool} {n:Nat} {a:Opd} {ver i o w:Nat} {es:List AV} {x v:AV} {c c2:Blk} (ha:Zo e a=some (.ptr A.length L.length ver i o)) (hx:es[i]?=some x) (hv:JJ x agg o n=some v)
 (h:Is O is keep k Q ((d,v)::e) ⟨A,false,L++[Blk.arr w ver es]++[c]++[c2]⟩):Is O (⟨some d,none,false,.ld agg n a⟩::is) keep k Q e ⟨A,false,L++[Blk.arr w ver es]++[c]++[c2]⟩ :=
 ZS (w:=w) ha (by rw [List.append_assoc,List.append_assoc];exact ZSQ L _ _) hx hv h
end
def ZDI (N:ZQ) (n:Nat) (ks:List Kid):Prop:=∀ k∈ks,∃ y,lk N k.at_=some y/\NdOk y/\y.h=n/\y.mea=k.m
theorem ZlA {st:St} {lv b:Nat} {r:AR} (h:Has st lv b r) {k s g:Nat} (hc:CanTake r k s g) (n:Nat) (hn:n<=15) (ks:List Kid) (hk:2<=ks.length/\ks.length<=4) (hs:∀ k∈ks,KidOk n k) (hsum:(QK (ks.map Kid.m)).b<=65536) (hL:ZDI r.nodes n ks)
 {kl kx ver:Nat} (hr:KRef st kl kx ver ks) (hne:¬ (kl=lv/\(kx=b\/kx=b+3))) :
 S Tb Qh [.ptr lv (b+5) 0 0 0,ndR (n+1) kl kx ver ks.length] st=some (.tup [.int .u64 ((g*65536+s:Nat):Int),.int .i64 0],Yx st lv b r s g ⟨n+1,[],some ks⟩):=by
 refine ZNQ rfl (fun A hA=>?_)
 have hN:=fun L=>ZhS n hn ks hk hs hsum _ (hr.push hA (ro:=false) (L:=L))
 have g5:=fun L=>ZV hA (ro:=false) (L:=L) h.h5
 have g4:=fun L=>ZV hA (ro:=false) (L:=L) h.h4
 unfold AR.b5 at g5;unfold AR.b4 at g4;obtain ⟨es,gk,ge⟩:=hr
 have gA:=fun L=>ZV hA (ro:=false) (L:=L) gk
 have hwi:∀ L,wIs 4 ver (St.get ⟨A,false,L⟩ kl kx)=true:=fun L=>by rw [gA];simp [wIs]
 unfold ndR at *
 repeat' (first|refine ZE ?_|refine ZD ?_|refine ZF rfl ?_|refine ZJ rfl rfl ?_|refine ZS rfl rfl rfl rfl ?_|refine ZB rfl ?_|refine ZA ?_|refine QJ rfl ?_|(refine Zp rfl rfl (fun _=>?_) (fun _=>?_)<;>try (exfalso;omega))|refine ZG rfl ?_|refine Q4 rfl rfl rfl rfl ?_|refine Zh rfl rfl rfl ?_|refine ZC rfl rfl rfl (hN _) ?_|refine ZH ?_|refine ZI ?_)
 all_goals try (exfalso;omega)
 have hle:=St.get_le h.h3
 refine Zr (α:=Nat × List Blk) (fun p=>[(0,.ptr lv (b+5) 0 0 0),(3,.ptr A.length 0 0 0 0),(23,.ref kl kx ver 0 ks.length),(24,.int .i64 ks.length),(25,.int .i64 p.1)]) (fun p=>⟨A,false,.arr 3 0 [.agg [.int .i64 ((n+1:Nat):Int),.str [],.ref kl kx ver 0 ks.length]]::p.2⟩) (fun p=>p.1<=ks.length) (fun p=>ks.length-p.1) (0,[]) rfl rfl (by simp) ?_
 rintro ⟨i,G⟩ hi
 simp only at hi ⊢
 repeat' (first|refine ZE ?_|refine ZD ?_|refine ZF rfl ?_|refine ZJ rfl rfl ?_|refine ZB rfl ?_|refine ZA ?_|refine Z2 rfl rfl ?_|(refine Zd rfl rfl (fun _=>?_) (fun _=>?_)<;>try (exfalso;omega))|refine ZU rfl ?_|refine ZG rfl ?_|refine ZH ?_|refine Zn ?_|refine ZI ?_|refine Za ?_|refine ZX rfl ?_|refine Zf ?_)
 ·rename_i hlt
  obtain ⟨kd,hk'⟩:∃ k,ks[i]?=some k:=⟨ks[i]'(by omega),by simp [show i<ks.length by omega]⟩
  obtain ⟨y,y1,y2,y3,y4⟩:=hL kd (jM hk')
  have hlk:=fun L z=>ZSO (g4 L) y1 z
  have hMe:=fun st=>ZOL y y2 st
  rw [y4] at hMe
  refine Qg rfl rfl (by omega) (hwi _) ?_
  refine Z8 (x:=kd.av) rfl (gA _) (ZD1 ge hk') rfl ?_;obtain ⟨yh,yt,yk⟩:=y
  simp only at y3
  subst y3
  cases yk
  all_goals simp only [Nd.av,slV,Mea.av] at *
  all_goals repeat' (first|refine ZE ?_|refine ZD ?_|refine ZF rfl ?_|refine ZJ rfl rfl ?_|refine ZS rfl rfl rfl rfl ?_|refine Z4 rfl ?_|refine Zk rfl rfl rfl rfl ?_|refine Z0 rfl rfl ?_|refine ZB rfl ?_|refine ZA ?_|refine Z2 rfl rfl ?_|refine Qf rfl rfl rfl ?_|(refine Zp rfl rfl (fun _=>?_) (fun _=>?_)<;>try (exfalso;omega))|refine ZU rfl ?_|refine ZG rfl ?_|refine Qs rfl rfl ?_|refine Zb rfl rfl (by omega) ?_|refine Ql rfl rfl (by omega) ?_|refine Zy rfl rfl rfl ?_|refine J7 rfl rfl rfl rfl rfl rfl ?_|refine Z8 rfl (g5 _) rfl rfl ?_|refine ZBd rfl rfl (hlk _ _) ?_|refine ZC rfl rfl rfl (hMe _) ?_|refine ZhV rfl rfl rfl ?_|refine Zk9 rfl rfl rfl ?_|(refine ZDj rfl rfl (Zi8 _ _ _ _ _ _) (fun _=>?_) (fun _=>?_))|refine ZH ?_|refine ZP ?_|refine ZO ?_|refine ZY ?_|refine Zt ?_|refine QP ?_|refine Zw ?_|refine Y4 ?_)
  all_goals try (exfalso;omega)
  all_goals first|exact ⟨(i+1,G++[_]++[_]++[_]),⟨rfl,rfl⟩,by simp only;omega,by simp only;omega⟩|exact absurd ⟨rfl,rfl,rfl⟩ ‹_›
 ·refine Z8 rfl (g5 _) rfl rfl ?_
  have hTk:=fun L=>ZhT (st:=⟨A,false,L⟩) ⟨XI hA hle h.wr,ZV hA h.h0,ZV hA h.h1,ZV hA h.h2,ZV hA h.h3,ZV hA h.h4,ZV hA h.h5⟩ hc.n hc.blk hc.st hc.s16 hc.gen ⟨hc.g1,hc.g2⟩ hc.big
  refine ZC rfl rfl rfl (hTk _) ?_;rw [ZSR hA hle];obtain ⟨A1,hA1⟩:∃ A1,A1=(QZ st lv b r s).A++[((QZ st lv b r s).ro,(QZ st lv b r s).L)]:=⟨_,rfl⟩;rw [<- hA1]
  have hlen:A.length=A1.length:=by rw [hA,hA1,List.length_append,List.length_append,ZhU];rfl
  rw [hlen];refine ZF rfl ?_;refine Z0 rfl rfl ?_;refine Z0 rfl rfl ?_;refine ZF rfl ?_;refine ZF rfl ?_;refine ZB rfl ?_;refine ZA ?_;refine ZE ?_;refine ZE ?_;refine ZD ?_;refine ZF rfl ?_
  refine Zp rfl rfl (fun q=>absurd rfl q) (fun _=>?_)
  refine ZB rfl ?_;refine ZA ?_;refine ZG rfl ?_;refine ZH ?_;refine ZA ?_
  have g2:(QZ st lv b r s).get kl kx=some (.arr 4 ver es):=by
   rw [ZDH h,if_neg (fun q=>hne ⟨q.1,.inl q.2⟩),if_neg (fun q=>hne ⟨q.1,.inr q.2⟩)];exact gk
  have:=ZSS h hc ⟨n+1,[],some ks⟩ (.ref kl kx ver 0 ks.length) rfl A1 G hA1 (fun L=>Zm0 ⟨es,ZV hA1 g2,ge⟩ hk.2)
  exact this
theorem ZcC {j i:Nat}:∀ {L0 T:List Blk},findH j T=some i->findH j (L0++T)=some (L0.length+i)
 | [],T,h=>by simpa using h
 | b::L0,T,h=>by
  have:=ZcC (L0:=L0) h
  unfold findH;rw [List.cons_append];simp only [this,List.length_cons]
  congr 1;omega
theorem ZVh:∀ {L0 T:List Blk} {i:Nat} {b:Blk},(L0++T).set (L0.length+i) b=L0++T.set i b
 | [],T,i,b=>by simp
 | c::L0,T,i,b=>by
  rw [List.cons_append,List.length_cons,show L0.length+1+i=(L0.length+i)+1 by omega,List.set_cons_succ,ZVh];rfl
theorem Ju:∀ {L0 T:List Blk} {i:Nat},(L0++T)[L0.length+i]?=T[i]?
 | [],T,i=>by simp
 | c::L0,T,i=>by
  rw [List.cons_append,List.length_cons,show L0.length+1+i=(L0.length+i)+1 by omega,List.getElem?_cons_succ,Ju]
section
variable {O:Orc} {k:List Fr} {Q:YY} {e:Env} {A:List (Bool × List Blk)} {L L0 T T':List Blk} {keep:List Nat} {is:List PI} {d:Nat}
theorem Zm1 {js:List Nat} (h:Is O is keep k Q e ⟨A,false,L++js.map Blk.hole⟩):Ru O (.regH js keep is) k Q e ⟨A,false,L⟩:=by
 obtain ⟨e',st',h1,h2⟩:=h.h;refine ⟨⟨.norm,Xk keep e',st',?_,h2⟩⟩;simp only [exec,ZgY,jB,if_false,Option.bind_some,h1,ZS4]
theorem Zm2 {j i w bytes:Nat} {z:AV} {l c:Opd} {n:Int} (hl:Zo e l=some (.int .i64 n)) (hc:Zo e c=some (.int .i64 n)) (hn:0<=n/\n<4294967296) (hb:bytes<=4096) (hf:findH j T=some i)
 (hL:J6 (T.set i (Blk.arr w 0 (List.replicate n.toNat z)))=some T') (h:Is O is keep k Q ((d,.ref A.length (L0.length+i) 0 0 n.toNat)::e) ⟨A,false,L0++T'⟩):Is O (⟨some d,none,false,.w (.here j) (.mkslice w bytes z l c)⟩::is) keep k Q e ⟨A,false,L0++T⟩:=by
 rw [<- Qk hL,<- ZVh] at h;refine QA (v:=.ref A.length (L0.length+i) 0 0 n.toNat) (st':=⟨A,false,(L0++T).set (L0.length+i) (Blk.arr w 0 (List.replicate n.toNat z))⟩) ?_ h
 simp only [Zs,QE,newOf,ZL hl,ZL hc,mkslB,if_pos (show 0<=n/\n<=n/\n<4294967296/\bytes<=4096 by omega),Option.bind_some,Zba,ZgW,and_self,if_true,ZcC hf,ZbZ]
theorem Yy {x:Opd} {v v':AV} {w m:Nat} (hx:Zo e x=some v) (hw:v.wide=some w) (hv:YP v=some v') (hm:Zcu T=some m) (hL:J6 (T++[Blk.arr w 0 [v']])=some T') (h:Is O is keep k Q ((d,.ptr A.length (L0.length+m) 0 0 0)::e) ⟨A,false,L0++T'⟩):Is O (⟨some d,none,false,.box x⟩::is) keep k Q e ⟨A,false,L0++T⟩:=by
 rw [<- Qk hL,<- ZBw hm,<- List.append_assoc,<- List.length_append] at h;exact Zy hx hw hv h
theorem ZjK {m:Nat} (hm:Zcu T=some m) (hL:J6 (T++[Blk.map []])=some T') (h:Is O is keep k Q ((d,.map A.length (L0.length+m))::e) ⟨A,false,L0++T'⟩):Is O (⟨some d,none,false,.mkmap⟩::is) keep k Q e ⟨A,false,L0++T⟩:=by
 rw [<- Qk hL,<- ZBw hm,<- List.append_assoc,<- List.length_append] at h
 exact QA (v:=.map A.length (L0++T).length) (st':=⟨A,false,L0++T++[Blk.map []]⟩) (by simp only [Zs,evalPO,Option.bind_some,St.new_cur,ZOW]) h
theorem Qy {agg:Bool} {n:Nat} {a:Opd} {ix ver i o w:Nat} {es:List AV} {x v:AV} (ha:Zo e a=some (.ptr A.length (L0.length+ix) ver i o)) (hg:T[ix]?=some (Blk.arr w ver es)) (hx:es[i]?=some x) (hv:JJ x agg o n=some v)
 (h:Is O is keep k Q ((d,v)::e) ⟨A,false,L0++T⟩):Is O (⟨some d,none,false,.ld agg n a⟩::is) keep k Q e ⟨A,false,L0++T⟩ :=
 ZS ha (by rw [Ju];exact hg) hx hv h
theorem ZiK {w:Nat} {x i:Opd} {ix ver s m:Nat} {n:Int} {es:List AV} (hx:Zo e x=some (.ref A.length (L0.length+ix) ver s m)) (hi:Zo e i=some (.int .i64 n)) (hn:0<=n/\n<m) (hg:T[ix]?=some (Blk.arr w ver es)) (h:Is O is keep k Q ((d,.ptr A.length (L0.length+ix) ver (s+n.toNat) 0)::e) ⟨A,false,L0++T⟩):Is O (⟨some d,none,false,.ixS w x i⟩::is) keep k Q e ⟨A,false,L0++T⟩ :=
 ZAw hx hi hn (by rw [Ju];exact hg) h
theorem Js {n:Nat} {a x:Opd} {ix ver i o w:Nat} {es:List AV} {v v' y:AV} (ha:Zo e a=some (.ptr A.length (L0.length+ix) ver i o)) (hx:Zo e x=some v) (hg:T[ix]?=some (Blk.arr w ver es)) (hy:es[i]?=some y)
 (hs:Zi QU (A.length+1) ⟨A,false,L0++T⟩ v=some (v,⟨A,false,L0++T⟩)) (hv:(Q0 w y o n v).bind YP=some v') (hL:J6 (T.set ix (Blk.arr w ver (es.set i v')))=some T') (h:Is O is keep k Q e ⟨A,false,L0++T'⟩):Is O (⟨none,none,false,.st n a x⟩::is) keep k Q e ⟨A,false,L0++T⟩:=by
 rw [<- Qk hL,<- ZVh] at h
 exact Q5 (by rw [Ju];exact hg) ha hx hy hs hv h
end
def JV (n g:Nat):AR:=⟨(List.range n).map fun (j:Nat)=>(n:Int)-1-j,n,0,List.replicate n 0,List.replicate n 1,g,[],n,0,0,0⟩
theorem ZNR {n i:Nat} {k:IntKind} {f:Nat->Int} {z:Int} (hi:i<n):((List.range n).map fun j=>AV.int k (if j<i then f j else z)).set i (.int k (f i))=(List.range n).map fun j=>AV.int k (if j<i+1 then f j else z):=by
 apply List.ext_getElem
 ·simp
 ·intro j hj hj'
  simp only [List.getElem_set,List.getElem_map,List.getElem_range]
  by_cases q:i=j
  ·subst q;simp
  ·rw [if_neg q]
   have:j<i+1↔j<i:=by omega
   simp only [this]
theorem Zm3 (n g:Nat) (hn:1<=n/\n<=16384) (hg:1<=g/\g<=4294967295) (A:List (Bool × List Blk)) (L0:List Blk) :
 S Tb ZCF [.int .i64 n,.int .u64 g] ⟨A,false,L0⟩=some (.tup [.ptr A.length (L0.length+3) 0 0 0,.int .i64 0],⟨A,false,L0++[(JV n g).b0,(JV n g).b1,(JV n g).b2,(JV n g).b3 A.length L0.length]⟩):=by
 refine ZQt rfl ?_
 have hmap:∀ (k:IntKind) (z:Int),List.replicate n (AV.int k z)=(List.range n).map fun (j:Nat)=>AV.int k (if j<0 then (fun (j:Nat)=>(n:Int)-1-j) j else z):=by
  intro k z;simp only [Nat.not_lt_zero,if_false,List.map_const',List.length_range]
 have hmap1:List.replicate n (AV.int .u64 0)=(List.range n).map fun j=>AV.int .u64 (if j<0 then (fun _=>(1:Int)) j else 0):=by
  simp only [Nat.not_lt_zero,if_false,List.map_const',List.length_range]
 repeat' (first|refine ZE ?_|refine ZD ?_|refine ZF rfl ?_|refine Z4 rfl ?_|refine Zk rfl rfl rfl rfl ?_|refine ZB rfl ?_|refine ZA ?_|(refine Zd rfl rfl (fun _=>?_) (fun _=>?_)<;>try (exfalso;omega))|(refine QQ rfl rfl (fun _=>?_) (fun _=>?_)<;>try (exfalso;omega))|refine ZG rfl ?_|refine Zj rfl rfl rfl ?_|refine Zy rfl rfl rfl ?_|refine Zm1 ?_|refine Zm2 rfl rfl (by omega) (by decide) rfl rfl ?_|refine ZH ?_|refine ZI ?_)
 simp only [List.length_append,List.length_cons,List.length_nil,List.append_assoc,List.cons_append,List.nil_append,Int.toNat_natCast,Nat.zero_add];rw [hmap .i64 0,hmap1]
 refine Zr (α:=Nat) (fun i=>[(0,.int .i64 n),(6,.ptr A.length (L0.length+3) 0 0 0),(31,.int .i64 n),(32,.int .i64 i)])
  (fun i=>⟨A,false,L0++[.arr 1 0 (List.replicate n (.int .u8 0)),.arr 1 0 ((List.range n).map fun (j:Nat)=>.int .i64 (if j<i then (fun (j:Nat)=>(n:Int)-1-j) j else 0)),.arr 1 0 ((List.range n).map fun (j:Nat)=>.int .u64 (if j<i then (fun _=>(1:Int)) j else 0)),.arr 4 0 [.agg [.ref A.length (L0.length+1) 0 0 n,.ref A.length (L0.length+0) 0 0 n,.ref A.length (L0.length+2) 0 0 n,.int .u64 g]]]⟩)
  (fun i=>i<=n) (fun i=>n-i) 0 rfl rfl (Nat.zero_le _) ?_
 intro i hi
 repeat' (first|refine ZE ?_|refine ZD ?_|refine ZF rfl ?_|refine ZJ rfl rfl ?_|refine ZB rfl ?_|refine ZA ?_|refine Z2 rfl rfl ?_|(refine Zd rfl rfl (fun _=>?_) (fun _=>?_)<;>try (exfalso;omega))|refine ZU rfl ?_|refine ZG rfl ?_|refine Ql rfl rfl (by omega) ?_|refine Qy rfl rfl rfl rfl ?_|refine ZiK rfl rfl (by omega) rfl ?_|refine ZH ?_|refine ZP ?_|refine Zn ?_|refine ZI ?_|refine ZO ?_|refine Za ?_|refine ZX rfl ?_|refine Zf ?_)
 ·simp only [Nat.zero_add,Int.toNat_natCast]
  refine Js (y:=.int .i64 0) rfl rfl rfl ?_ rfl rfl rfl ?_
  ·rw [jG,List.getElem?_range (by omega)];simp
  rw [ZNR (f:=fun (j:Nat)=>(n:Int)-1-j) (by omega)]
  repeat' (first|refine ZD ?_|refine ZF rfl ?_|refine ZJ rfl rfl ?_|refine ZB rfl ?_|refine ZA ?_|refine Z2 rfl rfl ?_|refine Qy rfl rfl rfl rfl ?_|refine ZiK rfl rfl (by omega) rfl ?_)
  simp only [Nat.zero_add,Int.toNat_natCast];refine Js (y:=.int .u64 0) rfl rfl rfl ?_ rfl rfl rfl ?_
  ·rw [jG,List.getElem?_range (by omega)];simp
  rw [ZNR (f:=fun (j:Nat)=>(1:Int)) (by omega)]
  repeat' (first|refine ZD ?_|refine ZF rfl ?_|refine ZB rfl ?_|refine ZA ?_|refine Zb rfl rfl (by omega) ?_|refine Zt ?_|refine Zw ?_)
  exact ⟨i+1,⟨rfl,rfl⟩,by omega,by omega⟩
 ·obtain rfl:i=n:=by omega
  have e1:∀ (k:IntKind) (f:Nat->Int),((List.range i).map fun (j:Nat)=>AV.int k (if j<i then f j else 0))=(List.range i).map fun j=>.int k (f j):=by
   intro k f
   apply List.map_congr_left
   intro j hj;rw [List.mem_range] at hj;rw [if_pos hj]
  simp only [e1,AR.b0,AR.b1,AR.b2,AR.b3,JV,List.map_replicate,List.map_map,List.length_replicate];simp only [List.map_const',List.length_range];rfl
theorem Zm4 (n g:Nat) (hn:1<=n/\n<=16384) (hg:1<=g/\g<=4294967295) (A:List (Bool × List Blk)) (L0:List Blk) :
 S Tb ZDm [.int .i64 n,.int .u64 g] ⟨A,false,L0⟩=some (.tup [.ptr A.length (L0.length+5) 0 0 0,.int .i64 0],⟨A,false,L0++[(JV n g).b0,(JV n g).b1,(JV n g).b2,(JV n g).b3 A.length L0.length,(JV n g).b4,(JV n g).b5 A.length L0.length]⟩):=by
 refine ZQt rfl ?_
 repeat' (first|refine ZE ?_|refine ZD ?_|refine ZF rfl ?_|refine Z0 rfl rfl ?_|refine ZB rfl ?_|refine ZA ?_|(refine Zp rfl rfl (fun _=>?_) (fun _=>?_)<;>try (exfalso;omega))|refine ZG rfl ?_|refine Zj rfl rfl rfl ?_|refine Zy rfl rfl rfl ?_|refine ZC rfl rfl rfl (Zm3 n g hn hg A L0) ?_|refine ZjK rfl rfl ?_|refine ZH ?_|refine ZP ?_|refine ZO ?_)
 simp only [List.length_append,List.append_assoc,List.cons_append,List.nil_append];rfl
theorem ZjL (n g:Nat) (A:List (Bool × List Blk)) (L0 L1:List Blk):Has ⟨A,false,L0++([(JV n g).b0,(JV n g).b1,(JV n g).b2,(JV n g).b3 A.length L0.length,(JV n g).b4,(JV n g).b5 A.length L0.length]++L1)⟩ A.length L0.length (JV n g):=by
 have h:∀ i b,([(JV n g).b0,(JV n g).b1,(JV n g).b2,(JV n g).b3 A.length L0.length,(JV n g).b4,(JV n g).b5 A.length L0.length]++L1)[i]?=some b->vis (some b)=some b->St.get ⟨A,false,L0++([(JV n g).b0,(JV n g).b1,(JV n g).b2,(JV n g).b3 A.length L0.length,(JV n g).b4,(JV n g).b5 A.length L0.length]++L1)⟩ A.length (L0.length+i)=some b:=by
  intro i b hb hv;rw [St.get_cur,Ju,hb,hv]
 exact ⟨by simp [St.wr],h 0 _ rfl rfl,h 1 _ rfl rfl,h 2 _ rfl rfl,h 3 _ rfl rfl,h 4 _ rfl rfl,h 5 _ rfl rfl⟩
theorem ZjM (s:List UInt8) (st:St):S Tb Xx [.str s] st=some ((Qu s).av,st):=by
 refine Z5 rfl (fun A hA=>?_)
 repeat' (first|refine ZE ?_|refine ZD ?_|refine ZF rfl ?_|refine ZB rfl ?_|refine ZA ?_|refine Zj rfl rfl rfl ?_|refine Zh rfl rfl rfl ?_|refine Zu rfl rfl rfl rfl rfl rfl ?_|refine ZP ?_|refine ZO ?_)
 refine Jc hA (by simp) rfl rfl rfl rfl rfl ?_
 rfl
theorem ZYv {v:AV} {l:List Tr} (h2:2<=l.length) (hl:l.length<=65536) (hh:∀ t∈l,t.h<=65536) {st:St} (hv:Sl st v l):S Tb YE [v] st=some ((grp l).av,st):=by
 refine Z5 rfl (fun A hA=>?_)
 have hv2:=fun L=>hv.push hA (ro:=false) (L:=L)
 have fin:∀ {L:List Blk} {e:Env} {h:Int} {u:Tr},l[0]?=some u->2<=l.length->h=u.h+1->Jw e 2=some (.ptr A.length 0 0 0 0)->L=[.arr 7 0 [.agg [.int .u64 0,.int .i64 h,.int .i64 0,.int .i64 0,.int .i64 0,.str [],.ref A.length 1 0 0 l.length]],.arr 7 0 (l.map Tr.av)] ->
  Jv false [.c 2 true 7] (.ret,e,⟨A,false,L⟩)=some ((grp l).av,st):=by
  intro L e h u hu h2 hhu he hL;subst hL hhu
  have hval:=ZFa (e:=e) (res:=[.c 2 true 7]) (x:=.ret) (v:=.agg [.int .u64 0,.int .i64 ((u.h:Int)+1),.int .i64 0,.int .i64 0,.int .i64 0,.str [],.ref A.length 1 0 0 l.length]) hA (.inr rfl) (by
   simp only [Qn,ZDL,ZBZ,QN he,loadP,St.get_cur,List.getElem?_cons_zero,vis,ZIy,if_true,Option.bind_some]
   rfl) (ZYi (l:=l) (ix:=1) (L:=[.arr 7 0 [.agg [.int .u64 0,.int .i64 ((u.h:Int)+1),.int .i64 0,.int .i64 0,.int .i64 0,.str [],.ref A.length 1 0 0 l.length]],.arr 7 0 (l.map Tr.av)]) rfl rfl) rfl
  rw [hval,ZLS h2,Zk1 hu,Tr.av,Tr.avO,Tr.avL_map];rfl
 cases hv with
 | lit =>
  have hvs:=fun L=>Sl.lit (st:=⟨A,false,L⟩) l
  repeat' (first|refine ZE ?_|refine ZD ?_|refine ZF rfl ?_|refine ZJ rfl rfl ?_|refine ZB rfl ?_|refine ZA ?_|refine Zh rfl rfl rfl ?_|refine Qc rfl rfl (by omega) Zv (fun _ _=>?_))
  rename_i t ht
  have hth:=hh t (jM ht);refine QD rfl (YK _) ?_
  repeat' (first|refine ZF rfl ?_|refine ZB rfl ?_|refine ZA ?_|refine Zb rfl rfl (by omega) ?_|refine Zj rfl rfl rfl ?_|refine Zu rfl rfl rfl (ZDF _ (Nat.lt_succ_self _)) rfl rfl ?_|refine ZbP rfl ?_|refine ZDG rfl rfl (hvs _) (by omega) ?_|refine ZP ?_|refine ZO ?_)
  exact fin ht (by omega) rfl rfl rfl
 | @ref lv ix ver s n _ es hg hn hlen he =>
  have hvs:=fun L=>hv2 L
  have hg2:=fun L=>ZV hA (ro:=false) (L:=L) hg
  have hget:=fun {i} {t}=>Sl.get (i:=i) (t:=t) hn he
  have hwi:∀ L,wIs 7 ver (St.get ⟨A,false,L⟩ lv ix)=true:=fun L=>by rw [hg2];simp [wIs]
  repeat' (first|refine ZE ?_|refine ZD ?_|refine ZF rfl ?_|refine ZJ rfl rfl ?_|refine ZB rfl ?_|refine ZA ?_|refine Zh rfl rfl rfl ?_|refine Qg rfl rfl (by omega) (hwi _) ?_)
  obtain ⟨t,ht⟩:∃ t,l[0]?=some t:=⟨l[0]'(by omega),by simp⟩
  have hth:=hh t (jM ht)
  skip
  refine Z8 rfl (hg2 _) (hget ht) (YK t) ?_
  repeat' (first|refine ZF rfl ?_|refine ZB rfl ?_|refine ZA ?_|refine Zb rfl rfl (by omega) ?_|refine Zj rfl rfl rfl ?_|refine Zu rfl rfl rfl (ZDF _ (Nat.lt_succ_self _)) rfl rfl ?_|refine ZbP rfl ?_|refine ZDG rfl rfl (hvs _) (by omega) ?_|refine ZP ?_|refine ZO ?_)
  exact fin ht (by omega) rfl rfl rfl
theorem ZhW {v:AV} {l:List Tr} (hl:l.length<=65536) (hh:∀ t∈l,t.h<=65536) {st:St} (hv:Sl st v l):S Tb XS [v] st=some ((grp l).av,st):=by
 refine Z5 rfl (fun A hA=>?_)
 have hv2:=fun L=>hv.push hA (ro:=false) (L:=L)
 have hI:=fun (h2:2<=l.length) L=>ZYv h2 hl hh (hv2 L)
 have hwk:=hv.weak
 cases hv with
 | lit =>
  repeat' (first|refine ZE ?_|refine ZD ?_|refine ZF rfl ?_|refine ZB rfl ?_|refine ZA ?_|refine QH rfl ?_|(refine Zq rfl rfl (fun _=>?_) (fun _=>?_)<;>try (exfalso;omega))|refine ZU rfl ?_|refine ZG rfl ?_|refine Zj rfl rfl rfl ?_|refine Zh rfl rfl rfl ?_|refine Zu rfl rfl rfl rfl rfl rfl ?_|refine Qc rfl rfl (by omega) Zv (fun _ _=>?_)|refine QD rfl (Zl _) ?_|refine Zu rfl rfl rfl (QC _ _ _) (QT _ _) rfl ?_|refine ZH ?_|refine ZP ?_|refine ZO ?_|refine ZY ?_)
  ·rename_i h
   have:l=[]:=List.length_eq_zero_iff.1 (by omega)
   subst this
   refine Jc hA (by simp) rfl rfl rfl rfl rfl ?_
   rfl
  ·rename_i h1 t ht
   exact ZOM hA (.inr rfl) rfl rfl (by rw [ZVg h1 ht])
  ·refine ZC rfl rfl (by simp only [List.nil_append,List.append_nil,List.cons_append,Zg,hwk];rfl) (hI (by omega) _) ?_
   repeat' (first|refine ZB rfl ?_|refine ZA ?_|refine Zu rfl rfl rfl (QC _ _ _) (QT _ _) rfl ?_|refine ZP ?_|refine ZO ?_)
   exact ZOM hA (.inr rfl) rfl rfl rfl
 | @ref lv ix ver s n _ es hg hn hlen he =>
  have hg2:=fun L=>ZV hA (ro:=false) (L:=L) hg
  have hget:=fun {i} {t}=>Sl.get (i:=i) (t:=t) hn he
  have hwi:∀ L,wIs 7 ver (St.get ⟨A,false,L⟩ lv ix)=true:=fun L=>by rw [hg2];simp [wIs]
  repeat' (first|refine ZE ?_|refine ZD ?_|refine ZF rfl ?_|refine ZB rfl ?_|refine ZA ?_|refine QJ rfl ?_|(refine Zq rfl rfl (fun _=>?_) (fun _=>?_)<;>try (exfalso;omega))|refine ZU rfl ?_|refine ZG rfl ?_|refine Zj rfl rfl rfl ?_|refine Zh rfl rfl rfl ?_|refine Zu rfl rfl rfl rfl rfl rfl ?_|refine Qg rfl rfl (by omega) (hwi _) ?_|refine ZH ?_|refine ZP ?_|refine ZO ?_|refine ZY ?_)
  ·rename_i h
   have:l=[]:=List.length_eq_zero_iff.1 (by omega)
   subst this
   refine Jc hA (by simp) rfl rfl rfl rfl rfl ?_
   rfl
  ·rename_i h1
   obtain ⟨t,ht⟩:∃ t,l[0]?=some t:=⟨l[0]'(by omega),by simp⟩
   refine Z8 rfl (hg2 _) (hget ht) (Zl t) ?_
   repeat' (first|refine ZB rfl ?_|refine ZA ?_|refine Zu rfl rfl rfl (QC _ _ _) (QT _ _) rfl ?_|refine ZP ?_|refine ZO ?_|refine ZY ?_)
   exact ZOM hA (.inr rfl) rfl rfl (by rw [ZVg (by omega) ht])
  ·refine ZC rfl rfl rfl (hI (by omega) _) ?_
   repeat' (first|refine ZB rfl ?_|refine ZA ?_|refine Zu rfl rfl rfl (QC _ _ _) (QT _ _) rfl ?_|refine ZP ?_|refine ZO ?_)
   exact ZOM hA (.inr rfl) rfl rfl rfl
theorem ZbQ (t:Tr) (ht:IsEmpty t) (st:St):S Tb Jq [t.av] st=some (.bool true,st):=by
 obtain ⟨o,h,m,s,k⟩:=t;obtain ⟨h1,h2,h3,h4,h5⟩:=ht;simp only [Tr.old,Tr.h,Tr.m,Tr.text,Tr.ks] at h1 h2 h3 h4 h5;subst h1 h2 h3 h4
 refine Z5 rfl (fun A hA=>?_)
 cases k with
 | none =>
  repeat' (first|refine ZE ?_|refine ZD ?_|refine ZF rfl ?_|refine ZJ rfl rfl ?_|refine ZS rfl rfl rfl rfl ?_|refine Z4 rfl ?_|refine Zk rfl rfl rfl rfl ?_|refine ZB rfl ?_|refine ZA ?_|refine JC rfl ?_|(refine Zq rfl rfl (fun _=>?_) (fun _=>?_)<;>try (exfalso;omega))|(refine Yu rfl rfl (fun _=>?_) (fun _=>?_)<;>try contradiction)|refine Zj rfl rfl rfl ?_|refine Q4 rfl rfl rfl rfl ?_|refine Zh rfl rfl rfl ?_|refine ZP ?_|refine ZO ?_)
  all_goals refine Ze hA (by simp) rfl rfl rfl rfl ?_
  all_goals rfl
 | some l =>
  have:l=[]:=h5
  subst this
  repeat' (first|refine ZE ?_|refine ZD ?_|refine ZF rfl ?_|refine ZJ rfl rfl ?_|refine ZS rfl rfl rfl rfl ?_|refine Z4 rfl ?_|refine Zk rfl rfl rfl rfl ?_|refine ZB rfl ?_|refine ZA ?_|refine J2 rfl rfl ?_|(refine Zq rfl rfl (fun _=>?_) (fun _=>?_)<;>try (exfalso;omega))|(refine Yu rfl rfl (fun _=>?_) (fun _=>?_)<;>try contradiction)|refine Zj rfl rfl rfl ?_|refine Q4 rfl rfl rfl rfl ?_|refine Zh rfl rfl rfl ?_|refine ZP ?_|refine ZO ?_)
  all_goals refine Ze hA (by simp) rfl rfl rfl rfl ?_
  all_goals rfl
theorem ZeI (t:Tr) (ht:IsLeaf t) (st:St):S Tb Jq [t.av] st=some (.bool false,st):=by
 obtain ⟨o,h,m,s,k⟩:=t;obtain ⟨h1,h2,h3,h4,h4',h5⟩:=ht;simp only [Tr.old,Tr.h,Tr.m,Tr.text,Tr.ks] at h1 h2 h3 h4 h4' h5;subst h1 h2 h3
 have hs:s≠[]:=fun q=>by rw [q] at h4;simp at h4
 refine Z5 rfl (fun A hA=>?_)
 cases k with
 | none =>
  repeat' (first|refine ZE ?_|refine ZD ?_|refine ZF rfl ?_|refine ZJ rfl rfl ?_|refine ZS rfl rfl rfl rfl ?_|refine Z4 rfl ?_|refine JH rfl rfl ?_|refine Zk rfl rfl rfl rfl ?_|refine ZB rfl ?_|refine ZA ?_|(refine Zq rfl rfl (fun _=>?_) (fun _=>?_)<;>try (exfalso;omega))|(refine Yu rfl rfl (fun _=>?_) (fun _=>?_)<;>try contradiction)|refine Zj rfl rfl rfl ?_|refine Q4 rfl rfl rfl rfl ?_|refine Zh rfl rfl rfl ?_|refine ZP ?_|refine ZO ?_)
  all_goals try contradiction
  all_goals refine Ze hA (by simp) rfl rfl rfl rfl ?_
  all_goals rfl
 | some l =>
  have:l=[]:=h5
  subst this
  repeat' (first|refine ZE ?_|refine ZD ?_|refine ZF rfl ?_|refine ZJ rfl rfl ?_|refine ZS rfl rfl rfl rfl ?_|refine Z4 rfl ?_|refine JH rfl rfl ?_|refine Zk rfl rfl rfl rfl ?_|refine ZB rfl ?_|refine ZA ?_|(refine Zq rfl rfl (fun _=>?_) (fun _=>?_)<;>try (exfalso;omega))|(refine Yu rfl rfl (fun _=>?_) (fun _=>?_)<;>try contradiction)|refine Zj rfl rfl rfl ?_|refine Q4 rfl rfl rfl rfl ?_|refine Zh rfl rfl rfl ?_|refine ZP ?_|refine ZO ?_)
  all_goals try contradiction
  all_goals refine Ze hA (by simp) rfl rfl rfl rfl ?_
  all_goals rfl
theorem ZbR (t:Tr) (ht:IsInner t) (st:St):S Tb Jq [t.av] st=some (.bool false,st):=by
 obtain ⟨o,h,m,s,k⟩:=t;obtain ⟨h1,h2,h3,h4,h4',h5,h5'⟩:=ht;simp only [Tr.old,Tr.h,Tr.m,Tr.text,Tr.ks] at h1 h2 h3 h4 h4' h5 h5';subst h1 h2 h3
 refine Z5 rfl (fun A hA=>?_)
 cases k with
 | none=>simp at h5
 | some l =>
  simp only [Option.getD] at *
  rw [Tr.av,Tr.avO_sl];simp only [slV]
  repeat' (first|refine ZE ?_|refine ZD ?_|refine ZF rfl ?_|refine ZJ rfl rfl ?_|refine ZS rfl rfl rfl rfl ?_|refine Z4 rfl ?_|refine JH rfl rfl ?_|refine Zk rfl rfl rfl rfl ?_|refine ZB rfl ?_|refine ZA ?_|(refine Zq rfl rfl (fun _=>?_) (fun _=>?_)<;>try (exfalso;omega))|refine Zh rfl rfl rfl ?_|refine ZP ?_|refine ZO ?_)
  all_goals try contradiction
  all_goals try (exfalso;omega)
  all_goals refine Ze hA (by simp) rfl rfl rfl rfl ?_
  all_goals rfl
theorem Zfz (s:List UInt8) (hs:s.length<4294967296) (st:St):S Tb Yo [.str s] st=some ((Ye s).av,st):=by
 refine Z5 rfl (fun A hA=>?_)
 repeat' (first|refine ZE ?_|refine ZD ?_|refine ZF rfl ?_|refine ZB rfl ?_|refine ZA ?_|refine Qp rfl ?_|refine Zj rfl rfl rfl ?_|refine Zh rfl rfl rfl ?_|refine Zu rfl rfl rfl rfl rfl rfl ?_|refine ZI ?_)
 refine Zr (α:=Nat) (fun i=>[(0,.str s),(2,.ptr A.length 0 0 0 0),(3,.ptr A.length 1 0 0 0),(4,.int .i64 i)])
  (fun i=>⟨A,false,[.arr 3 0 [.agg [.int .i64 0,.int .i64 0,.int .i64 0]],.arr 3 0 [.agg [.int .i64 s.length,.int .i64 ((s.take i).countP Qm),.int .i64 ((s.take i).countP Ji)]]]⟩) (fun i=>i<=s.length) (fun i=>s.length-i) 0 rfl rfl (Nat.zero_le _) ?_
 intro i hi
 repeat' (first|refine ZE ?_|refine ZD ?_|refine ZF rfl ?_|refine ZS rfl rfl rfl rfl ?_|refine ZB rfl ?_|refine ZA ?_|refine Qp rfl ?_|(refine Zd rfl rfl (fun _=>?_) (fun _=>?_)<;>try (exfalso;omega))|refine ZU rfl ?_|refine ZG rfl ?_|refine Zu rfl rfl rfl rfl rfl rfl ?_|refine ZH ?_|refine ZP ?_|refine Zn ?_|refine ZI ?_|refine ZO ?_|refine Za ?_|refine ZX rfl ?_|refine Zf ?_)
 ·rename_i hlt
  obtain ⟨b,hb,ht⟩:=Zmo (s:=s) (i:=i) (by omega)
  have hc:=List.countP_le_length (p:=Qm) (l:=s.take i);have hc2:=List.countP_le_length (p:=Ji) (l:=s.take i);have hl:=List.length_take_le i s
  have hb2:s[(i:Int).toNat]?=some b:=by simpa using hb
  have e1:((s.take (i+1)).countP Qm)=(s.take i).countP Qm+(if Qm b then 1 else 0):=by
   rw [ht,List.countP_append];simp [List.countP_cons]
  have e2:((s.take (i+1)).countP Ji)=(s.take i).countP Ji+(if Ji b then 1 else 0):=by
   rw [ht,List.countP_append];simp [List.countP_cons]
  have fin:∀ x y:Int,x=((s.take (i+1)).countP Qm:Nat)->y=((s.take (i+1)).countP Ji:Nat)->∃ c:Nat,([(0,AV.str s),(2,.ptr A.length 0 0 0 0),(3,.ptr A.length 1 0 0 0),(4,.int .i64 ((i:Int)+1))]=[(0,AV.str s),(2,.ptr A.length 0 0 0 0),(3,.ptr A.length 1 0 0 0),(4,.int .i64 c)] /\
   (⟨A,false,[.arr 3 0 [.agg [.int .i64 0,.int .i64 0,.int .i64 0]],.arr 3 0 [.agg [.int .i64 s.length,.int .i64 x,.int .i64 y]]]⟩:St)=⟨A,false,[.arr 3 0 [.agg [.int .i64 0,.int .i64 0,.int .i64 0]],.arr 3 0 [.agg [.int .i64 s.length,.int .i64 ((s.take c).countP Qm),.int .i64 ((s.take c).countP Ji)]]]⟩)/\c<=s.length/\s.length-c<s.length-i:=by
   intro x y hx hy;subst hx hy
   exact ⟨i+1,⟨rfl,rfl⟩,by omega,by omega⟩
  have hbb:Qm b=(decide ((b.toNat:Int)<128) || decide ((192:Int)<=b.toNat)):=by unfold Qm;rw [Bool.eq_iff_iff];simp<;>omega
  have hfb:Ji b=decide ((b.toNat:Int)=10):=by unfold Ji;rw [Bool.eq_iff_iff];simp<;>omega
  rw [hbb] at e1;rw [hfb] at e2;simp only [Bool.or_eq_true,decide_eq_true_eq] at e1 e2
  repeat' (first|refine ZE ?_|refine ZD ?_|refine ZF rfl ?_|refine ZJ rfl rfl ?_|refine ZS rfl rfl rfl rfl ?_|refine Z4 rfl ?_|refine JH rfl rfl ?_|refine Zk rfl rfl rfl rfl ?_|refine ZB rfl ?_|refine ZA ?_|(refine Zd rfl rfl (fun _=>?_) (fun _=>?_)<;>try (exfalso;omega))|(refine Jg rfl rfl (fun _=>?_) (fun _=>?_)<;>try (exfalso;omega))|(refine Zq rfl rfl (fun _=>?_) (fun _=>?_)<;>try (exfalso;omega))|refine ZU rfl ?_|refine ZG rfl ?_|refine Zb rfl rfl (by omega) ?_|refine Zu rfl rfl rfl rfl rfl rfl ?_|refine ZOo rfl rfl (by omega) hb2 ?_|refine ZH ?_|refine Zt ?_|refine Zw ?_)
  all_goals refine fin _ _ ?_ ?_
  all_goals first|(rw [e1];split<;>omega)|(rw [e2];split<;>omega)
 ·have hi':i=s.length:=by omega
  subst hi';rw [List.take_length]
  refine Jc hA (by simp) rfl rfl rfl rfl rfl ?_
  rfl
theorem ZjN {N:ZQ} (hN:GoodN N) {A:List (Bool × List Blk)} {k:List Fr} {Q:YY} {s:List UInt8} (hs:s.length<=65536) (B:Blk) (row:List Tr) (n:Nat) (r:List Tr) (hrow:Row N row 0 s) (hn:row.length<=n+1) (h64:row.length<=65536) (hr:YL n row=r)
 (hex:∀ (G:List Blk) (ver:Nat),Rk (S Tb) k Q (.ex 2) [(2,.ptr A.length 0 0 0 0),(3,.ref A.length (B::G).length ver 0 r.length),(27,.bool false)] ⟨A,false,B::G++[.arr 7 ver (r.map Tr.av)]⟩) (ver:Nat) (ex:Env) :
 Ru (S Tb) (.loop ZAO) k Q ((2,.ptr A.length 0 0 0 0)::(3,.ref A.length 1 ver 0 row.length)::ex) ⟨A,false,[B,.arr 7 ver (row.map Tr.av)]⟩:=by
 refine Zr (α:=List Tr × List Blk × Nat × Env) (fun p=>(2,.ptr A.length 0 0 0 0)::(3,.ref A.length (B::p.2.1).length p.2.2.1 0 p.1.length)::p.2.2.2) (fun p=>⟨A,false,B::p.2.1++[.arr 7 p.2.2.1 (p.1.map Tr.av)]⟩)
  (fun p=>p.1.length<=65536/\∃ k h,p.1.length<=k+1/\Row N p.1 h s/\YL k p.1=r) (fun p=>p.1.length) (row,[],ver,ex) rfl rfl ⟨h64,n,0,hn,hrow,hr⟩ ?_
 rintro ⟨row,G,ver,ex⟩ ⟨h64,kk,h,hk,hR,hb⟩
 simp only at h64 hk hR hb ⊢
 repeat' (first|refine ZE ?_|refine ZD ?_|refine ZF rfl ?_|refine ZB rfl ?_|refine ZA ?_|refine QJ rfl ?_|(refine QQ rfl rfl (fun _=>?_) (fun _=>?_)<;>try (exfalso;omega))|refine ZU rfl ?_|refine ZG rfl ?_|refine Zfw ?_|refine ZH ?_|refine Zn ?_|refine ZI ?_|refine Za ?_|refine Zf ?_)
 ·rename_i hgt
  have hgt2:2<=row.length:=by omega
  obtain ⟨kk,rfl⟩:∃ j,kk=j+1:=⟨kk-1,by omega⟩
  rw [YL,if_neg (by omega)] at hb
  have hh:h+1<=16:=by
   match row,hgt2,hR with
   | t::r,_,hR =>
    have h1:=(hR.val t (by simp))
    have h3:=ZHG hN h1.1
    have h4:(t.txt N).length<=s.length:=by rw [<- hR.txt,Tr.txtL,List.length_append];omega
    have:=h1.1.height hN (by omega)
    omega
  obtain ⟨u1,u2,u3⟩:=ZYs hR hgt2 hh
  refine ZC rfl rfl rfl (ZYk row.length 4 _ (by omega) (by omega)) ?_
  have hg:=Jk (n:=row.length) (most:=4) (by omega) (by omega)
  have hg4:Zc row.length 4=((row.length:Int)-1) / 4+1:=rfl
  have hget:=fun i hi=>ZHD (n:=row.length) (m:=4) (by omega) (i:=i) hi
  have hlen:=ZHE (n:=row.length) (m:=4) (by omega)
  have hpb:=fun (i:Nat) hi=>XE (n:=row.length) (g:=Zc row.length 4) (by omega) (by omega) (i:=i) hi
  have hps:=ZAr row.length (Zc row.length 4)
  have hp0:=ZBx row.length (Zc row.length 4) (by omega)
  have hsn:=YT (n:=row.length) (g:=Zc row.length 4) (by omega) (by omega)
  have hsz:∀ i,i<(Zc row.length 4).toNat->2<=(ZAB row (Zc row.length 4) i).length:=by
   intro i hi;have h1:=ZLB row hg.1 hi
   have h2:=ZLC (n:=row.length) (m:=4) (by omega) (by omega) (i:=i)
   have h3:2<=(row.length:Int) / Zc row.length 4:=by
    rw [Int.le_ediv_iff_mul_le (by omega)];omega
   omega
  have hrl:(Xg row).length=(Zc row.length 4).toNat:=by unfold Xg;simp
  have hrg:∀ i,i<(Zc row.length 4).toNat->(Xg row)[i]?=some (grp (ZAB row (Zc row.length 4) i)):=by
   intro i hi;unfold Xg;rw [jG,List.getElem?_range hi];rfl
  have hpl:=fun i hi=>ZLB row (g:=Zc row.length 4) hg.1 (i:=i) hi
  have hpe:∀ i,ZAB row (Zc row.length 4) i=(row.drop (ZAD row.length (Zc row.length 4) i).toNat).take (Jj row.length (Zc row.length 4) i).toNat:=fun _=>rfl
  generalize Yr (row.length:Int) 4=z at *
  generalize Zc (row.length:Int) 4=g at *
  generalize Xg row=up at *
  have hh2:∀ u∈row,u.h<=65536:=fun u hu=>by have:=(hR.val u hu).1.h16;omega
  repeat' (first|refine ZE ?_|refine ZD ?_|refine ZF rfl ?_|refine ZB rfl ?_|refine ZA ?_|refine ZI ?_)
  all_goals try (exfalso;omega)
  refine Zr (α:=Nat) (fun i=>[(2,.ptr A.length 0 0 0 0),(3,.ref A.length (B::G).length ver (ZAD row.length g i).toNat (row.length-(ZAD row.length g i).toNat)),(6,.ref A.length ((B::G).length+1) i 0 i),(7,ZDz z),(8,.int .i64 i)])
   (fun i=>⟨A,false,B::G++[.arr 7 ver (row.map Tr.av),.arr 7 i ((up.take i).map Tr.av)]⟩) (fun i=>i<=z.length) (fun i=>z.length-i) 0 ?_ ?_ (Nat.zero_le _) ?_
  ·simp [hp0]
  ·simp
  intro i hi
  repeat' (first|refine ZE ?_|refine ZD ?_|refine ZF rfl ?_|refine ZB rfl ?_|refine ZA ?_|refine QH rfl ?_|refine QD rfl rfl ?_|refine Qc rfl rfl (by omega) (fun _=>rfl) (fun _ _=>?_)|(refine Zd rfl rfl (fun _=>?_) (fun _=>?_)<;>try (exfalso;omega))|refine ZU rfl ?_|refine ZG rfl ?_|refine ZH ?_|refine Zn ?_|refine ZI ?_|refine Za ?_|refine Zt ?_|refine ZX rfl ?_|refine Zw ?_|refine Zf ?_)
  ·rename_i hlt x hx
   have hi2:i<g.toNat:=by omega
   have hx2:z[i]?=some x:=hx;rw [hget i hi2] at hx2;have hx3:=Option.some.inj hx2;subst hx3
   have hb0:=hpb i (by omega)
   have hb1:=hpb (i+1) (by omega)
   rw [hps i] at hb1;have hs0:=hsn i;have hpl2:=hpl i hi2;have hrg2:=hrg i hi2;have hpe2:=hpe i;have hps2:=hps i;have hsz2:=hsz i hi2
   generalize ZAD (row.length:Int) g i=p at *
   generalize Jj (row.length:Int) g i=q at *
   generalize ZAB row g i=part at *
   have hgetL:∀ b:Blk,(B::G++[.arr 7 ver (row.map Tr.av),b])[(B::G).length]?=some (.arr 7 ver (row.map Tr.av)):=fun b=>ZSQ _ _ _
   have hwi:wIs 7 ver (St.get ⟨A,false,B::G++[.arr 7 ver (row.map Tr.av),.arr 7 i ((up.take i).map Tr.av)]⟩ A.length (B::G).length)=true:=by
    rw [St.get_cur,hgetL];simp [vis,wIs]
   refine ZAm rfl rfl (by omega) hwi ?_
   have hSl:Sl ⟨A,false,B::G++[.arr 7 ver (row.map Tr.av),.arr 7 i ((up.take i).map Tr.av)]⟩ (.ref A.length (B::G).length ver p.toNat q.toNat) part:=by
    refine .ref (es:=row.map Tr.av) (by rw [St.get_cur,hgetL];rfl) (by omega) (by rw [List.length_map];omega) ?_
    rw [hpe2,<- List.map_drop,<- List.map_take]
   refine ZC rfl rfl rfl (ZYv hsz2 (by omega) (fun u hu=>hh2 u (by rw [hpe2] at hu;exact List.mem_of_mem_drop (List.mem_of_mem_take hu))) hSl) ?_
   have hti:(up.take i).length=i:=by rw [List.length_take];omega
   refine Yk rfl ?_
   refine ZYt rfl rfl (ZiI _ _ _ _) hti.symm (by omega) ?_
   rw [ZiJ];have htk:=Zm hrg2;rw [<- htk]
   repeat' (first|refine ZD ?_|refine ZF rfl ?_|refine ZB rfl ?_|refine ZA ?_|refine QD rfl rfl ?_|refine Qc rfl rfl (by omega) (fun _=>rfl) (fun _ _=>?_))
   rename_i y hy
   have hy2:z[(i:Int).toNat]?=some y:=hy;rw [hx] at hy2;have hy3:=Option.some.inj hy2;subst hy3
   have hwi2:wIs 7 ver (St.get ⟨A,false,B::G++[.arr 7 ver (row.map Tr.av),.arr 7 (i+1) ((up.take (i+1)).map Tr.av)]⟩ A.length (B::G).length)=true:=by
    rw [St.get_cur,hgetL];simp [vis,wIs]
   refine ZFZ rfl rfl (by omega) hwi2 ?_
   repeat' (first|refine ZD ?_|refine ZF rfl ?_|refine ZB rfl ?_|refine ZA ?_|refine Zb rfl rfl (by omega) ?_|refine Zt ?_|refine Zw ?_)
   refine ⟨i+1,⟨?_,rfl⟩,by omega,by omega⟩
   rw [show p.toNat+q.toNat=(p+q).toNat by omega,show row.length-p.toNat-q.toNat=row.length-(p+q).toNat by omega]
   simp only [hps2];rfl
  ·have hi2:i=up.length:=by omega
   subst hi2;rw [List.take_length]
   refine ⟨(up,G++[.arr 7 ver (row.map Tr.av)],up.length,[]),⟨?_,?_⟩,⟨by simp only;omega,kk,h+1,by simp only;omega,u1,hb⟩,by simp only;omega⟩
   ·simp
   ·simp
 ·have hrr : YL kk row = row := by
   cases kk with
   | zero=>rfl
   | succ j=>rw [YL,if_pos (by omega)]
  rw [hrr] at hb;subst hb;exact hex G ver
theorem ZhX {N:ZQ} (hN:GoodN N) (s:List UInt8) (hs:s.length<=65536) (st:St):S Tb XR [.str s] st=some ((ZAX s).av,st):=by
 refine Z5 rfl (fun A hA=>?_)
 have hcl:=ZSy s
 have hch:=fun st=>Zfq s st (by omega)
 obtain ⟨ra,rb,rc⟩:=ZHK (N:=N) s
 obtain ⟨h',rd,re,rf⟩:=ZLX hN s.length _ 0 s ra (by omega) hs
 unfold ZAX
 generalize hres:YL s.length ((Q9 s).map Qu)=r at *
 have hG:=fun {v:AV} {st:St} (hv:Sl st v r)=>ZhW (by omega) (fun u hu=>by have:=(rd.val u hu).1.h16;omega) hv
 have hlen:((Q9 s).map Qu).length=(Q9 s).length:=by simp
 generalize hc:Q9 s=c at *
 unfold ZSv at hch
 repeat' (first|refine ZE ?_|refine ZD ?_|refine ZF rfl ?_|refine ZB rfl ?_|refine ZA ?_|refine Zh rfl rfl rfl ?_|refine JP rfl ?_|refine ZC rfl rfl (by first|rfl|(simp only [List.nil_append,List.append_nil,List.cons_append,Zg,ZW,ZZ];first|done|rfl)) (hch _) ?_|refine ZI ?_)
 all_goals try (exfalso;omega)
 refine Zr (α:=Nat) (fun i=>[(2,.ptr A.length 0 0 0 0),(3,.ref A.length 1 i 0 i),(4,.lit (c.map .str)),(5,.int .i64 i)])
  (fun i=>⟨A,false,[.arr 7 0 [trZ],.arr 7 i (((c.take i).map Qu).map Tr.av)]⟩) (fun i=>i<=c.length) (fun i=>c.length-i) 0 rfl rfl (by simp) ?_
 rintro i hi
 repeat' (first|refine ZE ?_|refine ZD ?_|refine ZF rfl ?_|refine ZB rfl ?_|refine ZA ?_|refine QH rfl ?_|refine QD rfl rfl ?_|refine Qc rfl rfl (by omega) (fun _=>rfl) (fun _ _=>?_)|(refine Zd rfl rfl (fun _=>?_) (fun _=>?_)<;>try (exfalso;omega))|refine ZU rfl ?_|refine ZG rfl ?_|refine ZH ?_|refine Zn ?_|refine ZI ?_|refine Za ?_|refine ZX rfl ?_|refine Zf ?_)
 ·rename_i x hx
  have hx2:c[i]?=some x:=hx
  have hlen2:((c.take i).map Qu).length=i:=by rw [List.length_map,List.length_take];omega
  refine ZC rfl rfl rfl (ZjM x _) ?_
  repeat' (first|refine ZD ?_|refine ZF rfl ?_|refine ZB rfl ?_|refine ZA ?_|refine Zb rfl rfl (by omega) ?_|refine QR rfl rfl rfl rfl ?_|refine ZBc rfl rfl rfl (by first|rfl|(simp;done)|(simp;omega)) (by first|omega|(simp<;>omega)) (by decide) rfl rfl rfl ?_|refine Zt ?_|refine Zw ?_)
  refine ⟨i+1,⟨rfl,?_⟩,by omega,by omega⟩
  simp only [Zm hx2,List.map_append,jC,List.map_nil];rfl
 ·have hi':i=c.length:=by omega
  subst hi';rw [List.take_length]
  have:=ZjN hN hs (A:=A) (.arr 7 0 [trZ]) (c.map Qu) s.length r ra (by omega) (by omega) hres (k:=[.blk 2,.seq (.seq ZAP .ret)]) (Q:=fun x e st'=>Jv false [.c 2 true 7] (x,e,st')=some ((grp r).av,st)) (fun G ver=>?_) c.length [(4,.lit (c.map .str)),(5,.int .i64 c.length),(14,.bool false)]
  ·rw [List.length_map] at this
   exact this
  ·repeat' (first|refine ZE ?_|refine ZD ?_|refine ZF rfl ?_|refine ZB rfl ?_|refine ZA ?_|refine Q5 rfl rfl rfl rfl (QC _ _ _) (QT _ _) ?_|refine ZC rfl rfl (by first|rfl|(simp only [List.nil_append,List.append_nil,List.cons_append,Zg,ZW,ZZ];first|done|rfl)) (hG (Sl.cur (ZSQ _ _ _) rfl)) ?_|refine ZP ?_|refine ZO ?_|refine ZX rfl ?_)
   exact ZOM hA (.inr rfl) rfl rfl rfl
theorem ZjO (b:UInt8) (st:St):S Tb X3 [.int .u8 b.toNat] st=some (.bool (!Qm b),st):=by
 refine Z5 rfl (fun A hA=>?_)
 repeat' (first|refine ZE ?_|refine ZD ?_|refine ZF rfl ?_|refine Z4 rfl ?_|refine JH rfl rfl ?_|refine Zk rfl rfl rfl rfl ?_|refine ZB rfl ?_|refine ZA ?_|(refine Zd rfl rfl (fun _=>?_) (fun _=>?_)<;>try (exfalso;omega))|(refine Jg rfl rfl (fun _=>?_) (fun _=>?_)<;>try (exfalso;omega))|refine ZP ?_|refine ZO ?_)
 all_goals refine Ze hA (by simp) rfl rfl rfl rfl ?_
 all_goals (unfold Qm;simp;omega)
theorem ZhY (s:List UInt8) (hs:s.length<4294967296) (st:St):S Tb XU [.str s] st=some (.int .i64 (s.countP Qm),st):=by
 refine Z5 rfl (fun A hA=>?_)
 repeat' (first|refine ZE ?_|refine ZD ?_|refine ZF rfl ?_|refine ZB rfl ?_|refine ZA ?_|refine ZI ?_)
 refine Zr (α:=Nat) (fun i=>[(0,.str s),(3,.int .i64 ((s.take i).countP Qm)),(4,.int .i64 i)])
  (fun i=>⟨A,false,[]⟩) (fun i=>i<=s.length) (fun i=>s.length-i) 0 rfl rfl (Nat.zero_le _) ?_
 intro i hi
 repeat' (first|refine ZE ?_|refine ZD ?_|refine ZF rfl ?_|refine ZB rfl ?_|refine ZA ?_|refine Qp rfl ?_|(refine Zd rfl rfl (fun _=>?_) (fun _=>?_)<;>try (exfalso;omega))|refine ZU rfl ?_|refine ZG rfl ?_|refine ZH ?_|refine ZP ?_|refine Zn ?_|refine ZI ?_|refine ZO ?_|refine Za ?_|refine ZX rfl ?_|refine Zf ?_)
 ·rename_i hlt
  obtain ⟨b,hb,ht⟩:=Zmo (s:=s) (i:=i) (by omega)
  have hc:=List.countP_le_length (p:=Qm) (l:=s.take i);have hl:=List.length_take_le i s;have hC:=ZjO b
  refine ZOo rfl rfl (by omega) (by simpa using hb) ?_
  cases hp:Qm b
  ·rw [hp] at hC
   repeat' (first|refine ZD ?_|refine ZF rfl ?_|refine ZB rfl ?_|refine ZA ?_|refine ZG rfl ?_|refine Qs rfl rfl ?_|refine Zb rfl rfl (by omega) ?_|refine ZC rfl rfl rfl (hC _) ?_|refine ZH ?_|refine Zt ?_|refine Zw ?_)
   refine ⟨i+1,⟨?_,rfl⟩,by omega,by omega⟩
   rw [ht,List.countP_append];simp [hp]
  ·rw [hp] at hC
   repeat' (first|refine ZD ?_|refine ZF rfl ?_|refine ZB rfl ?_|refine ZA ?_|refine ZU rfl ?_|refine Qs rfl rfl ?_|refine Zb rfl rfl (by omega) ?_|refine ZC rfl rfl rfl (hC _) ?_|refine Zt ?_|refine Zw ?_)
   refine ⟨i+1,⟨?_,rfl⟩,by omega,by omega⟩
   rw [ht,List.countP_append];simp [hp]
 ·refine Ze hA (by simp) rfl rfl rfl rfl ?_
  rw [List.take_of_length_le (by omega)]
theorem Zm5 (s:List UInt8) (hs:s.length<4294967296) (st:St):S Tb ZAo [.str s] st=some ((Ye s).av,st):=by
 refine Z5 rfl (fun A hA=>?_)
 have hC:=ZhY s hs
 repeat' (first|refine ZE ?_|refine ZD ?_|refine ZF rfl ?_|refine ZB rfl ?_|refine ZA ?_|refine Qp rfl ?_|refine Zj rfl rfl rfl ?_|refine Zh rfl rfl rfl ?_|refine Zu rfl rfl rfl rfl rfl rfl ?_|refine ZC rfl rfl rfl (hC _) ?_|refine ZI ?_)
 refine Zr (α:=Nat) (fun i=>[(0,.str s),(2,.ptr A.length 0 0 0 0),(3,.ptr A.length 1 0 0 0),(4,.int .i64 i)])
  (fun i=>⟨A,false,[.arr 3 0 [.agg [.int .i64 0,.int .i64 0,.int .i64 0]],.arr 3 0 [.agg [.int .i64 s.length,.int .i64 (s.countP Qm),.int .i64 ((s.take i).countP Ji)]]]⟩) (fun i=>i<=s.length) (fun i=>s.length-i) 0 rfl rfl (Nat.zero_le _) ?_
 intro i hi
 repeat' (first|refine ZE ?_|refine ZD ?_|refine ZF rfl ?_|refine ZS rfl rfl rfl rfl ?_|refine ZB rfl ?_|refine ZA ?_|refine Qp rfl ?_|(refine Zd rfl rfl (fun _=>?_) (fun _=>?_)<;>try (exfalso;omega))|refine ZU rfl ?_|refine ZG rfl ?_|refine Zu rfl rfl rfl rfl rfl rfl ?_|refine ZH ?_|refine ZP ?_|refine Zn ?_|refine ZI ?_|refine ZO ?_|refine Za ?_|refine ZX rfl ?_|refine Zf ?_)
 ·rename_i hlt
  obtain ⟨b,hb,ht⟩:=Zmo (s:=s) (i:=i) (by omega)
  have hc2:=List.countP_le_length (p:=Ji) (l:=s.take i);have hl:=List.length_take_le i s
  have hb2:s[(i:Int).toNat]?=some b:=by simpa using hb
  have e2:((s.take (i+1)).countP Ji)=(s.take i).countP Ji+(if Ji b then 1 else 0):=by
   rw [ht,List.countP_append];simp [List.countP_cons]
  have fin:∀ y:Int,y=((s.take (i+1)).countP Ji:Nat)->∃ c:Nat,([(0,AV.str s),(2,.ptr A.length 0 0 0 0),(3,.ptr A.length 1 0 0 0),(4,.int .i64 ((i:Int)+1))]=[(0,AV.str s),(2,.ptr A.length 0 0 0 0),(3,.ptr A.length 1 0 0 0),(4,.int .i64 c)] /\
   (⟨A,false,[.arr 3 0 [.agg [.int .i64 0,.int .i64 0,.int .i64 0]],.arr 3 0 [.agg [.int .i64 s.length,.int .i64 (s.countP Qm),.int .i64 y]]]⟩:St)=⟨A,false,[.arr 3 0 [.agg [.int .i64 0,.int .i64 0,.int .i64 0]],.arr 3 0 [.agg [.int .i64 s.length,.int .i64 (s.countP Qm),.int .i64 ((s.take c).countP Ji)]]]⟩)/\c<=s.length/\s.length-c<s.length-i:=by
   intro y hy;subst hy
   exact ⟨i+1,⟨rfl,rfl⟩,by omega,by omega⟩
  have hfb:Ji b=decide ((b.toNat:Int)=10):=by unfold Ji;rw [Bool.eq_iff_iff];simp<;>omega
  rw [hfb] at e2;simp only [decide_eq_true_eq] at e2
  repeat' (first|refine ZD ?_|refine ZF rfl ?_|refine ZJ rfl rfl ?_|refine ZS rfl rfl rfl rfl ?_|refine ZB rfl ?_|refine ZA ?_|(refine Zq rfl rfl (fun _=>?_) (fun _=>?_)<;>try (exfalso;omega))|refine ZU rfl ?_|refine ZG rfl ?_|refine Zb rfl rfl (by omega) ?_|refine Zu rfl rfl rfl rfl rfl rfl ?_|refine ZOo rfl rfl (by omega) hb2 ?_|refine ZH ?_|refine Zt ?_|refine Zw ?_)
  all_goals refine fin _ ?_
  all_goals (rw [e2];split<;>omega)
 ·have hi':i=s.length:=by omega
  subst hi';rw [List.take_length]
  refine Jc hA (by simp) rfl rfl rfl rfl rfl ?_
  rfl
section
variable {O:Orc} {k:List Fr} {Q:YY} {e:Env} {st:St} {keep:List Nat} {is:List PI} {d:Nat}
theorem Zm6 {x y:Opd} {a:Nat} {b:Nat} {c:Int} (hx:Zo e x=some (.int .u64 a)) (hy:Zo e y=some (.int .u64 c)) (hc:c=b) (hw:a*b<18446744073709551616) (h:Is O is keep k Q ((d,.int .u64 ((a*b:Nat):Int))::e) st):Is O (⟨some d,none,false,.bin .mul x y⟩::is) keep k Q e st:=by
 subst hc;refine ZD6 hx hy ?_ h
 show some (AV.int .u64 (IntKind.u64.wrap ((a:Int)*(b:Int))))=_
 rw [<- Int.natCast_mul,ZDx hw]
theorem Zm7 {x y:Opd} {a b:Nat} (hx:Zo e x=some (.int .u64 a)) (hy:Zo e y=some (.int .u64 b)) (hw:a+b<18446744073709551616) (h:Is O is keep k Q ((d,.int .u64 ((a+b:Nat):Int))::e) st):Is O (⟨some d,none,false,.bin .add x y⟩::is) keep k Q e st:=by
 refine ZD6 hx hy ?_ h
 show some (AV.int .u64 (IntKind.u64.wrap ((a:Int)+(b:Int))))=_
 rw [<- Int.natCast_add,ZDx hw]
theorem Zm8 {x y:Opd} {a b:Nat} {c:Int} (hx:Zo e x=some (.int .u64 a)) (hy:Zo e y=some (.int .u64 c)) (hc:c=b) (hw:a<18446744073709551616/\0<b) (h:Is O is keep k Q ((d,.int .u64 ((a / b:Nat):Int))::e) st):Is O (⟨some d,none,false,.bin .quo x y⟩::is) keep k Q e st:=by
 subst hc;have h1:a / b<=a:=Nat.div_le_self a b;refine ZD6 hx hy ?_ h
 show (if (b:Int)=0 then none else some (AV.int .u64 (IntKind.u64.wrap ((a:Int).tdiv b))))=_
 rw [if_neg (by omega),Int.tdiv_eq_ediv_of_nonneg (by omega),<- Int.natCast_ediv,ZDx (by omega)]
theorem Zm9 {x y:Opd} {a b:Nat} {c:Int} (hx:Zo e x=some (.int .u64 a)) (hy:Zo e y=some (.int .u64 c)) (hc:c=b) (hw:0<b) (h:Is O is keep k Q ((d,.int .u64 ((a % b:Nat):Int))::e) st):Is O (⟨some d,none,false,.bin .rem x y⟩::is) keep k Q e st:=by
 subst hc;refine ZD6 hx hy ?_ h
 show (if (b:Int)=0 then none else some (AV.int .u64 ((a:Int).tmod b)))=_
 rw [if_neg (by omega),Int.tmod_eq_emod_of_nonneg (by omega),<- Int.natCast_emod]
end
theorem ZjP (s g:Nat) (hs:s<16384) (hg:1<=g/\g<=4294967295) (st:St):S Tb Xz [.int .i64 s,.int .u64 g] st=some (.tup [.int .u64 ((g*65536+s:Nat):Int),.int .i64 0],st):=by
 refine Z5 rfl (fun A hA=>?_)
 repeat' (first|refine ZE ?_|refine ZD ?_|refine ZF rfl ?_|refine Z4 rfl ?_|refine Zk rfl rfl rfl rfl ?_|refine ZB rfl ?_|refine ZA ?_|(refine Zd rfl rfl (fun _=>?_) (fun _=>?_)<;>try (exfalso;omega))|(refine QQ rfl rfl (fun _=>?_) (fun _=>?_)<;>try (exfalso;omega))|(refine Jg rfl rfl (fun _=>?_) (fun _=>?_)<;>try (exfalso;omega))|refine ZG rfl ?_|refine Zm6 (b:=65536) rfl rfl (by omega) (by omega) ?_|refine Zm7 rfl rfl (by omega) ?_|refine ZI5 rfl (ZDx (by omega)) ?_|refine ZH ?_|refine ZP ?_|refine ZO ?_)
 all_goals try (exfalso;omega)
 all_goals refine Ze hA (by simp) rfl rfl rfl rfl ?_
 all_goals rfl
theorem ZeJ (h:Nat) (hh:Jt h) (st:St):S Tb XT [.int .u64 h] st=some (.int .i64 0,st):=by
 refine Z5 rfl (fun A hA=>?_)
 have h1:=hh.1;have h2:=hh.2
 repeat' (first|refine ZE ?_|refine ZD ?_|refine ZF rfl ?_|refine Z4 rfl ?_|refine Zk rfl rfl rfl rfl ?_|refine ZB rfl ?_|refine ZA ?_|(refine Zd rfl rfl (fun _=>?_) (fun _=>?_)<;>try (exfalso;omega))|(refine QQ rfl rfl (fun _=>?_) (fun _=>?_)<;>try (exfalso;omega))|(refine Jg rfl rfl (fun _=>?_) (fun _=>?_)<;>try (exfalso;omega))|refine ZG rfl ?_|refine Zm8 (b:=65536) rfl rfl (by omega) (by omega) ?_|refine Zm9 (b:=65536) rfl rfl (by omega) (by omega) ?_|refine ZH ?_|refine ZP ?_|refine ZO ?_)
 all_goals try (exfalso;omega)
 all_goals refine Ze hA (by simp) rfl rfl rfl rfl ?_
 all_goals rfl
theorem Zf0 (n:Nat) (hn:n<=15) (k:Kid) (hk:KidOk n k) (st:St):S Tb ZAM [.int .i64 ((n+1:Nat):Int),k.av] st=some (.bool true,st):=by
 refine Z5 rfl (fun A hA=>?_)
 obtain ⟨a1,b1,c1,d1,e1,f1,g1⟩:=hk
 repeat' (first|refine ZE ?_|refine ZD ?_|refine ZF rfl ?_|refine ZB rfl ?_|refine ZA ?_|refine Zh rfl rfl rfl ?_|refine ZI ?_)
 refine Zr (α:=Nat) (fun i=>[(0,.int .i64 ((n+1:Nat):Int)),(3,.ptr A.length 0 0 0 0),(5,.int .i64 (leastB i)),(6,.int .i64 (mostB i)),(7,.int .i64 ((i+1:Nat):Int))]) (fun i=>⟨A,false,[.arr 4 0 [k.av]]⟩) (fun i=>i<=n) (fun i=>n-i) 0 rfl rfl (by omega) ?_
 intro i hi
 have hl:=ZE7 (h:=i) (by omega)
 have hm:=ZK6 i
 repeat' (first|refine ZE ?_|refine ZD ?_|refine ZF rfl ?_|refine ZJ rfl rfl ?_|refine ZS rfl rfl rfl rfl ?_|refine ZB rfl ?_|refine ZA ?_|(refine Zd rfl rfl (fun _=>?_) (fun _=>?_)<;>try (exfalso;omega))|refine ZU rfl ?_|refine ZG rfl ?_|refine Zb rfl rfl (by omega) ?_|refine Zh9 rfl rfl (by omega) ?_|refine Zh rfl rfl rfl ?_|refine Zu rfl rfl rfl rfl rfl rfl ?_|refine ZWR rfl rfl ?_|refine ZH ?_|refine Zn ?_|refine ZI ?_|refine Za ?_|refine Zt ?_|refine ZX rfl ?_|refine Zw ?_|refine Zf ?_)
 ·refine ⟨i+1,⟨?_,rfl⟩,by omega,by omega⟩
  rw [ZDy];simp only [mostB,jB,if_false]
  rw [show ((min (mostB i*4) 65536:Nat):Int)=min ((mostB i:Int)*4) 65536 by omega]
  rfl
 ·have:i=n:=by omega
  subst this
  repeat' (first|refine ZF rfl ?_|refine ZJ rfl rfl ?_|refine ZS rfl rfl rfl rfl ?_|refine Z4 rfl ?_|refine Zk rfl rfl rfl rfl ?_|refine ZB rfl ?_|refine ZA ?_|(refine XQ rfl rfl (fun _=>?_) (fun _=>?_)<;>try (exfalso;omega))|(refine Jg rfl rfl (fun _=>?_) (fun _=>?_)<;>try (exfalso;omega))|(refine Zq rfl rfl (fun _=>?_) (fun _=>?_)<;>try (exfalso;omega))|refine ZC rfl rfl rfl (ZeJ k.at_ a1 _) ?_|refine ZP ?_|refine ZO ?_)
  all_goals try (exfalso;omega)
  all_goals refine Ze hA (by simp) rfl rfl rfl rfl ?_
  all_goals rfl
theorem ZYw (x:Nd) (h0:x.h=0) (h1:1<=x.text.length/\x.text.length<=16) (h2:x.ks=[]) (st:St):S Tb JU [x.av] st=some (.bool true,st):=by
 obtain ⟨h,text,kids⟩:=x
 simp only at h0 h1
 subst h0
 refine Z5 rfl (fun A hA=>?_)
 cases kids with
 | none =>
  simp only [Nd.av,slV]
  repeat' (first|refine ZE ?_|refine ZD ?_|refine ZF rfl ?_|refine ZJ rfl rfl ?_|refine ZS rfl rfl rfl rfl ?_|refine Z4 rfl ?_|refine Zk rfl rfl rfl rfl ?_|refine ZB rfl ?_|refine ZA ?_|refine Qp rfl ?_|refine JC rfl ?_|(refine XQ rfl rfl (fun _=>?_) (fun _=>?_)<;>try (exfalso;omega))|(refine Jg rfl rfl (fun _=>?_) (fun _=>?_)<;>try (exfalso;omega))|(refine Zq rfl rfl (fun _=>?_) (fun _=>?_)<;>try (exfalso;omega))|refine ZU rfl ?_|refine Zh rfl rfl rfl ?_|refine ZP ?_|refine ZO ?_|refine ZY ?_)
  all_goals try (exfalso;omega)
  refine Ze hA (by simp) rfl rfl rfl rfl ?_
  rfl
 | some l =>
  have:l=[]:=h2
  subst this;simp only [Nd.av,slV]
  repeat' (first|refine ZE ?_|refine ZD ?_|refine ZF rfl ?_|refine ZJ rfl rfl ?_|refine ZS rfl rfl rfl rfl ?_|refine Z4 rfl ?_|refine Zk rfl rfl rfl rfl ?_|refine ZB rfl ?_|refine ZA ?_|refine Qp rfl ?_|refine J2 rfl rfl ?_|(refine XQ rfl rfl (fun _=>?_) (fun _=>?_)<;>try (exfalso;omega))|(refine Jg rfl rfl (fun _=>?_) (fun _=>?_)<;>try (exfalso;omega))|(refine Zq rfl rfl (fun _=>?_) (fun _=>?_)<;>try (exfalso;omega))|refine ZU rfl ?_|refine Zh rfl rfl rfl ?_|refine ZP ?_|refine ZO ?_|refine ZY ?_)
  all_goals try (exfalso;omega)
  refine Ze hA (by simp) rfl rfl rfl rfl ?_
  rfl
theorem ZeK (n:Nat) (hn:n<=15) (ks:List Kid) (hk:2<=ks.length/\ks.length<=4) (hs:∀ k∈ks,KidOk n k) (st:St):S Tb JU [Nd.av ⟨n+1,[],some ks⟩] st=some (.bool true,st):=by
 refine Z5 rfl (fun A hA=>?_)
 simp only [Nd.av,slV]
 repeat' (first|refine ZE ?_|refine ZD ?_|refine ZF rfl ?_|refine ZJ rfl rfl ?_|refine ZS rfl rfl rfl rfl ?_|refine Z4 rfl ?_|refine Zk rfl rfl rfl rfl ?_|refine ZB rfl ?_|refine ZA ?_|refine QH rfl ?_|(refine Zd rfl rfl (fun _=>?_) (fun _=>?_)<;>try (exfalso;omega))|(refine QQ rfl rfl (fun _=>?_) (fun _=>?_)<;>try (exfalso;omega))|(refine Zq rfl rfl (fun _=>?_) (fun _=>?_)<;>try (exfalso;omega))|(refine ZVb rfl rfl (fun _=>?_) (fun _=>?_)<;>try contradiction)|refine ZG rfl ?_|refine Zh rfl rfl rfl ?_|refine ZH ?_|refine ZI ?_)
 all_goals try (exfalso;omega)
 refine Zr (α:=Nat) (fun i=>[(1,.ptr A.length 0 0 0 0),(3,.int .i64 i)]) (fun i=>⟨A,false,[.arr 3 0 [.agg [.int .i64 ↑(n+1),.str [],.lit (ks.map Kid.av)]]]⟩) (fun i=>i<=ks.length) (fun i=>ks.length-i) 0 rfl rfl (by simp) ?_
 intro i hi
 repeat' (first|refine ZE ?_|refine ZD ?_|refine ZF rfl ?_|refine ZJ rfl rfl ?_|refine ZS rfl rfl rfl rfl ?_|refine ZB rfl ?_|refine ZA ?_|refine QH rfl ?_|refine QD rfl rfl ?_|refine Qc rfl rfl (by omega) (fun _=>rfl) (fun _ _=>?_)|(refine Zd rfl rfl (fun _=>?_) (fun _=>?_)<;>try (exfalso;omega))|refine ZU rfl ?_|refine ZG rfl ?_|refine ZH ?_|refine ZP ?_|refine Zn ?_|refine ZI ?_|refine ZO ?_|refine Za ?_|refine ZX rfl ?_|refine Zf ?_)
 ·rename_i k hk'
  have hK:=fun st=>Zf0 n hn k (hs k (jM hk')) st
  repeat' (first|refine ZD ?_|refine ZF rfl ?_|refine ZB rfl ?_|refine ZA ?_|refine ZG rfl ?_|refine Qs rfl rfl ?_|refine Zb rfl rfl (by omega) ?_|refine ZC rfl rfl rfl (hK _) ?_|refine ZH ?_|refine Zt ?_|refine Zw ?_)
  exact ⟨i+1,⟨rfl,rfl⟩,by omega,by omega⟩
 ·refine Ze hA (by simp) rfl rfl rfl rfl ?_
  rfl
theorem ZbS (n:Nat) (hn:n<=15) (ks:List Kid) (hk:2<=ks.length/\ks.length<=4) (hs:∀ k∈ks,KidOk n k) (st:St) {lv ix ver:Nat} (hr:KRef st lv ix ver ks):S Tb JU [ndR (n+1) lv ix ver ks.length] st=some (.bool true,st):=by
 refine Z5 rfl (fun A hA=>?_)
 obtain ⟨es,g,ge⟩:=hr
 have gA:=fun L=>ZV hA (ro:=false) (L:=L) g
 have hwi:∀ L,wIs 4 ver (St.get ⟨A,false,L⟩ lv ix)=true:=fun L=>by rw [gA];simp [wIs]
 unfold ndR
 repeat' (first|refine ZE ?_|refine ZD ?_|refine ZF rfl ?_|refine ZJ rfl rfl ?_|refine ZS rfl rfl rfl rfl ?_|refine Z4 rfl ?_|refine Zk rfl rfl rfl rfl ?_|refine ZB rfl ?_|refine ZA ?_|refine QJ rfl ?_|(refine Zd rfl rfl (fun _=>?_) (fun _=>?_)<;>try (exfalso;omega))|(refine QQ rfl rfl (fun _=>?_) (fun _=>?_)<;>try (exfalso;omega))|(refine Zq rfl rfl (fun _=>?_) (fun _=>?_)<;>try (exfalso;omega))|(refine ZVb rfl rfl (fun _=>?_) (fun _=>?_)<;>try contradiction)|refine ZG rfl ?_|refine Zh rfl rfl rfl ?_|refine ZH ?_|refine ZI ?_)
 all_goals try (exfalso;omega)
 refine Zr (α:=Nat) (fun i=>[(1,.ptr A.length 0 0 0 0),(3,.int .i64 i)]) (fun i=>⟨A,false,[.arr 3 0 [.agg [.int .i64 ↑(n+1),.str [],.ref lv ix ver 0 ks.length]]]⟩) (fun i=>i<=ks.length) (fun i=>ks.length-i) 0 rfl rfl (by simp) ?_
 intro i hi
 repeat' (first|refine ZE ?_|refine ZD ?_|refine ZF rfl ?_|refine ZJ rfl rfl ?_|refine ZS rfl rfl rfl rfl ?_|refine ZB rfl ?_|refine ZA ?_|refine QJ rfl ?_|(refine Zd rfl rfl (fun _=>?_) (fun _=>?_)<;>try (exfalso;omega))|refine ZU rfl ?_|refine ZG rfl ?_|refine ZH ?_|refine ZP ?_|refine Zn ?_|refine ZI ?_|refine ZO ?_|refine Za ?_|refine ZX rfl ?_|refine Zf ?_)
 ·rename_i hlt
  obtain ⟨k,hk'⟩:∃ k,ks[i]?=some k:=⟨ks[i]'(by omega),by simp [show i<ks.length by omega]⟩
  have hK:=fun st=>Zf0 n hn k (hs k (jM hk')) st
  refine Qg rfl rfl (by omega) (hwi _) ?_
  refine Z8 (x:=k.av) rfl (gA _) (ZD1 ge hk') rfl ?_
  repeat' (first|refine ZD ?_|refine ZF rfl ?_|refine ZB rfl ?_|refine ZA ?_|refine ZG rfl ?_|refine Qs rfl rfl ?_|refine Zb rfl rfl (by omega) ?_|refine ZC rfl rfl rfl (hK _) ?_|refine ZH ?_|refine Zt ?_|refine Zw ?_)
  exact ⟨i+1,⟨rfl,rfl⟩,by omega,by omega⟩
 ·refine Ze hA (by simp) rfl rfl rfl rfl ?_
  rfl
theorem Zf1 {ks:List Kid} (hs:∀ k∈ks,k.m.Fit 65536) (i:Nat) (hk:ks.length<=4):(QK ((ks.take i).map Kid.m)).Fit 262144:=by
 have:=ZE8 (l:=(ks.take i).map Kid.m) (by
  intro m hm;obtain ⟨k,hk1,rfl⟩:=List.mem_map.1 hm
  exact hs k (List.mem_of_mem_take hk1))
 have hl:((ks.take i).map Kid.m).length<=4:=by rw [List.length_map,List.length_take];omega
 obtain ⟨a,b,c,d,e,f⟩:=this
 constructor<;>omega
theorem Zf2 {ks:List Kid} {i:Nat} {k:Kid} (h:ks[i]?=some k):QK ((ks.take (i+1)).map Kid.m)=(QK ((ks.take i).map Kid.m)).add k.m:=by
 rw [Zm h,List.map_append,ZK7];simp only [jC,List.map_nil,QK,Mea.add_zero]
theorem ZcD (n:Nat) (ks:List Kid) (hk:ks.length<=4) (hs:∀ k∈ks,k.m.Fit 65536) (st:St):S Tb JX [Nd.av ⟨n+1,[],some ks⟩,.int .i64 ks.length] st=some ((QK (ks.map Kid.m)).av,st):=by
 refine Z5 rfl (fun A hA=>?_)
 simp only [Nd.av,slV]
 repeat' (first|refine ZE ?_|refine ZD ?_|refine ZF rfl ?_|refine ZB rfl ?_|refine ZA ?_|refine Zj rfl rfl rfl ?_|refine Zh rfl rfl rfl ?_|refine Zu rfl rfl rfl rfl rfl rfl ?_|refine ZI ?_)
 refine Zr (α:=Nat × List Blk) (fun p=>[(1,.int .i64 ks.length),(2,.ptr A.length 0 0 0 0),(4,.ptr A.length 1 0 0 0),(5,.ptr A.length 2 0 0 0),(6,.int .i64 p.1)]) (fun p=>⟨A,false,.arr 3 0 [.agg [.int .i64 ↑(n+1),.str [],.lit (ks.map Kid.av)]]::.arr 3 0 [.agg [.int .i64 0,.int .i64 0,.int .i64 0]]::.arr 3 0 [(QK ((ks.take p.1).map Kid.m)).av]::p.2⟩) (fun p=>p.1<=ks.length) (fun p=>ks.length-p.1) (0,[]) rfl rfl (by simp) ?_
 rintro ⟨i,G⟩ hi
 simp only at hi ⊢
 have hf:=Zf1 hs i hk
 have he:=fun k hk=>Zf2 (ks:=ks) (i:=i) (k:=k) hk
 generalize hsm:QK ((ks.take i).map Kid.m)=sm at *
 obtain ⟨sb,sr,sl⟩:=sm;obtain ⟨f1,f2,f3,f4,f5,f6⟩:=hf
 simp only [Mea.av] at *
 repeat' (first|refine ZE ?_|refine ZD ?_|refine ZF rfl ?_|refine ZJ rfl rfl ?_|refine ZS rfl rfl rfl rfl ?_|refine ZB rfl ?_|refine ZA ?_|refine Qf rfl rfl rfl ?_|refine QD rfl rfl ?_|refine Qc rfl rfl (by omega) (fun _=>rfl) (fun _ _=>?_)|(refine Zd rfl rfl (fun _=>?_) (fun _=>?_)<;>try (exfalso;omega))|refine ZU rfl ?_|refine ZG rfl ?_|refine Zy rfl rfl rfl ?_|refine J7 rfl rfl rfl rfl rfl rfl ?_|refine Q5 rfl rfl rfl rfl rfl rfl ?_|refine ZH ?_|refine ZP ?_|refine Zn ?_|refine ZI ?_|refine ZO ?_|refine Za ?_|refine ZX rfl ?_|refine Zf ?_)
 ·rename_i k hk'
  have hk2:ks[i]?=some k:=hk';obtain ⟨g1,g2,g3,g4,g5,g6⟩:=hs k (jM hk2)
  repeat' (first|refine ZD ?_|refine ZF rfl ?_|refine ZJ rfl rfl ?_|refine ZS rfl rfl rfl rfl ?_|refine ZB rfl ?_|refine ZA ?_|refine Qf rfl rfl rfl ?_|refine Zb rfl rfl (by omega) ?_|refine Zj rfl rfl rfl ?_|refine Q5 rfl rfl rfl rfl rfl rfl ?_|refine Zt ?_|refine Zw ?_)
  refine ⟨(i+1,G++[.arr 3 0 [k.m.av]]),⟨rfl,?_⟩,by simp only;omega,by simp only;omega⟩
  simp only [he k hk2];rfl
 ·have hi':ks.take i=ks:=List.take_of_length_le (by omega)
  rw [hi'] at hsm;rw [hsm]
  skip
  refine Jc hA (by simp) rfl rfl rfl rfl rfl ?_
  rfl
theorem ZhZ (n:Nat) (ks:List Kid) (hk:ks.length<=4) (hs:∀ k∈ks,k.m.Fit 65536) (st:St) {lv ix ver:Nat} (hr:KRef st lv ix ver ks):S Tb JX [ndR (n+1) lv ix ver ks.length,.int .i64 ks.length] st=some ((QK (ks.map Kid.m)).av,st):=by
 refine Z5 rfl (fun A hA=>?_)
 obtain ⟨es,g,ge⟩:=hr
 have gA:=fun L=>ZV hA (ro:=false) (L:=L) g
 have hwi:∀ L,wIs 4 ver (St.get ⟨A,false,L⟩ lv ix)=true:=fun L=>by rw [gA];simp [wIs]
 unfold ndR
 repeat' (first|refine ZE ?_|refine ZD ?_|refine ZF rfl ?_|refine ZB rfl ?_|refine ZA ?_|refine Zj rfl rfl rfl ?_|refine Zh rfl rfl rfl ?_|refine Zu rfl rfl rfl rfl rfl rfl ?_|refine ZI ?_)
 refine Zr (α:=Nat × List Blk) (fun p=>[(1,.int .i64 ks.length),(2,.ptr A.length 0 0 0 0),(4,.ptr A.length 1 0 0 0),(5,.ptr A.length 2 0 0 0),(6,.int .i64 p.1)]) (fun p=>⟨A,false,.arr 3 0 [.agg [.int .i64 ↑(n+1),.str [],.ref lv ix ver 0 ks.length]]::.arr 3 0 [.agg [.int .i64 0,.int .i64 0,.int .i64 0]]::.arr 3 0 [(QK ((ks.take p.1).map Kid.m)).av]::p.2⟩) (fun p=>p.1<=ks.length) (fun p=>ks.length-p.1) (0,[]) rfl rfl (by simp) ?_
 rintro ⟨i,G⟩ hi
 simp only at hi ⊢
 have hf:=Zf1 hs i hk
 have he:=fun k hk=>Zf2 (ks:=ks) (i:=i) (k:=k) hk
 generalize hsm:QK ((ks.take i).map Kid.m)=sm at *
 obtain ⟨sb,sr,sl⟩:=sm;obtain ⟨f1,f2,f3,f4,f5,f6⟩:=hf
 simp only [Mea.av] at *
 repeat' (first|refine ZE ?_|refine ZD ?_|refine ZF rfl ?_|refine ZJ rfl rfl ?_|refine ZS rfl rfl rfl rfl ?_|refine ZB rfl ?_|refine ZA ?_|(refine Zd rfl rfl (fun _=>?_) (fun _=>?_)<;>try (exfalso;omega))|refine ZU rfl ?_|refine ZG rfl ?_|refine Q5 rfl rfl rfl rfl rfl rfl ?_|refine ZH ?_|refine ZP ?_|refine Zn ?_|refine ZI ?_|refine ZO ?_|refine Za ?_|refine ZX rfl ?_|refine Zf ?_)
 ·rename_i hlt
  obtain ⟨k,hk2⟩:∃ k,ks[i]?=some k:=⟨ks[i]'(by omega),by simp [show i<ks.length by omega]⟩
  obtain ⟨g1,g2,g3,g4,g5,g6⟩:=hs k (jM hk2)
  refine Qg rfl rfl (by omega) (hwi _) ?_
  refine ZJ rfl rfl ?_;refine Z8 (x:=k.av) rfl (gA _) (ZD1 ge hk2) rfl ?_
  repeat' (first|refine ZD ?_|refine ZF rfl ?_|refine ZJ rfl rfl ?_|refine ZS rfl rfl rfl rfl ?_|refine ZB rfl ?_|refine ZA ?_|refine Qf rfl rfl rfl ?_|refine Zb rfl rfl (by omega) ?_|refine Zj rfl rfl rfl ?_|refine Zy rfl rfl rfl ?_|refine J7 rfl rfl rfl rfl rfl rfl ?_|refine Q5 rfl rfl rfl rfl rfl rfl ?_|refine Zt ?_|refine Zw ?_)
  refine ⟨(i+1,G++[.arr 3 0 [k.m.av]]),⟨rfl,?_⟩,by simp only;omega,by simp only;omega⟩
  simp only [he k hk2];rfl
 ·have hi':ks.take i=ks:=List.take_of_length_le (by omega)
  rw [hi'] at hsm;rw [hsm]
  skip
  refine Jc hA (by simp) rfl rfl rfl rfl rfl ?_
  rfl
theorem Zf3 (x:Nd) (st:St):S Tb JX [x.av,.int .i64 0] st=some (Mea.zero.av,st):=by
 obtain ⟨h,text,kids⟩:=x
 refine Z5 rfl (fun A hA=>?_)
 simp only [Nd.av]
 cases kids
 all_goals simp only [slV]
 all_goals repeat' (first|refine ZE ?_|refine ZD ?_|refine ZF rfl ?_|refine ZS rfl rfl rfl rfl ?_|refine ZB rfl ?_|refine ZA ?_|(refine Zd rfl rfl (fun _=>?_) (fun _=>?_)<;>try (exfalso;omega))|refine ZG rfl ?_|refine Zj rfl rfl rfl ?_|refine Zh rfl rfl rfl ?_|refine Zu rfl rfl rfl rfl rfl rfl ?_|refine Qe ?_|refine ZP ?_|refine Zn ?_|refine ZI ?_|refine ZO ?_|refine Za ?_|refine ZX rfl ?_)
 all_goals refine Jc hA (by simp) rfl rfl rfl rfl rfl ?_
 all_goals rfl
theorem ZSz (x:Nd) (hx:NdOk x) (st:St):S Tb Jd [x.av] st=some (.int .i64 0,st):=by
 rcases hx with h|⟨n,ks,rfl,h1,h2,h3,h4,h5⟩
 ·have hf:=fun st=>ZYw x h.h ⟨h.lo,h.hi⟩ h.ks st
  have hS:=fun st=>Zf3 x st
  have hks:=h.ks;unfold Mea.av at hS;obtain ⟨h,text,kids⟩:=x
  simp only [Nd.av] at *
  refine Z5 rfl (fun A hA=>?_)
  cases kids with
  | none =>
   simp only [slV] at *
   repeat' (first|refine ZE ?_|refine ZD ?_|refine ZF rfl ?_|refine ZJ rfl rfl ?_|refine ZS rfl rfl rfl rfl ?_|refine ZB rfl ?_|refine ZA ?_|refine ZNc (agg:=false) rfl rfl ?_|refine JC rfl ?_|(refine QQ rfl rfl (fun _=>?_) (fun _=>?_)<;>try (exfalso;omega))|refine ZU rfl ?_|refine ZG rfl ?_|refine Qs rfl rfl ?_|refine Zh rfl rfl rfl ?_|refine ZC rfl rfl rfl (hf _) ?_|refine ZC rfl rfl rfl (hS _) ?_|refine ZH ?_|refine ZP ?_|refine ZO ?_|refine ZY ?_)
   all_goals try (exfalso;simp [Mea.zero] at *;done)
   all_goals refine Ze hA (by simp) rfl rfl rfl rfl ?_
   all_goals rfl
  | some l =>
   have:l=[]:=hks
   subst this
   simp only [slV] at *
   repeat' (first|refine ZE ?_|refine ZD ?_|refine ZF rfl ?_|refine ZJ rfl rfl ?_|refine ZS rfl rfl rfl rfl ?_|refine ZB rfl ?_|refine ZA ?_|refine ZNc (agg:=false) rfl rfl ?_|refine J2 rfl rfl ?_|(refine QQ rfl rfl (fun _=>?_) (fun _=>?_)<;>try (exfalso;omega))|refine ZU rfl ?_|refine ZG rfl ?_|refine Qs rfl rfl ?_|refine Zh rfl rfl rfl ?_|refine ZC rfl rfl rfl (hf _) ?_|refine ZC rfl rfl rfl (hS _) ?_|refine ZH ?_|refine ZP ?_|refine ZO ?_|refine ZY ?_)
   all_goals try (exfalso;simp [Mea.zero] at *;done)
   all_goals refine Ze hA (by simp) rfl rfl rfl rfl ?_
   all_goals rfl
 ·have hf:=fun st=>ZeK n h1 ks ⟨h2,h3⟩ h4 st
  have hS:=fun st=>ZcD n ks h3 (fun k hk=>(h4 k hk).fit) st
  unfold Mea.av at hS
  simp only [Nd.av,slV] at *
  refine Z5 rfl (fun A hA=>?_)
  repeat' (first|refine ZE ?_|refine ZD ?_|refine ZF rfl ?_|refine ZJ rfl rfl ?_|refine ZS rfl rfl rfl rfl ?_|refine ZB rfl ?_|refine ZA ?_|refine ZNc (agg:=false) rfl rfl ?_|refine QH rfl ?_|(refine QQ rfl rfl (fun _=>?_) (fun _=>?_)<;>try (exfalso;omega))|refine ZG rfl ?_|refine Qs rfl rfl ?_|refine Zh rfl rfl rfl ?_|refine ZC rfl rfl rfl (hf _) ?_|refine ZC rfl rfl rfl (hS _) ?_|refine ZH ?_|refine ZP ?_|refine ZO ?_)
  refine Ze hA (by simp) rfl rfl rfl rfl ?_
  rfl
theorem ZbT (n:Nat) (hn:n<=15) (ks:List Kid) (hk:2<=ks.length/\ks.length<=4) (hs:∀ k∈ks,KidOk n k) (hsum:(QK (ks.map Kid.m)).b<=65536) (st:St) {lv ix ver:Nat} (hr:KRef st lv ix ver ks):S Tb Jd [ndR (n+1) lv ix ver ks.length] st=some (.int .i64 0,st):=by
 refine Z5 rfl (fun A hA=>?_)
 have hf:=fun L=>ZbS n hn ks hk hs _ (hr.push hA (ro:=false) (L:=L))
 have hS:=fun L=>ZhZ n ks hk.2 (fun k hk=>(hs k hk).fit) _ (hr.push hA (ro:=false) (L:=L))
 unfold Mea.av ndR at *
 repeat' (first|refine ZE ?_|refine ZD ?_|refine ZF rfl ?_|refine ZJ rfl rfl ?_|refine ZS rfl rfl rfl rfl ?_|refine ZB rfl ?_|refine ZA ?_|refine ZNc (agg:=false) rfl rfl ?_|refine QJ rfl ?_|(refine QQ rfl rfl (fun _=>?_) (fun _=>?_)<;>try (exfalso;omega))|refine ZG rfl ?_|refine Qs rfl rfl ?_|refine Zh rfl rfl rfl ?_|refine ZC rfl rfl rfl (hf _) ?_|refine ZC rfl rfl rfl (hS _) ?_|refine ZH ?_|refine ZP ?_|refine ZO ?_)
 refine Ze hA (by simp) rfl rfl rfl rfl ?_
 rfl
theorem ZbU (x:Nd) (hx:NdOk x) (st:St):S Tb Yp [x.av] st=some (.tup [x.mea.av,.int .i64 0],st):=by
 have hC:=fun st=>ZSz x hx st
 rcases hx with h|⟨n,ks,rfl,h1,h2,h3,h4,h5⟩
 ·have hS:=fun st=>Zm5 x.text (by have:=h.hi;omega) st
  have he:x.mea=Ye x.text:=by unfold Nd.mea;rw [if_pos h.h]
  have h0:=h.h;rw [he]
  unfold Mea.av at *
  obtain ⟨h,text,kids⟩:=x
  simp only at h0
  subst h0
  simp only [Nd.av] at *
  refine Z5 rfl (fun A hA=>?_)
  cases kids
  all_goals simp only [slV] at *
  all_goals repeat' (first|refine ZE ?_|refine ZD ?_|refine ZF rfl ?_|refine ZJ rfl rfl ?_|refine ZS rfl rfl rfl rfl ?_|refine ZB rfl ?_|refine ZA ?_|(refine Zq rfl rfl (fun _=>?_) (fun _=>?_)<;>try (exfalso;omega))|(refine Zp rfl rfl (fun _=>?_) (fun _=>?_)<;>try (exfalso;omega))|refine ZU rfl ?_|refine ZG rfl ?_|refine Zh rfl rfl rfl ?_|refine Zu rfl rfl rfl rfl rfl rfl ?_|refine ZC rfl rfl rfl (hC _) ?_|refine ZC rfl rfl rfl (hS _) ?_|refine ZH ?_|refine ZP ?_|refine ZO ?_|refine ZY ?_)
  all_goals refine Jc hA (by simp) rfl rfl rfl rfl rfl ?_
  all_goals rfl
 ·have hS:=fun st=>ZcD n ks h3 (fun k hk=>(h4 k hk).fit) st
  have he:Nd.mea ⟨n+1,[],some ks⟩=QK (ks.map Kid.m):=rfl;rw [he]
  unfold Mea.av at *
  simp only [Nd.av,slV] at *
  refine Z5 rfl (fun A hA=>?_)
  repeat' (first|refine ZE ?_|refine ZD ?_|refine ZF rfl ?_|refine ZJ rfl rfl ?_|refine ZS rfl rfl rfl rfl ?_|refine ZB rfl ?_|refine ZA ?_|refine QH rfl ?_|(refine Zq rfl rfl (fun _=>?_) (fun _=>?_)<;>try (exfalso;omega))|(refine Zp rfl rfl (fun _=>?_) (fun _=>?_)<;>try (exfalso;omega))|refine ZG rfl ?_|refine Zh rfl rfl rfl ?_|refine Zu rfl rfl rfl rfl rfl rfl ?_|refine ZC rfl rfl rfl (hC _) ?_|refine ZC rfl rfl rfl (hS _) ?_|refine ZH ?_|refine ZP ?_|refine ZO ?_)
  all_goals try (exfalso;omega)
  all_goals refine Jc hA (by simp) rfl rfl rfl rfl rfl ?_
  all_goals rfl
theorem ZlB (ks:List Kid):∀ v∈ks.map Kid.av,imm 5 v=true:=by
 intro v hv;obtain ⟨k,_,rfl⟩:=List.mem_map.1 hv;rfl
theorem ZeL (ks:List Kid) (hk:ks.length<=4) (st:St) {lv ix ver:Nat} (hr:KRef st lv ix ver ks):S Tb J3 [.ref lv ix ver 0 ks.length] st=some (.lit (ks.map Kid.av),st):=by
 refine Z5 rfl (fun A hA=>?_)
 obtain ⟨es,g,ge⟩:=hr
 have gA:=fun L=>ZV hA (ro:=false) (L:=L) g
 have hwi:∀ L,wIs 4 ver (St.get ⟨A,false,L⟩ lv ix)=true:=fun L=>by rw [gA];simp [wIs]
 repeat' (first|refine ZE ?_|refine ZD ?_|refine ZF rfl ?_|refine ZB rfl ?_|refine ZA ?_|refine JP rfl ?_|refine ZI ?_)
 refine Zr (α:=Nat) (fun i=>[(0,.ref lv ix ver 0 ks.length),(3,.ref A.length 0 i 0 i),(4,.int .i64 i)]) (fun i=>⟨A,false,[.arr 4 i ((ks.take i).map Kid.av)]⟩) (fun i=>i<=ks.length) (fun i=>ks.length-i) 0 rfl rfl (by simp) ?_
 intro i hi
 have hlen:((ks.take i).map Kid.av).length=i:=by rw [List.length_map,List.length_take];omega
 repeat' (first|refine ZE ?_|refine ZD ?_|refine ZF rfl ?_|refine ZB rfl ?_|refine ZA ?_|refine QJ rfl ?_|(refine Zd rfl rfl (fun _=>?_) (fun _=>?_)<;>try (exfalso;omega))|refine ZU rfl ?_|refine ZG rfl ?_|refine ZH ?_|refine ZP ?_|refine Zn ?_|refine ZI ?_|refine ZO ?_|refine Za ?_|refine ZX rfl ?_|refine Zf ?_)
 ·rename_i hlt
  obtain ⟨k,hk2⟩:∃ k,ks[i]?=some k:=⟨ks[i]'(by omega),by simp [show i<ks.length by omega]⟩
  refine Qg rfl rfl (by omega) (hwi _) ?_
  refine Z8 (x:=k.av) rfl (gA _) (ZD1 ge hk2) rfl ?_
  repeat' (first|refine ZD ?_|refine ZF rfl ?_|refine ZB rfl ?_|refine ZA ?_|refine Zb rfl rfl (by omega) ?_|refine QR rfl rfl rfl rfl ?_|refine ZBc rfl rfl rfl (by first|rfl|(simp;done)|(simp;omega)) (by first|omega|(simp<;>omega)) (by decide) rfl rfl rfl ?_|refine Zt ?_|refine Zw ?_)
  refine ⟨i+1,⟨rfl,?_⟩,by omega,by omega⟩
  rw [Zm hk2,List.map_append];rfl
 ·have hi':i=ks.length:=by omega
  subst hi';rw [List.take_length]
  skip
  refine YB hA (.inr rfl) rfl rfl (by simp) (ZlB _) ?_
  rfl
theorem KRef.allRo {st:St} {lv ix ver:Nat} {ks:List Kid} (h:KRef st lv ix ver ks):KRef st.allRo lv ix ver ks:=by
 obtain ⟨es,h1,h2⟩:=h
 exact ⟨es,by rw [JA];exact h1,h2⟩
theorem ZbV (st:St):S Tb J3 [.lit []] st=some (.lit [],st):=by
 refine Z5 rfl (fun A hA=>?_)
 repeat' (first|refine ZE ?_|refine ZD ?_|refine ZF rfl ?_|refine ZB rfl ?_|refine ZA ?_|refine J2 rfl rfl ?_|(refine Zd rfl rfl (fun _=>?_) (fun _=>?_)<;>try (exfalso;omega))|refine ZG rfl ?_|refine JP rfl ?_|refine Qe ?_|refine ZP ?_|refine Zn ?_|refine ZI ?_|refine ZO ?_|refine Za ?_|refine ZX rfl ?_)
 refine YB hA (by simp) rfl rfl (by simp) (by first|(simp [imm];done)|exact fun _ h=>absurd h (by simp)) ?_
 rfl
theorem ZbW (text:List UInt8) (st:St):S Tb Q8 [.agg [.int .i64 (0:Nat),.str text,.nils]] st=some (Nd.av ⟨0,text,some []⟩,st):=by
 refine Z5 rfl (fun A hA=>?_)
 have hC:=fun st=>ZbV st
 repeat' (first|refine ZE ?_|refine ZD ?_|refine ZJ rfl rfl ?_|refine ZS rfl rfl rfl rfl ?_|refine ZB rfl ?_|refine ZA ?_|refine Zj rfl rfl rfl ?_|refine Zh rfl rfl rfl ?_|refine Zu rfl rfl rfl rfl rfl rfl ?_|refine JI rfl rfl rfl (hC _) ?_|refine ZP ?_|refine ZO ?_)
 refine Jc hA (by simp) rfl rfl rfl rfl rfl ?_
 rfl
theorem ZeM (n:Nat) (ks:List Kid) (hk:ks.length<=4) (st:St) {lv ix ver:Nat} (hr:KRef st lv ix ver ks):S Tb Q8 [ndR (n+1) lv ix ver ks.length] st=some (Nd.av ⟨n+1,[],some ks⟩,st):=by
 refine Z5 rfl (fun A hA=>?_)
 have hC:=fun L=>ZeL ks hk _ (hr.push hA (ro:=false) (L:=L)).allRo
 unfold ndR
 repeat' (first|refine ZE ?_|refine ZD ?_|refine ZJ rfl rfl ?_|refine ZS rfl rfl rfl rfl ?_|refine ZB rfl ?_|refine ZA ?_|refine Zj rfl rfl rfl ?_|refine Zh rfl rfl rfl ?_|refine Zu rfl rfl rfl rfl rfl rfl ?_|refine JI rfl rfl rfl (hC _) ?_|refine ZP ?_|refine ZO ?_)
 refine Jc hA (by simp) rfl rfl rfl rfl rfl ?_
 rfl
def ZDJ (p:Nat × Nd):AV:=.agg [.int .u64 p.1,.int .i64 p.2.h,.str p.2.text,.lit (p.2.ks.map Kid.av)]
inductive Its (st:St):AV->ZQ->Prop
 | nil:Its st .nils []
 | ref {lv ix ver n:Nat} {N:ZQ} {es:List AV} (hg:st.get lv ix=some (.arr 4 ver es)) (hn:n=N.length) (he:es.take n=N.map ZDJ):Its st (.ref lv ix ver 0 n) N
theorem Its.push {st:St} {A:List (Bool × List Blk)} {ro:Bool} {L:List Blk} (hA:A=st.A++[(st.ro,st.L)]) {v:AV} {N:ZQ} (h:Its st v N):Its ⟨A,ro,L⟩ v N:=by
 cases h with
 | nil=>exact .nil
 | ref hg hn he=>exact .ref (ZV hA hg) hn he
structure RRd (st:St) (lv ix:Nat) (N:ZQ):Prop where
 ex:∃ l v c0 c1 c2 c3 c4 c5 c6,st.get lv ix=some (.arr 9 0 [.agg [l,v,c0,c1,c2,c3,c4,c5,c6]])/\Its st v N
theorem Zf4 {N:ZQ} {es:List AV} {n:Nat} (hn:n=N.length) (h:es.take n=N.map ZDJ) {i:Nat} {p:Nat × Nd} (hk:N[i]?=some p):es[0+((i:Nat):Int).toNat]?=some (ZDJ p):=by
 have hlt:i<N.length:=(List.getElem?_eq_some_iff.1 hk).1
 have h1:(es.take n)[i]?=some (ZDJ p):=by rw [h,jG,hk];rfl
 rw [List.getElem?_take,if_pos (by omega)] at h1
 rw [show 0+((i:Nat):Int).toNat=i by omega];exact h1
theorem Znt:∀ {N:ZQ} {h:Nat} {x:Nd},lk N h=some x->∃ j:Nat,N[j]?=some (h,x)/\∀ (i:Nat) (p:Nat × Nd),i<j->N[i]?=some p->p.1≠h
 | [],h,x,q=>by simp [lk] at q
 | p::N,h,x,q=>by
  rw [lk] at q
  by_cases c:p.1=h
  ·rw [if_pos c] at q
   refine ⟨0,?_,fun i p hi=>by omega⟩
   obtain ⟨a,b⟩:=p;simp only [Option.some.injEq] at q
   simp only at c
   subst c q;rfl
  ·rw [if_neg c] at q
   obtain ⟨j,h1,h2⟩:=Znt q
   refine ⟨j+1,by simpa using h1,?_⟩
   intro i p' hi hp
   match i with
   | 0=>simp at hp;rw [<- hp];exact c
   | i+1=>exact h2 i p' (by omega) (by simpa using hp)
theorem ZoI {st:St} {lv ix:Nat} {N:ZQ} (hr:RRd st lv ix N) {h j:Nat} {x:Nd} (hj:N[j]?=some (h,x)) (hm:∀ i p,i<j->N[i]?=some p->p.1≠h) (hl:N.length<4294967296) :
 S Tb YA [.ptr lv ix 0 0 0,.int .u64 h] st=some (.int .i64 j,st):=by
 obtain ⟨l,v,c0,c1,c2,c3,c4,c5,c6,h1,h2⟩:=hr
 refine Z5 rfl (fun A hA=>?_)
 have g1:=fun L=>ZV hA (ro:=false) (L:=L) h1
 have hjl:j<N.length:=(List.getElem?_eq_some_iff.1 hj).1
 cases h2 with
 | nil=>simp at hj
 | @ref lv' ix' ver n N es hg hn he =>
  have g2:=fun L=>ZV hA (ro:=false) (L:=L) hg
  have hwi:∀ L,wIs 4 ver (St.get ⟨A,false,L⟩ lv' ix')=true:=fun L=>by rw [g2];simp [wIs]
  repeat' (first|refine ZE ?_|refine ZD ?_|refine ZF rfl ?_|refine ZB rfl ?_|refine ZA ?_|refine ZI ?_)
  refine Zr (α:=Nat) (fun i=>[(0,.ptr lv ix 0 0 0),(1,.int .u64 h),(5,.int .i64 i)]) (fun i=>⟨A,false,[]⟩) (fun i=>i<=j) (fun i=>j-i) 0 rfl rfl (by omega) ?_
  intro i hi
  repeat' (first|refine ZE ?_|refine ZD ?_|refine ZF rfl ?_|refine ZJ rfl rfl ?_|refine ZB rfl ?_|refine ZA ?_|refine Z2 rfl rfl ?_|refine QJ rfl ?_|(refine Zd rfl rfl (fun _=>?_) (fun _=>?_)<;>try (exfalso;omega))|refine ZU rfl ?_|refine Z8 rfl (g1 _) rfl rfl ?_|refine ZH ?_|refine ZI ?_)
  ·obtain ⟨p,hp⟩:∃ p,N[i]?=some p:=⟨N[i]'(by omega),by simp [show i<N.length by omega]⟩
   refine Qg rfl rfl (by omega) (hwi _) ?_
   refine ZJ rfl rfl ?_;refine Z8 (x:=ZDJ p) rfl (g2 _) (Zf4 hn he hp) rfl ?_
   repeat' (first|refine ZE ?_|refine ZD ?_|refine ZF rfl ?_|refine ZB rfl ?_|refine ZA ?_|(refine Zq rfl rfl (fun _=>?_) (fun _=>?_)<;>try (exfalso;omega))|refine ZU rfl ?_|refine ZG rfl ?_|refine Zb rfl rfl (by omega) ?_|refine ZH ?_|refine ZP ?_|refine ZO ?_|refine ZY ?_|refine Zt ?_|refine QP ?_|refine Zw ?_|refine Y4 ?_)
   ·rename_i q
    have:i=j:=by
     rcases Nat.lt_or_ge i j with w|w
     ·exact absurd (by omega) (hm i p w hp)
     ·omega
    subst this
    refine Ze hA (by simp) rfl rfl rfl rfl ?_
    rfl
   ·rename_i q
    have:i≠j:=by
     intro w;subst w;rw [hj] at hp
     have:=Option.some.inj hp
     subst this;exact q rfl
    exact ⟨i+1,⟨rfl,rfl⟩,by omega,by omega⟩
noncomputable def ZNS (N:ZQ) (t:Tr) (a n:Int) (s:List UInt8):Tr :=
 if n=0/\s=[] then t
 else Yf N (Yf N (Xf N t.h t a).1 (ZAX s)) (Xf N (Xf N t.h t a).2.h (Xf N t.h t a).2 n).2
structure ReplOk (N:ZQ) (t:Tr) (a n:Int) (s:List UInt8) (r:Tr):Prop where
 ve:VE N r
 txt:r.txt N=(t.txt N).take a.toNat++s++(t.txt N).drop (a+n).toNat
 bytes:r.bytes=t.bytes-n+s.length
theorem ZYx {N:ZQ} (hN:GoodN N) {t:Tr} (ht:VE N t) {a n:Int} {s:List UInt8} (h0:0<=a) (h1:0<=n) (h2:a+n<=t.bytes) (hb:t.bytes<=65536) (hs:t.bytes-n+s.length<=65536):ReplOk N t a n s (ZNS N t a n s):=by
 unfold ZNS
 split
 ·rename_i h
  obtain ⟨rfl,rfl⟩:=h
  exact ⟨ht,by simp,by simp⟩
 ·have c1:=ZHI hN t.h t a ht rfl h0 (by omega) hb
  generalize Xf N t.h t a=q at *
  obtain ⟨l,m⟩:=q
  simp only at *
  have hm:=c1.rb;have hl:=c1.lb
  simp only at hm hl
  have c2:=ZHI hN m.h m n c1.r rfl h1 (by omega) (by omega)
  generalize Xf N m.h m n=q at *
  obtain ⟨d,r⟩:=q
  simp only at *
  have hr:=c2.rb
  simp only at hr
  obtain ⟨b1,b2,b3⟩:=ZLY hN (s:=s) (by omega)
  have k1:=Xe hN c1.l b1 (by rw [b3];simp only;omega)
  have k2:=Xe hN k1.ve c2.r (by rw [k1.bytes,b3];simp only;omega)
  refine ⟨k2.ve,?_,by rw [k2.bytes,k1.bytes,b3];simp only;omega⟩
  rw [k2.txt,k1.txt,b2];have e1:=c1.lt;have e2:=c1.rt;have e3:=c2.rt
  simp only at e1 e2 e3 ⊢
  rw [e1,e3,e2,List.drop_drop,show a.toNat+n.toNat=(a+n).toNat by omega]
theorem ZjQ {N:ZQ} (hN:GoodN N) {st:St} {lv ix:Nat} (hr:Rd st lv ix N) {t:Tr} (ht:VE N t) {a n:Int} {s:List UInt8} (h0:0<=a) (h1:0<=n) (h2:a+n<=t.bytes) (hb:t.bytes<=65536) (hs:t.bytes-n+s.length<=65536) :
 S Tb ZCE [.ptr lv ix 0 0 0,t.av,.int .i64 a,.int .i64 n,.str s] st=some (.tup [(ZNS N t a n s).own.av,.int .i64 0],st):=by
 refine Z5 rfl (fun A hA=>?_)
 have hrp:=fun L=>hr.push hA (ro:=false) (L:=L)
 have hC:=fun L=>ZFB (hrp L) ht hb
 have hB:=fun st=>Xn t ht.pos.1 (by omega) st
 have hpos:=ht.pos.2
 by_cases hz:n=0/\s=[]
 ·have he:ZNS N t a n s=t:=by unfold ZNS;rw [if_pos hz]
  rw [he];obtain ⟨rfl,rfl⟩:=hz
  have hO:=fun st=>Zfn t ht.pos.1 st
  generalize t.own=o at *
  repeat' (first|refine ZE ?_|refine ZD ?_|refine ZF rfl ?_|refine Z4 rfl ?_|refine JH rfl rfl ?_|refine Zk rfl rfl rfl rfl ?_|refine ZB rfl ?_|refine ZA ?_|refine Zkn rfl rfl ?_|(refine Zd rfl rfl (fun _=>?_) (fun _=>?_)<;>try (exfalso;omega))|(refine QQ rfl rfl (fun _=>?_) (fun _=>?_)<;>try (exfalso;omega))|(refine Zq rfl rfl (fun _=>?_) (fun _=>?_)<;>try (exfalso;omega))|(refine Zp rfl rfl (fun _=>?_) (fun _=>?_)<;>try (exfalso;omega))|(refine Yu rfl rfl (fun _=>?_) (fun _=>?_)<;>try contradiction)|refine ZU rfl ?_|refine ZG rfl ?_|refine Ql rfl rfl (by omega) ?_|refine Zj rfl rfl rfl ?_|refine Zh rfl rfl rfl ?_|refine Zu rfl rfl rfl rfl rfl rfl ?_|refine ZS rfl rfl rfl (Zl _) ?_|refine Zu rfl rfl rfl (QC _ _ _) (QT _ _) rfl ?_|refine Zy rfl (Zv _) (QB _) ?_|refine ZC rfl rfl (by first|rfl|(simp only [List.nil_append,List.append_nil,List.cons_append,Zg,ZW,ZZ];first|done|rfl)) (hC _) ?_|refine ZC rfl rfl (by first|rfl|(simp only [List.nil_append,List.append_nil,List.cons_append,Zg,ZW,ZZ];first|done|rfl)) (hB _) ?_|refine ZC rfl rfl (by first|rfl|(simp only [List.nil_append,List.append_nil,List.cons_append,Zg,ZW,ZZ];first|done|rfl)) (hO _) ?_|refine ZWR rfl rfl ?_|refine ZH ?_|refine ZP ?_|refine ZO ?_|refine ZY ?_)
  all_goals try (simp only [jB,if_false] at *)
  all_goals try (exfalso;omega)
  all_goals first|(exact ZHB hA (.inr rfl) rfl rfl rfl rfl)|(exact absurd ⟨by assumption,by assumption⟩ hz)
 ·have hK1:=fun L=>Zk8 hN t.h (hrp L) ht rfl a h0 (by omega) hb
  have c1:=ZHI hN t.h t a ht rfl h0 (by omega) hb
  have hrm:ZNS N t a n s=Yf N (Yf N (Xf N t.h t a).1 (ZAX s)) (Xf N (Xf N t.h t a).2.h (Xf N t.h t a).2 n).2:=by unfold ZNS;rw [if_neg hz]
  have hO0:=(ZYx hN ht h0 h1 h2 hb hs).ve.pos.1
  generalize Xf N t.h t a=q at *
  obtain ⟨l,m⟩:=q
  simp only at *
  have hm:=c1.rb;have hl:=c1.lb;have vl:=c1.l;have vm:=c1.r
  simp only at hm hl vl vm
  have hK2:=fun L=>Zk8 hN m.h (hrp L) vm rfl n h1 (by omega) (by omega)
  have c2:=ZHI hN m.h m n vm rfl h1 (by omega) (by omega)
  generalize Xf N m.h m n=q at *
  obtain ⟨d,r⟩:=q
  simp only at *
  have vr:=c2.r;have hrb:=c2.rb
  simp only at vr hrb
  obtain ⟨b1,b2,b3⟩:=ZLY hN (s:=s) (by omega)
  have hBu:=fun st=>ZeH hN s (by omega) st
  generalize ZAX s=b at *
  have hc1:=fun L=>ZK9 hN (hrp L) vl b1
  have k1:=(Xe hN vl b1 (by omega)).ve
  generalize Yf N l b=z1 at *
  have hc2:=fun L=>ZK9 hN (hrp L) k1 vr
  generalize Yf N z1 r=z2 at *
  rw [hrm] at hO0 ⊢
  have hO:=fun st=>Zfn z2 hO0 st
  generalize z2.own=zo at *
  have hmin:∀ x:Int,min x 65536<=x/\min x 65536<=65536/\(min x 65536=x\/min x 65536=65536):=fun x=>by omega
  have hmin2:=hmin s.length
  repeat' (first|refine ZE ?_|refine ZD ?_|refine ZF rfl ?_|refine Z4 rfl ?_|refine JH rfl rfl ?_|refine Zk rfl rfl rfl rfl ?_|refine Z0 rfl rfl ?_|refine ZB rfl ?_|refine ZA ?_|refine Qp rfl ?_|(refine Zd rfl rfl (fun _=>?_) (fun _=>?_)<;>try (exfalso;omega))|(refine QQ rfl rfl (fun _=>?_) (fun _=>?_)<;>try (exfalso;omega))|(refine Zq rfl rfl (fun _=>?_) (fun _=>?_)<;>try (exfalso;omega))|(refine Zp rfl rfl (fun _=>?_) (fun _=>?_)<;>try (exfalso;omega))|(refine Yu rfl rfl (fun _=>?_) (fun _=>?_)<;>try contradiction)|refine ZU rfl ?_|refine ZG rfl ?_|refine Ql rfl rfl (by omega) ?_|refine Zj rfl rfl rfl ?_|refine Zh rfl rfl rfl ?_|refine Zu rfl rfl rfl rfl rfl rfl ?_|refine ZS rfl rfl rfl (Zl _) ?_|refine Zu rfl rfl rfl (QC _ _ _) (QT _ _) rfl ?_|refine Zy rfl (Zv _) (QB _) ?_|refine ZC rfl rfl (by first|rfl|(simp only [List.nil_append,List.append_nil,List.cons_append,Zg,ZW,ZZ];first|done|rfl)) (hC _) ?_|refine ZC rfl rfl (by first|rfl|(simp only [List.nil_append,List.append_nil,List.cons_append,Zg,ZW,ZZ];first|done|rfl)) (hB _) ?_|refine ZC rfl rfl (by first|rfl|(simp only [List.nil_append,List.append_nil,List.cons_append,Zg,ZW,ZZ];first|done|rfl)) (hK1 _) ?_|refine ZC rfl rfl (by first|rfl|(simp only [List.nil_append,List.append_nil,List.cons_append,Zg,ZW,ZZ];first|done|rfl)) (hK2 _) ?_|refine ZC rfl rfl (by first|rfl|(simp only [List.nil_append,List.append_nil,List.cons_append,Zg,ZW,ZZ];first|done|rfl)) (hBu _) ?_|refine ZC rfl rfl (by first|rfl|(simp only [List.nil_append,List.append_nil,List.cons_append,Zg,ZW,ZZ];first|done|rfl)) (hc1 _) ?_|refine ZC rfl rfl (by first|rfl|(simp only [List.nil_append,List.append_nil,List.cons_append,Zg,ZW,ZZ];first|done|rfl)) (hc2 _) ?_|refine ZC rfl rfl (by first|rfl|(simp only [List.nil_append,List.append_nil,List.cons_append,Zg,ZW,ZZ];first|done|rfl)) (hO _) ?_|refine ZWR rfl rfl ?_|refine ZH ?_|refine ZP ?_|refine ZO ?_|refine ZY ?_)
  all_goals try (simp only [jB,if_false] at *)
  all_goals try (exfalso;omega)
  all_goals first|(exact ZHB hA (.inr rfl) rfl rfl rfl rfl)|(exact absurd ⟨by assumption,by assumption⟩ hz)
def hd (N:ZQ):Nat:=1*65536+N.length
def Ord (N:ZQ):Prop:=∀ i p,N[i]?=some p->p.1=1*65536+i
theorem ZiL:∀ {N:ZQ} {o:Nat},(∀ p∈N,p.1≠o)->lk N o=none
 | [],o,_=>rfl
 | p::N,o,h=>by
  rw [lk,if_neg (h p (by simp))]
  exact ZiL (fun q hq=>h q (by simp [hq]))
theorem ZST:∀ {N M:ZQ} {o:Nat},lk (N++M) o=(lk N o).or (lk M o)
 | [],M,o=>by simp [lk]
 | p::N,M,o=>by
  rw [List.cons_append,lk,lk]
  by_cases c:p.1=o
  ·rw [if_pos c,if_pos c];rfl
  ·rw [if_neg c,if_neg c,ZST]
theorem ZVi {N M:ZQ} {o:Nat} {x:Nd} (h:lk N o=some x):lk (N++M) o=some x:=by rw [ZST,h];rfl
theorem Ord.fresh {N:ZQ} (h:Ord N):lk N (hd N)=none:=by
 refine ZiL (fun p hp=>?_)
 obtain ⟨i,hi⟩:=List.mem_iff_getElem?.1 hp;have h1:=h i p hi;have h2:=(List.getElem?_eq_some_iff.1 hi).1;unfold hd;omega
theorem Ord.snoc {N:ZQ} (h:Ord N) (x:Nd):Ord (N++[(hd N,x)]):=by
 intro i p hp
 rcases Nat.lt_trichotomy i N.length with q|q|q
 ·rw [jL q] at hp;exact h i p hp
 ·subst q
  rw [List.getElem?_append_right (Nat.le_refl _)] at hp
  simp at hp
  rw [<- hp];rfl
 ·have:=(List.getElem?_eq_some_iff.1 hp).1
  simp at this;omega
theorem ZiM {N:ZQ} (h:Ord N) (x:Nd):lk (N++[(hd N,x)]) (hd N)=some x:=by
 rw [ZST,h.fresh,lk,if_pos rfl];rfl
theorem lk_snoc_inv {N:ZQ} {x y:Nd} {o:Nat} (h:lk (N++[(hd N,x)]) o=some y):lk N o=some y\/(o=hd N/\y=x):=by
 rw [ZST] at h
 cases q:lk N o with
 | some z=>rw [q] at h;exact .inl h
 | none =>
  rw [q] at h;simp only [Option.none_or,lk] at h
  by_cases c:hd N=o
  ·rw [if_pos c] at h;exact .inr ⟨c.symm,(Option.some.inj h).symm⟩
  ·rw [if_neg c] at h;simp at h
theorem GoodN.snoc {N:ZQ} (hN:GoodN N) {x:Nd} (hx:NdOk x) (hk:∀ k∈x.ks,k.at_≠0/\∃ y,lk N k.at_=some y/\y.h+1=x.h/\y.mea=k.m):GoodN (N++[(hd N,x)]):=by
 intro o y hy
 rcases lk_snoc_inv hy with q|⟨_,rfl⟩
 ·refine ⟨(hN o y q).1,fun k hk=>?_⟩
  obtain ⟨h0,z,h1,h2⟩:=(hN o y q).2 k hk;exact ⟨h0,z,ZVi h1,h2⟩
 ·refine ⟨hx,fun k hk'=>?_⟩
  obtain ⟨h0,z,h1,h2⟩:=hk k hk';exact ⟨h0,z,ZVi h1,h2⟩
theorem ZQS:GoodN []:=fun o x h=>by simp [lk] at h
theorem ZnA:Ord []:=fun i p h=>by simp at h
def ZYy (P:ZQ->Tr->ZQ->Kid->Prop):ZQ->List Tr->ZQ->List Kid->Prop
 | N,[],N',l=>N'=N/\l=[]
 | N,t::ts,N',l=>∃ N1 k l1,P N t N1 k/\ZYy P N1 ts N' l1/\l=k::l1
def WrH:Nat->ZQ->Tr->ZQ->Kid->Prop
 | 0,N,t,N',k=>∃ s ks,t=.mk 0 0 .zero s ks/\ks.getD []=[]/\ZAc s/\N'=N++[(hd N,⟨0,s,some []⟩)]/\k=⟨hd N,Ye s⟩
 | n + 1, N, t, N', k => ∃ ts N1 l, t = .mk 0 (n + 1) .zero [] (some ts) /\ (2 <= ts.length /\ ts.length <= 4) /\ n <= 15 /\ ZYy (WrH n) N ts N1 l /\ l.length = ts.length /\ (∀ k ∈ l, KidOk n k) /\ (QK (l.map Kid.m)).b <= 65536 /\ ZDI N1 n l /\
     N'=N1++[(hd N1,⟨n+1,[],some l⟩)]/\k=⟨hd N1,QK (l.map Kid.m)⟩
theorem ZQT (s:List UInt8):s.countP Ji<=s.countP Qm:=by
 refine List.countP_mono_left (fun b _ h=>?_)
 unfold Ji at h;unfold Qm
 simp at h ⊢
 omega
theorem NdOk.kid {y:Nd} (h:NdOk y) (hl:(leastB y.h:Int)<=y.mea.b) {a:Nat} (ha:Jt a):KidOk y.h ⟨a,y.mea⟩:=by
 rcases h with h|⟨n,ks,h⟩
 ·have hm:y.mea=Ye y.text:=by unfold Nd.mea;rw [if_pos h.h]
  have h1:=h.hi;have h2:=ZQT y.text;have h3:=List.countP_le_length (p:=Qm) (l:=y.text);refine ⟨ha,hl,?_,?_,?_,?_,?_⟩
  all_goals simp only [hm,Ye,h.h,mostB]
  all_goals omega
 ·have e:=h.eq
  subst e;have hms:Nd.mea ⟨n+1,[],some ks⟩=QK (ks.map Kid.m):=rfl;have hs:=h.sum;have hhi:=h.hi;have hk:=h.kid
  have key:∀ (l:List Kid),(∀ k∈l,KidOk n k)->(QK (l.map Kid.m)).b<=l.length*(mostB n:Int)/\0<=(QK (l.map Kid.m)).r/\(QK (l.map Kid.m)).r<=(QK (l.map Kid.m)).b/\0<=(QK (l.map Kid.m)).l/\(QK (l.map Kid.m)).l<=(QK (l.map Kid.m)).r:=by
   intro l
   induction l with
   | nil=>intro _;simp [QK,Mea.zero]
   | cons k l ih =>
    intro hk
    obtain ⟨i1,i2,i3,i4,i5⟩:=ih (fun k hk'=>hk k (by simp [hk']))
    have hk1:=hk k (by simp)
    have a1:=hk1.hi;have a2:=hk1.r0;have a3:=hk1.rb;have a4:=hk1.l0;have a5:=hk1.lr;simp only [jC,QK,Mea.add,List.length_cons]
    have:((l.length+1:Nat):Int)*(mostB n:Int)=l.length*(mostB n:Int)+mostB n:=by
     rw [Int.natCast_add,Int.add_mul];simp
    refine ⟨?_,?_,?_,?_,?_⟩<;>omega
  obtain ⟨k1,k2,k3,k4,k5⟩:=key ks hk
  have h4:(ks.length:Int)*(mostB n:Int)<=4*(mostB n:Int):=Int.mul_le_mul_of_nonneg_right (by omega) (by omega)
  have hm:=ZK6 n;refine ⟨ha,hl,?_,?_,?_,?_,?_⟩
  all_goals simp only [hms,mostB]
  all_goals omega
structure Wrote (n:Nat) (N:ZQ) (t:Tr) (N':ZQ) (k:Kid) (T:ZQ):Prop where
 wr:WrH n N t N' k
 app:N'=N++T
 good:GoodN N'
 ord:Ord N'
 live:∃ y,lk N' k.at_=some y/\NdOk y/\y.h=n/\y.mea=k.m
 hnd:Jt k.at_
 bytes:k.m.b=t.bytes
 few:4*(T.length:Int)<=t.bytes+4
 big:Big t->4*(T.length:Int)+4<=t.bytes
theorem ZlC {n:Nat} (hn:n<=15) (ih:∀ t,Val [] t->t.h=n->∀ N,GoodN N->Ord N->4*(N.length:Int)+t.bytes<=65000->∃ N' k T,Wrote n N t N' k T) :
 ∀ ts:List Tr,(∀ t∈ts,Val [] t/\t.h=n/\Big t)->∀ N,GoodN N->Ord N->4*(N.length:Int)+Tr.bytesL ts<=65000 ->
  ∃ N' l T,ZYy (WrH n) N ts N' l/\N'=N++T/\GoodN N'/\Ord N'/\l.length=ts.length/\(∀ k∈l,KidOk n k)/\ZDI N' n l/\(QK (l.map Kid.m)).b=Tr.bytesL ts/\4*(T.length:Int)+4*ts.length<=Tr.bytesL ts/\(∀ k∈l,k.at_≠0):=by
 intro ts
 induction ts with
 | nil=>intro _ N g o _;exact ⟨N,[],[],⟨rfl,rfl⟩,by simp,g,o,rfl,by simp,fun k hk=>by simp at hk,rfl,by simp [Tr.bytesL],by simp⟩
 | cons t ts iht =>
  intro h N g o hb
  obtain ⟨v,hh,big⟩:=h t (by simp)
  rw [Tr.bytesL] at hb
  have hp:=Tr.bytesL_nonneg (l:=ts) (fun u hu=>(h u (by simp [hu])).1.pos.1.nonneg)
  obtain ⟨N1,k,T1,w⟩:=ih t v hh N g o (by omega)
  have w1:=w.big big;have wa:=w.app
  have hlen:N1.length=N.length+T1.length:=by rw [wa,List.length_append]
  obtain ⟨N',l,T,c1,c2,c3,c4,c5,c6,c7,c8,c9,c10⟩:=iht (fun u hu=>h u (by simp [hu])) N1 w.good w.ord (by omega)
  obtain ⟨y,y1,y2,y3,y4⟩:=w.live
  have hk:KidOk n k:=by
   have hs:=v.size ZQS big
   have:=y2.kid (a:=k.at_) (by rw [y3,y4,w.bytes,<- hh];exact hs) w.hnd
   rw [y3,y4] at this;exact this
  refine ⟨N',k::l,T1++T,⟨N1,k,l,w.wr,c1,rfl⟩,by rw [c2,wa,List.append_assoc],c3,c4,by simp [c5],?_,?_,?_,?_,?_⟩
  ·intro k' hk'
   rcases List.mem_cons.1 hk' with rfl|q
   ·exact hk
   ·exact c6 k' q
  ·intro k' hk'
   rcases List.mem_cons.1 hk' with rfl|q
   ·exact ⟨y,by rw [c2];exact ZVi y1,y2,y3,y4⟩
   ·exact c7 k' q
  ·simp only [jC,QK,Mea.add,Tr.bytesL,c8,w.bytes]
  ·simp only [List.length_append,List.length_cons,Tr.bytesL];omega
  ·intro k' hk'
   rcases List.mem_cons.1 hk' with rfl|q
   ·intro q;exact absurd w.hnd.2.1 (by rw [q];decide)
   ·exact c10 k' q
theorem Zos:∀ n t,Val [] t->t.h=n->∀ N,GoodN N->Ord N->4*(N.length:Int)+t.bytes<=65000->∃ N' k T,Wrote n N t N' k T:=by
 intro n
 have hnd:∀ N:ZQ,4*(N.length:Int)<=65000->Jt (hd N):=by
  intro N h
  unfold hd;constructor<;>omega
 induction n with
 | zero =>
  intro t v hh N g o hb
  cases v with
  | kept h0 hx=>simp [lk] at hx
  | @leaf s k h1 h2 hk =>
   have hx:NdOk ⟨0,s,some []⟩:=.inl ⟨rfl,h1,h2,rfl⟩
   have e:(Tr.mk 0 0 .zero s k).bytes=s.length:=by rw [Tr.bytes,Tr.bytesO_getD,hk];simp [Tr.bytesL,Mea.zero]
   rw [e] at hb
   refine ⟨_,_,[(hd N,⟨0,s,some []⟩)],⟨⟨s,k,rfl,hk,⟨h1,h2⟩,rfl,rfl⟩,rfl,g.snoc hx (fun k hk=>by simp [Nd.ks] at hk),o.snoc _,⟨_,ZiM o _,hx,rfl,rfl⟩,hnd N (by omega),?_,?_,?_⟩⟩
   ·simp only [Ye,e]
   ·rw [e];simp;omega
   ·intro hb;have:=hb rfl;simp;omega
  | inner hh=>simp [Tr.h] at *
 | succ n ih =>
  intro t v hh N g o hb
  cases v with
  | kept h0 hx=>simp [lk] at hx
  | leaf=>simp [Tr.h] at hh
  | @inner h ts h16 h2 h4 hl hb8 hv =>
   obtain rfl:h=n:=by simpa [Tr.h] using hh
   have e:(Tr.mk 0 (h+1) .zero [] (some ts)).bytes=Tr.bytesL ts:=by rw [Tr.bytes,Tr.bytesO];simp [Mea.zero]
   rw [e] at hb
   obtain ⟨N1,l,T,c1,c2,c3,c4,c5,c6,c7,c8,c9,c10⟩:=ZlC (n:=h) (by omega) ih ts (fun t ht=>⟨hv t ht,hl t ht,fun q=>hb8 t ht (by rw [<- hl t ht];exact q)⟩) N g o hb
   have hx:NdOk ⟨h+1,[],some l⟩:=.inr ⟨h,l,rfl,by omega,by omega,by omega,c6,by rw [c8];omega⟩
   have hlen:N1.length=N.length+T.length:=by rw [c2,List.length_append]
   refine ⟨_,_,T++[(hd N1,⟨h+1,[],some l⟩)],⟨⟨ts,N1,l,rfl,⟨h2,h4⟩,by omega,c1,c5,c6,by rw [c8];omega,c7,rfl,rfl⟩,?_,c3.snoc hx ?_,c4.snoc _,⟨_,ZiM c4 _,hx,rfl,rfl⟩,hnd N1 (by omega),?_,?_,?_⟩⟩
   ·rw [<- List.append_assoc,<- c2]
   ·intro k hk
    obtain ⟨y,y1,y2,y3,y4⟩:=c7 k hk
    exact ⟨c10 k hk,y,y1,by rw [y3],y4⟩
   ·simp only [c8,e]
   ·rw [e];simp only [List.length_append,List.length_singleton];omega
   ·intro _;rw [e];simp only [List.length_append,List.length_singleton];omega
theorem ZOS {P:ZQ->Tr->ZQ->Kid->Prop} (hP:∀ N t N' k,P N t N' k->N.length<N'.length):∀ ts N N' l,ZYy P N ts N' l->N.length<=N'.length
 | [],N,N',l,h=>by rw [h.1];exact Nat.le_refl _
 | t::ts,N,N',l,⟨N1,k,l1,h1,h2,_⟩=>by
  have:=hP _ _ _ _ h1
  have:=ZOS hP ts N1 N' l1 h2
  omega
theorem ZiN:∀ n N t N' k,WrH n N t N' k->N.length<N'.length
 | 0,N,t,N',k,⟨s,ks,_,_,_,h,_⟩=>by rw [h];simp
 | n+1,N,t,N',k,⟨ts,N1,l,_,_,_,h,_,_,_,_,h2,_⟩=>by
  have:=ZOS (ZiN n) ts N N1 l h
  rw [h2];simp;omega
def X4 (N:ZQ):AR:={ JV 700 3 with n:=700-N.length,states:=(List.range 700).map fun (j:Nat)=>if j<N.length then (1:Int) else 0,nodes:=N,allocs:=N.length }
theorem ZlD:X4 []=JV 700 3:=by
 unfold X4 JV
 congr 1
theorem ZYz {n k:Nat} (h:k<n):((List.range n).map fun (j:Nat)=>if j<k then (1:Int) else 0).set k 1=(List.range n).map fun (j:Nat)=>if j<k+1 then (1:Int) else 0:=by
 apply List.ext_getElem
 ·simp
 ·intro j hj hj'
  simp only [List.getElem_set,List.getElem_map,List.getElem_range]
  by_cases q:k=j
  ·subst q;simp
  ·rw [if_neg q]
   have:j<k+1↔j<k:=by omega
   simp only [this]
theorem Zha (N:ZQ) (x:Nd) (hl:N.length<700):(X4 N).alloc N.length 1 x=X4 (N++[(hd N,x.copy)]):=by
 unfold AR.alloc AR.take X4;simp only [List.length_append,List.length_singleton,ZYz hl];rfl
theorem Zf5 {N:ZQ} (ho:Ord N) (hl:N.length<700):CanTake (X4 N) (699-N.length) N.length 1 where
 n:=by simp only [X4];omega
 blk:=by
  simp only [X4,JV]
  rw [jG,List.getElem?_range (by omega)]
  simp only [Option.map_some]
  congr 1;omega
 st:=by simp [X4];omega
 s16:=by omega
 gen:=by
  simp only [X4,JV];rw [List.getElem?_replicate,if_pos hl];rfl
 g1:=by omega
 g2:=by omega
 big:=by simp only [X4];omega
 new:=by simp only [X4];exact ho.fresh
 al:=by simp only [X4];omega
def arK (lv b:Nat):List (Nat × Nat):=[(lv,b),(lv,b+1),(lv,b+2),(lv,b+3),(lv,b+4),(lv,b+5)]
def arB (lv b:Nat) (r:AR):List Blk:=[r.b0,r.b1,r.b2,r.b3 lv b,r.b4,r.b5 lv b]
def Ys (st:St) (lv b:Nat) (r:AR):St:=Yq st (arK lv b) (arB lv b r)
theorem ZY0 (lv b:Nat):(arK lv b).Nodup:=by simp [arK]
section
variable {st:St} {lv b:Nat} {r:AR}
theorem Has.cl (h:Has st lv b r):Cl st (arK lv b) (arB lv b r):=by
 refine ⟨ZY0 lv b,rfl,fun k hk=>?_,fun j l i c h1 h2=>?_⟩
 ·simp only [arK,List.mem_cons,List.not_mem_nil,or_false] at hk
  rcases hk with rfl|rfl|rfl|rfl|rfl|rfl<;>exact h.wr
 ·match j,h1,h2 with
  | 0,h1,h2=>obtain ⟨rfl,rfl⟩:=Prod.mk.inj (Option.some.inj h1);obtain rfl:=Option.some.inj h2;exact h.h0
  | 1,h1,h2=>obtain ⟨rfl,rfl⟩:=Prod.mk.inj (Option.some.inj h1);obtain rfl:=Option.some.inj h2;exact h.h1
  | 2,h1,h2=>obtain ⟨rfl,rfl⟩:=Prod.mk.inj (Option.some.inj h1);obtain rfl:=Option.some.inj h2;exact h.h2
  | 3,h1,h2=>obtain ⟨rfl,rfl⟩:=Prod.mk.inj (Option.some.inj h1);obtain rfl:=Option.some.inj h2;exact h.h3
  | 4,h1,h2=>obtain ⟨rfl,rfl⟩:=Prod.mk.inj (Option.some.inj h1);obtain rfl:=Option.some.inj h2;exact h.h4
  | 5,h1,h2=>obtain ⟨rfl,rfl⟩:=Prod.mk.inj (Option.some.inj h1);obtain rfl:=Option.some.inj h2;exact h.h5
  | n+6,h1,h2=>simp [arK] at h1
theorem Has.of_cl (h:Cl st (arK lv b) (arB lv b r)):Has st lv b r :=
 ⟨h.wr (lv,b) (by simp [arK]),h.get 0 _ _ _ rfl rfl,h.get 1 _ _ _ rfl rfl,h.get 2 _ _ _ rfl rfl,h.get 3 _ _ _ rfl rfl,h.get 4 _ _ _ rfl rfl,h.get 5 _ _ _ rfl rfl⟩
theorem Has.same (h:Has st lv b r):Ys st lv b r=st:=h.cl.same
theorem Has.put (h:Has st lv b r) (r':AR):Has (Ys st lv b r') lv b r':=.of_cl (h.cl.put rfl rfl)
theorem Has.out (h:Has st lv b r) (r':AR) {l i:Nat} (hn:¬ (l=lv/\b<=i/\i<=b+5)):(Ys st lv b r').get l i=st.get l i:=by
 refine h.cl.out rfl rfl (fun q=>hn ?_)
 simp only [arK,List.mem_cons,jP,List.not_mem_nil,or_false] at q;omega
theorem ZoJ (r':AR):(Ys st lv b r').A.length=st.A.length:=ZeC _ _ _
theorem Has.le (h:Has st lv b r):lv<=st.A.length:=St.get_le h.h5
theorem Has.push (h:Has st lv b r) {A:List (Bool × List Blk)} {ro:Bool} {L:List Blk} (hA:A=st.ps):Has ⟨A,ro,L⟩ lv b r:=.of_cl (h.cl.push hA)
theorem ZcE {A:List (Bool × List Blk)} {ro:Bool} {L:List Blk} (hA:A=st.ps) (hl:lv<=st.A.length) {r':AR}:Ys ⟨A,ro,L⟩ lv b r'=⟨(Ys st lv b r').ps,ro,L⟩:=by
 refine Zb4 hA (fun k hk=>?_)
 simp only [arK,List.mem_cons,List.not_mem_nil,or_false] at hk
 rcases hk with rfl|rfl|rfl|rfl|rfl|rfl<;>exact hl
theorem Zhb (h:Has st lv b r) (s g:Nat) (x:Nd):Yx st lv b r s g x=Ys st lv b (r.alloc s g x):=by
 have e:∀ X Y,Yx X lv b r s g x=Y->X=st->Yx st lv b r s g x=Y:=fun X Y h1 h2=>by rw [<- h2];exact h1
 refine e (Ys st lv b r) _ ?_ h.same;unfold Yx QZ Ys;rw [ZDE (j:=3) (ZY0 lv b) rfl rfl,ZDE (j:=0) (ZY0 lv b) rfl rfl,ZDE (j:=4) (ZY0 lv b) rfl rfl,ZDE (j:=5) (ZY0 lv b) rfl rfl];rfl
end
theorem XL {O:Orc} {k:List Fr} {Q:YY} {e:Env} {st:St} {keep:List Nat} {is:List PI} {d:Nat} {α:Type} {f:α->AV} {l:List α} {w:Nat} {x i:Opd} {n:Int} {a:α} (hx:Zo e x=some (.lit (l.map f))) (hi:Zo e i=some (.int .i64 n)) (ha:0<=n/\l[n.toNat]?=some a) (hw:∀ a,(f a).wide=some w)
 (h:Is O is keep k Q ((d,.lptr (f a) 0)::e) st):Is O (⟨some d,none,false,.ixS w x i⟩::is) keep k Q e st:=by
 have hlt:=(List.getElem?_eq_some_iff.1 ha.2).1
 refine Qc hx hi (by omega) hw (fun b hb=>?_)
 rw [ha.2] at hb;rw [<- Option.some.inj hb];exact h
theorem ZjR {st:St} {lv b:Nat} {r:AR} (h:Has st lv b r) {k s g:Nat} (hc:CanTake r k s g) (n:Nat) (ks:List Kid) (hx:NdOk ⟨n+1,[],some ks⟩) (hL:ZDI r.nodes n ks) :
 S Tb Qh [.ptr lv (b+5) 0 0 0,Nd.av ⟨n+1,[],some ks⟩] st=some (.tup [.int .u64 ((g*65536+s:Nat):Int),.int .i64 0],Yx st lv b r s g ⟨n+1,[],some ks⟩):=by
 refine ZNQ rfl (fun A hA=>?_)
 have hN:=fun st=>ZYh ⟨n+1,[],some ks⟩ hx st
 have hk4:ks.length<=4:=hx.len
 have hn15:n<=15:=by
  rcases hx with hl|⟨m,l,hi⟩
  ·have:=hl.h;simp at this
  ·have h1:=hi.n15
   have h2:=congrArg Nd.h hi.eq
   simp only at h2
   omega
 simp only [Nd.av,slV] at hN ⊢
 have g5:=fun L=>ZV hA (ro:=false) (L:=L) h.h5
 have g4:=fun L=>ZV hA (ro:=false) (L:=L) h.h4
 unfold AR.b5 at g5;unfold AR.b4 at g4
 repeat' (first|refine ZE ?_|refine ZD ?_|refine ZF rfl ?_|refine ZJ rfl rfl ?_|refine ZS rfl rfl rfl rfl ?_|refine ZB rfl ?_|refine ZA ?_|refine QH rfl ?_|(refine Zp rfl rfl (fun _=>?_) (fun _=>?_)<;>try (exfalso;omega))|refine ZG rfl ?_|refine Q4 rfl rfl rfl rfl ?_|refine Zh rfl rfl rfl ?_|refine ZC rfl rfl rfl (hN _) ?_|refine ZH ?_|refine ZI ?_)
 all_goals try (exfalso;omega)
 have hle:=St.get_le h.h3
 refine Zr (α:=Nat × List Blk) (fun p=>[(0,.ptr lv (b+5) 0 0 0),(3,.ptr A.length 0 0 0 0),(23,.lit (ks.map Kid.av)),(24,.int .i64 ks.length),(25,.int .i64 p.1)]) (fun p=>⟨A,false,.arr 3 0 [.agg [.int .i64 ((n+1:Nat):Int),.str [],.lit (ks.map Kid.av)]]::p.2⟩) (fun p=>p.1<=ks.length) (fun p=>ks.length-p.1) (0,[]) rfl rfl (by simp) ?_
 rintro ⟨i,G⟩ hi
 simp only at hi ⊢
 rcases Nat.lt_or_ge i ks.length with hlt|hge
 ·obtain ⟨kd,hk'⟩:∃ k,ks[i]?=some k:=⟨ks[i]'(by omega),by simp [hlt]⟩
  obtain ⟨y,y1,y2,y3,y4⟩:=hL kd (jM hk')
  have hlk:=fun L z=>ZSO (g4 L) y1 z
  have hMe:=fun st=>ZOL y y2 st
  have hk1:0<=((i:Nat):Int)/\ks[((i:Nat):Int).toNat]?=some kd:=⟨by omega,by rw [show ((i:Nat):Int).toNat=i by omega];exact hk'⟩
  rw [y4] at hMe;obtain ⟨yh,yt,yk⟩:=y
  simp only at y3
  subst y3
  cases yk
  all_goals simp only [Nd.av,slV,Mea.av] at *
  all_goals repeat' (first|refine XL rfl rfl hk1 (fun _=>rfl) ?_|refine ZE ?_|refine ZD ?_|refine ZF rfl ?_|refine ZJ rfl rfl ?_|refine ZS rfl rfl rfl rfl ?_|refine Z4 rfl ?_|refine Zk rfl rfl rfl rfl ?_|refine Z0 rfl rfl ?_|refine ZB rfl ?_|refine ZA ?_|refine Z2 rfl rfl ?_|refine Qf rfl rfl rfl ?_|refine QD rfl rfl ?_|(refine Zd rfl rfl (fun _=>?_) (fun _=>?_)<;>try (exfalso;omega))|(refine Zp rfl rfl (fun _=>?_) (fun _=>?_)<;>try (exfalso;omega))|refine ZU rfl ?_|refine ZG rfl ?_|refine Qs rfl rfl ?_|refine Zb rfl rfl (by omega) ?_|refine Ql rfl rfl (by omega) ?_|refine Zy rfl rfl rfl ?_|refine J7 rfl rfl rfl rfl rfl rfl ?_|refine Z8 rfl (g5 _) rfl rfl ?_|refine ZBd rfl rfl (hlk _ _) ?_|refine ZC rfl rfl rfl (hMe _) ?_|refine ZhV rfl rfl rfl ?_|refine Zk9 rfl rfl rfl ?_|(refine ZDj rfl rfl (Zi8 _ _ _ _ _ _) (fun _=>?_) (fun _=>?_))|refine ZH ?_|refine ZP ?_|refine ZI ?_|refine ZO ?_|refine ZY ?_|refine Zt ?_|refine QP ?_|refine Zw ?_|refine Y4 ?_)
  all_goals try (exfalso;omega)
  all_goals first|exact ⟨(i+1,G++[_]++[_]++[_]),⟨rfl,rfl⟩,by simp only;omega,by simp only;omega⟩|exact absurd ⟨rfl,rfl,rfl⟩ ‹_›
 ·obtain rfl:i=ks.length:=by omega
  have hTk:=fun L=>ZhT (st:=⟨A,false,L⟩) ⟨XI hA hle h.wr,ZV hA h.h0,ZV hA h.h1,ZV hA h.h2,ZV hA h.h3,ZV hA h.h4,ZV hA h.h5⟩ hc.n hc.blk hc.st hc.s16 hc.gen ⟨hc.g1,hc.g2⟩ hc.big
  repeat' (first|refine ZE ?_|refine ZD ?_|refine ZF rfl ?_|refine ZJ rfl rfl ?_|refine ZB rfl ?_|refine ZA ?_|refine Z2 rfl rfl ?_|(refine Zd rfl rfl (fun _=>?_) (fun _=>?_)<;>try (exfalso;omega))|refine ZG rfl ?_|refine Z8 rfl (g5 _) rfl rfl ?_|refine Zn ?_|refine Za ?_|refine ZX rfl ?_|refine Zf ?_)
  all_goals try (exfalso;omega)
  refine ZC rfl rfl rfl (hTk _) ?_;rw [ZSR hA hle];obtain ⟨A1,hA1⟩:∃ A1,A1=(QZ st lv b r s).A++[((QZ st lv b r s).ro,(QZ st lv b r s).L)]:=⟨_,rfl⟩;rw [<- hA1]
  have hlen:A.length=A1.length:=by rw [hA,hA1,List.length_append,List.length_append,ZhU];rfl
  rw [hlen];refine ZF rfl ?_;refine Z0 rfl rfl ?_;refine Z0 rfl rfl ?_;refine ZF rfl ?_;refine ZF rfl ?_;refine ZB rfl ?_;refine ZA ?_;refine ZE ?_;refine ZE ?_;refine ZD ?_;refine ZF rfl ?_
  refine Zp rfl rfl (fun q=>absurd rfl q) (fun _=>?_)
  refine ZB rfl ?_;refine ZA ?_;refine ZG rfl ?_;refine ZH ?_;refine ZA ?_
  have:=ZSS h hc ⟨n+1,[],some ks⟩ (.lit (ks.map Kid.av)) rfl A1 G hA1 (fun L=>ZeE ks (by omega) _)
  exact this
structure AROk (r:AR):Prop where
 nb:r.n<=r.blk.length
 n16:r.states.length<=16384
 nn:r.n<=r.states.length
 gl:r.gens.length=r.states.length
 stk:∀ i,i<r.n->∃ s:Nat,r.blk[i]?=some (s:Int)/\s<r.states.length/\r.states[s]?=some 0
 nd:∀ i j,i<r.n->j<r.n->r.blk[i]?=r.blk[j]?->i=j
 gen:∀ s,s<r.states.length->∃ g:Nat,r.gens[s]?=some (g:Int)/\1<=g/\(g:Int)<=r.most
 most:r.most<=4294967295
 key:∀ h x,lk r.nodes h=some x->∃ s g:Nat,h=g*65536+s/\s<r.states.length/\r.states[s]?=some 1/\r.gens[s]?=some (g:Int)
 al:0<=r.allocs/\r.allocs+r.n<=r.frees+r.slots
 fr:0<=r.frees/\r.frees<=900000
 sl:r.slots<=16384
def AR.slot (r:AR):Nat:=((r.blk[r.n-1]?).getD 0).toNat
def AR.gen1 (r:AR):Nat:=((r.gens[r.slot]?).getD 0).toNat
def AR.next (r:AR):Nat:=r.gen1*65536+r.slot
def AR.add (r:AR) (x:Nd):AR:=r.alloc r.slot r.gen1 x
theorem AROk.top {r:AR} (h:AROk r) (hn:0<r.n):r.blk[r.n-1]?=some (r.slot:Int)/\r.slot<r.states.length/\r.states[r.slot]?=some 0/\r.gens[r.slot]?=some (r.gen1:Int)/\1<=r.gen1/\(r.gen1:Int)<=r.most:=by
 obtain ⟨s,h1,h2,h3⟩:=h.stk (r.n-1) (by omega)
 have e1:r.slot=s:=by unfold AR.slot;rw [h1];simp
 obtain ⟨g,g1,g2,g3⟩:=h.gen s h2
 have e2:r.gen1=g:=by unfold AR.gen1;rw [e1,g1];simp
 rw [e2,e1];exact ⟨h1,h2,h3,g1,g2,g3⟩
theorem AROk.can {r:AR} (h:AROk r) (hn:0<r.n):CanTake r (r.n-1) r.slot r.gen1:=by
 obtain ⟨h1,h2,h3,h4,h5,h6⟩:=h.top hn
 have:=h.n16
 have:=h.nn
 have:=h.most
 have:=h.al
 have:=h.fr
 have:=h.sl
 refine ⟨by omega,h1,h2,by omega,h4,h5,by omega,by omega,?_,by omega⟩
 cases hk:lk r.nodes (r.gen1*65536+r.slot) with
 | none=>rfl
 | some x =>
  obtain ⟨s,g,k1,k2,k3,k4⟩:=h.key _ _ hk
  have:s=r.slot:=by omega
  subst this;rw [h3] at k3
  simp at k3
theorem AROk.add {r:AR} (h:AROk r) (hn:0<r.n) (x:Nd):AROk (r.add x):=by
 obtain ⟨h1,h2,h3,h4,h5,h6⟩:=h.top hn;have e1:(r.add x).n=r.n-1:=rfl;have e2:(r.add x).states=r.states.set r.slot 1:=rfl;have e3:(r.add x).nodes=r.nodes++[(r.gen1*65536+r.slot,x.copy)]:=rfl;have e4:(r.add x).blk=r.blk:=rfl;have e5:(r.add x).gens=r.gens:=rfl;have e6:(r.add x).most=r.most:=rfl;have e7:(r.add x).allocs=r.allocs+1:=rfl;have e8:(r.add x).frees=r.frees:=rfl;have e9:(r.add x).slots=r.slots:=rfl
 have hne:∀ i,i<r.n-1->r.blk[i]?≠some (r.slot:Int):=fun i hi q=>by
  have:=h.nd i (r.n-1) (by omega) (by omega) (by rw [q,h1])
  omega
 refine ⟨by rw [e1,e4];have:=h.nb;omega,by rw [e2,List.length_set];exact h.n16,by rw [e1,e2,List.length_set];have:=h.nn;omega,by rw [e5,e2,List.length_set];exact h.gl,?_,?_,?_,by rw [e6];exact h.most,?_,by rw [e7,e1,e8,e9];have:=h.al;omega,by rw [e8];exact h.fr,by rw [e9];exact h.sl⟩
 ·intro i hi
  rw [e1] at hi
  obtain ⟨s,k1,k2,k3⟩:=h.stk i (by omega)
  have:s≠r.slot:=fun q=>hne i hi (by rw [k1,q])
  exact ⟨s,k1,by rw [e2,List.length_set];exact k2,by rw [e2,jS (fun q=>this q.symm)];exact k3⟩
 ·intro i j hi hj hij
  rw [e1] at hi hj
  exact h.nd i j (by omega) (by omega) hij
 ·intro s hs
  rw [e2,List.length_set] at hs;exact h.gen s hs
 ·intro a y hy
  rw [e3,ZST] at hy
  cases hk:lk r.nodes a with
  | some z =>
   obtain ⟨s,g,k1,k2,k3,k4⟩:=h.key a z hk
   have:s≠r.slot:=fun q=>by subst q;rw [h3] at k3;simp at k3
   exact ⟨s,g,k1,by rw [e2,List.length_set];exact k2,by rw [e2,jS (fun q=>this q.symm)];exact k3,by rw [e5];exact k4⟩
  | none =>
   rw [hk] at hy;simp only [Option.none_or,lk] at hy
   split at hy
   ·rename_i q
    exact ⟨r.slot,r.gen1,q.symm,by rw [e2,List.length_set];exact h2,by rw [e2,List.getElem?_set_self h2],by rw [e5];exact h4⟩
   ·simp at hy
theorem AROk.new {r:AR} (h:AROk r) (hn:0<r.n):lk r.nodes r.next=none:=(h.can hn).new
theorem ZLD {r:AR} (h:AROk r) (hn:0<r.n) (x:Nd) (o:Nat):lk (r.add x).nodes o=if o=r.next then some x.copy else lk r.nodes o:=by
 have e3:(r.add x).nodes=r.nodes++[(r.next,x.copy)]:=rfl;rw [e3,ZST]
 by_cases q:o=r.next
 ·rw [if_pos q,q,h.new hn];simp [lk]
 ·rw [if_neg q]
  cases lk r.nodes o with
  | some y=>rfl
  | none=>simp only [Option.none_or,lk];rw [if_neg (fun w=>q w.symm)]
theorem AROk.handle {r:AR} (h:AROk r) (hn:0<r.n):Jt r.next/\r.next<18446744073709551616:=by
 obtain ⟨h1,h2,h3,h4,h5,h6⟩:=h.top hn
 have:=h.n16
 have:=h.most
 unfold Jt AR.next;omega
theorem ZlE {st:St} {lv b:Nat} {r:AR} (h:Has st lv b r) (ho:AROk r) (hn:0<r.n) {x:Nd} (hx:NdOk x) (hxk:x.h=0->x.kids=none) (hL:∀ k∈x.ks,∃ y,lk r.nodes k.at_=some y/\NdOk y/\y.h+1=x.h/\y.mea=k.m) :
 S Tb Qh [.ptr lv (b+5) 0 0 0,x.av] st=some (.tup [.int .u64 r.next,.int .i64 0],Ys st lv b (r.add x)):=by
 have hc:=ho.can hn;unfold AR.add AR.next;rw [<- Zhb h]
 rcases hx with hl|⟨n,ks,hi⟩
 ·obtain ⟨xh,xt,xk⟩:=x
  have hh:xh=0:=hl.h;subst hh
  have:=hxk rfl
  simp only at this
  subst this;exact ZYu h hc xt ⟨hl.lo,hl.hi⟩
 ·have e:=hi.eq
  subst e
  refine ZjR h hc n ks (.inr ⟨n,ks,hi⟩) (fun k hk=>?_)
  obtain ⟨y,y1,y2,y3,y4⟩:=hL k hk
  exact ⟨y,y1,y2,by simpa using y3,y4⟩
end Go.Q15
namespace Go.QAbs
theorem ZLE:∀ l:List Blk,J6 l=some l
 | []=>rfl
 | b::l=>by rw [J6,ZLE l]
section
variable {O:Orc} {k:List Fr} {Q:YY} {e:Env} {A:List (Bool × List Blk)} {L:List Blk} {keep:List Nat} {is:List PI} {d:Nat}
theorem ZQU {w bytes:Nat} {s x:Opd} {ix ver n:Nat} {es ys:List AV} (hs:Zo e s=some (.ref A.length ix ver 0 n)) (hx:Zo e x=some (.lit ys)) (hg:L[ix]?=some (Blk.arr w ver es)) (hn:n=es.length) (hw:JS w ys=true)
 (hm:mapSt (Zi QU (A.length+1)) ⟨A,false,L⟩ ys=some (ys,⟨A,false,L⟩)) (hl:es.length+ys.length<4294967296) (hb:bytes<=4096)
 (h:Is O is keep k Q ((d,.ref A.length ix (ver+1) 0 (n+ys.length))::e) ⟨A,false,L.set ix (.arr w (ver+1) (es++ys))⟩):Is O (⟨some d,none,false,.app w bytes s x⟩::is) keep k Q e ⟨A,false,L⟩ :=
 ZiC hs hx hg rfl hn hl hb hw hm (ZLE _) h
end
end Go.QAbs
