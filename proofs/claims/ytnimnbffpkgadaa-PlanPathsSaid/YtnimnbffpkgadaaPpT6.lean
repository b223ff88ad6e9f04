/- A part of the proof: M12, M13, M16, M2b, M19, PB, M14, M20, M21, M22, M23, M24, M25, M26, M27, M28, M29, M30, M31, M32, M33, M15, MW, M34, M37, M40. No condition. -/
import Derived.Test.YtnimnbffpkgadaaPpT5
set_option linter.unusedVariables false
set_option linter.unusedSimpArgs false
namespace Go.Q15
open Go Go.QAbs
set_option maxRecDepth 100000
set_option maxHeartbeats 8000000
section
variable {O:Orc} {k:List Fr} {Q:Yv} {e:Env} {A:List (Bool × List Blk)} {L:List Blk} {keep:List Nat} {is:List PI} {d:Nat}
theorem ZJ4 {a b:Opd} {agg:Bool} {n ix ver i o jx vb ib ob w:Nat} {es:List AV} {x v:AV} (ha:Zg e a=some (.ptr A.length ix ver i o)) (hb:Zg e b=some (.ptr A.length jx vb ib ob)) (hne:Nat.beq ix jx=false)
 (hg:L[ix]?=some (Blk.arr w ver es)) (hx:es[i]?=some x) (hv:Jj x agg o n=some v) (h:Is O is keep k Q ((d,v)::e) ⟨A,false,L⟩):Is O (⟨some d,none,false,.w (.hide [b]) (.ld agg n a)⟩::is) keep k Q e ⟨A,false,L⟩:=by
 refine ZbH ?_ h
 have hp:Xt (Xb e [b]) A.length ix=false:=by
  have hxy:ix≠jx:=fun q=>by subst q;simp at hne
  simp [Xt,Xb,ZH hb,ZDT,hxy]
 have hgt:(St.hide (Xt (Xb e [b])) ⟨A,false,L⟩).get A.length ix=some (Blk.arr w ver es):=by
  rw [ZBn,hp,St.get_cur,hg];rfl
 simp only [QA,PO.reads,if_true,evalPO,ZH ha,loadP,hgt,ZIX,hx,hv,Option.bind_some,QV,QO]
theorem ZMb {a x:Opd} {n ix ver i o w:Nat} {es:List AV} {v v' y:AV} (hg:L[ix]?=some (Blk.arr w ver es)) (ha:Zg e a=some (.ptr A.length ix ver i o)) (hx:Zg e x=some v) (hy:es[i]?=some y) (him:imm 6 v=true)
 (hs:Zc QN (A.length+1) ⟨A,false,L⟩ v=some (v,⟨A,false,L⟩)) (hv:(Qv w y o n v).bind YI=some v') (h:Is O is keep k Q e ⟨A,false,L.set ix (Blk.arr w ver (es.set i v'))⟩):Is O (⟨none,none,false,.w (.plain a) (.st n a x)⟩::is) keep k Q e ⟨A,false,L⟩:=by
 have hlt:ix<L.length:=by
  rw [List.getElem?_eq_some_iff] at hg;exact hg.1
 have hv':Qv w y o n v=some v':=by
  simp only [Option.bind_eq_some_iff] at hv
  obtain ⟨u,h1,h2⟩:=hv
  rw [h1,Yw h2]
 refine Z3 (od:=none) (v:=.undef) (st':=⟨A,false,L.set ix (Blk.arr w ver (es.set i v'))⟩) ?_ h
 have hsb:ZFD (.ptr A.length ix ver i o) (.ptr A.length ix ver i o)=true:=by simp [ZFD]
 simp only [Zk,QA,ZLo,ZH ha,ZH hx,hsb,him,and_self,if_true]
 simp only [evalPO,ZH ha,ZH hx,ZAN,hs,Option.bind_some,ZDs,St.get_cur,hg,vis,XD,if_true,hy,hv',St.put,if_false,Bool.false_eq_true,if_pos hlt,ZA8]
end
theorem ZGx {e:Env} {A:List (Bool × List Blk)} {st:St} {L:List Blk} {x:Ex} {b b2 c ix ver w ix2 ver2 w2:Nat} {t t2:Tr} {k:IntKind} {n:Int} {u:AV} (hA:A=st.A++[(st.ro,st.L)]) (hx:x=.norm∨x=.ret) (ht:J5 e b=some (.ptr A.length ix ver 0 0)) (hg:L[ix]?=some (.arr w ver [t.av]))
 (ht2:J5 e b2=some (.ptr A.length ix2 ver2 0 0)) (hg2:L[ix2]?=some (.arr w2 ver2 [t2.av])) (hc:J5 e c=some (.int k n)) (hu:.tup [t.av,t2.av,.int k n]=u):Jq false [.c b true 7,.c b2 true 7,.s c] (x,e,⟨A,false,L⟩)=some (u,st):=by
 subst hu
 refine ZIh (v:=.tup [t.av,t2.av,.int k n]) (ro:=false) (L':=L) hA hx ?_ ?_ rfl
 ·simp only [Qk,ZDu,ZJ0 ht hg,ZJ0 ht2 hg2,Option.bind_some]
  simp only [ZBi,QP hc,Option.bind_some,Option.map_some,ZIZ]
 ·show (mapSt (Zc 5 A.length) _ _).bind ZdP=_
  rw [mapSt,ZOT 3,Option.bind_some,mapSt,ZOT 3]
  rfl
theorem Zj3 {N:ZJ} (hN:GoodN N):∀ (n:Nat) {st:St} {lv ix:Nat} (hr:Rd st lv ix N) {t:Tr} (ht:VE N t) (hn:t.h=n) (a:Int) (h0:0≤a) (h1:a≤t.bytes) (hb:t.bytes≤65536),
 S Tb ZAX [.ptr lv ix 0 0 0,t.av,.int .i64 a] st=some (.tup [(XS N n t a).1.av,(XS N n t a).2.av,.int .i64 0],st):=by
 intro n
 induction n with
 | zero =>
  intro st lv ix hr t ht hn a h0 h1 hb
  refine Z5 rfl (fun A hA=>?_)
  have hrp:=fun L=>hr.push hA (ro:=false) (L:=L)
  have hB:=fun st=>ZBQ t ht.pos.1 (by omega) st
  rw [XS]
  by_cases ha:a=0
  ·rw [if_pos ha]
   repeat' (first|refine ZE ?_|refine ZC ?_|refine ZF rfl ?_|refine ZB rfl ?_|refine ZA ?_|(refine Zl rfl rfl (fun _=>?_) (fun _=>?_)<;>try (exfalso;omega))|refine ZU rfl ?_|refine Zf rfl rfl rfl ?_|refine Ze rfl rfl rfl ?_|refine Zv rfl rfl rfl (QJ _ _ _) (Qt _ _) rfl ?_|refine Z0 rfl (Z6 _) (QM _) ?_|refine ZJ4 rfl rfl rfl rfl rfl (Zr _) ?_|refine ZMb rfl rfl rfl rfl rfl rfl rfl ?_|refine ZQ ?_|refine ZP ?_|refine ZX ?_)
   all_goals try (exfalso;omega)
   exact ZGx (t:=.zero) hA (.inr rfl) rfl rfl rfl rfl rfl rfl
  ·rw [if_neg ha]
   by_cases ha2:a=t.bytes
   ·rw [if_pos ha2]
    repeat' (first|refine ZE ?_|refine ZC ?_|refine ZF rfl ?_|refine ZB rfl ?_|refine ZA ?_|(refine Zl rfl rfl (fun _=>?_) (fun _=>?_)<;>try (exfalso;omega))|refine ZU rfl ?_|refine ZG rfl ?_|refine Zf rfl rfl rfl ?_|refine Ze rfl rfl rfl ?_|refine Zv rfl rfl rfl rfl rfl rfl ?_|refine ZS rfl rfl rfl (Zr _) ?_|refine Zv rfl rfl rfl (QJ _ _ _) (Qt _ _) rfl ?_|refine Z0 rfl (Z6 _) (QM _) ?_|refine ZD rfl rfl (by first|rfl|(simp only [List.nil_append,List.append_nil,List.cons_append,Zn,ZZ,Zb];first|done|rfl)) (hB _) ?_|refine ZI ?_|refine ZQ ?_|refine ZP ?_|refine ZX ?_)
    all_goals try (exfalso;omega)
    exact ZGx (t2:=.zero) hA (.inr rfl) rfl rfl rfl rfl rfl rfl
   ·rw [if_neg ha2]
    have hv:=ht.val (by omega)
    have hl:=hv.line hn
    have hL:=fun L=>ZbI (hrp L) hv
    have hC:=fun st=>Zks (QU N t) a st
    rw [← Ze8 hl.2 (by omega)] at hC
    generalize QU N t=s at *
    repeat' (first|refine ZE ?_|refine ZC ?_|refine ZF rfl ?_|refine ZO rfl rfl ?_|refine QB rfl rfl ?_|refine ZB rfl ?_|refine ZA ?_|(refine Zl rfl rfl (fun _=>?_) (fun _=>?_)<;>try (exfalso;omega))|(refine Zu rfl rfl (fun _=>?_) (fun _=>?_)<;>try (exfalso;omega))|refine ZU rfl ?_|refine ZG rfl ?_|refine Zf rfl rfl rfl ?_|refine Ze rfl rfl rfl ?_|refine Zv rfl rfl rfl rfl rfl rfl ?_|refine ZS rfl rfl rfl (Zr _) ?_|refine Z0 rfl (Z6 _) (QM _) ?_|refine ZS rfl rfl rfl (Yb _) ?_|refine ZD rfl rfl (by first|rfl|(simp only [List.nil_append,List.append_nil,List.cons_append,Zn,ZZ,Zb];first|done|rfl)) (hB _) ?_|refine ZD rfl rfl (by first|rfl|(simp only [List.nil_append,List.append_nil,List.cons_append,Zn,ZZ,Zb];first|done|rfl)) (hL _) ?_|refine ZD rfl rfl (by first|rfl|(simp only [List.nil_append,List.append_nil,List.cons_append,Zn,ZZ,Zb];first|done|rfl)) (hC _) ?_|refine ZI ?_|refine ZQ ?_|refine ZP ?_|refine ZX ?_)
    all_goals try (exfalso;omega)
    exact ZGx (t:=Qd (s.take a.toNat)) (t2:=Qd (s.drop a.toNat)) hA (.inr rfl) rfl rfl rfl rfl rfl rfl
 | succ n ih =>
  intro st lv ix hr t ht hn a h0 h1 hb
  refine Z5 rfl (fun A hA=>?_)
  have hrp:=fun L=>hr.push hA (ro:=false) (L:=L)
  have hB:=fun st=>ZBQ t ht.pos.1 (by omega) st
  rw [XS]
  by_cases ha:a=0
  ·rw [if_pos ha]
   repeat' (first|refine ZE ?_|refine ZC ?_|refine ZF rfl ?_|refine ZB rfl ?_|refine ZA ?_|(refine Zl rfl rfl (fun _=>?_) (fun _=>?_)<;>try (exfalso;omega))|refine ZU rfl ?_|refine Zf rfl rfl rfl ?_|refine Ze rfl rfl rfl ?_|refine Zv rfl rfl rfl (QJ _ _ _) (Qt _ _) rfl ?_|refine Z0 rfl (Z6 _) (QM _) ?_|refine ZJ4 rfl rfl rfl rfl rfl (Zr _) ?_|refine ZMb rfl rfl rfl rfl rfl rfl rfl ?_|refine ZQ ?_|refine ZP ?_|refine ZX ?_)
   all_goals try (exfalso;omega)
   exact ZGx (t:=.zero) hA (.inr rfl) rfl rfl rfl rfl rfl rfl
  ·rw [if_neg ha]
   by_cases ha2:a=t.bytes
   ·rw [if_pos ha2]
    repeat' (first|refine ZE ?_|refine ZC ?_|refine ZF rfl ?_|refine ZB rfl ?_|refine ZA ?_|(refine Zl rfl rfl (fun _=>?_) (fun _=>?_)<;>try (exfalso;omega))|refine ZU rfl ?_|refine ZG rfl ?_|refine Zf rfl rfl rfl ?_|refine Ze rfl rfl rfl ?_|refine Zv rfl rfl rfl rfl rfl rfl ?_|refine ZS rfl rfl rfl (Zr _) ?_|refine Zv rfl rfl rfl (QJ _ _ _) (Qt _ _) rfl ?_|refine Z0 rfl (Z6 _) (QM _) ?_|refine ZD rfl rfl (by first|rfl|(simp only [List.nil_append,List.append_nil,List.cons_append,Zn,ZZ,Zb];first|done|rfl)) (hB _) ?_|refine ZI ?_|refine ZQ ?_|refine ZP ?_|refine ZX ?_)
    all_goals try (exfalso;omega)
    exact ZGx (t2:=.zero) hA (.inr rfl) rfl rfl rfl rfl rfl rfl
   ·rw [if_neg ha2]
    have vt:=ht.val (by omega)
    have h16:=vt.h16
    obtain ⟨c1,c2,c3,c4⟩:=Qe hN vt (by omega)
    have hC:=fun L=>ZAb (hrp L) vt (by omega)
    generalize Zx N t=l at *
    have hl:∀ u∈l,Val N u∧u.h=n∧Big u:=fun u hu=>⟨(c1 u hu).1,by have:=(c1 u hu).2.1;omega,(c1 u hu).2.2⟩
    have hpos:∀ u∈l,0≤u.bytes:=fun u hu=>by have:=(hl u hu).1.pos.2;omega
    obtain ⟨s1,s2,s3,s4⟩:=ZOV l a (by omega) hpos h0 (by omega)
    have key:∀ k Q p6 p7 L,
     (Rk (S Tb) k Q (.ex 0) [(0,.ptr lv ix 0 0 0),(2,.int .i64 (Q1 l a).2),(6,.ptr A.length p6 0 0 0),(7,.ptr A.length p7 0 0 0),(13,.lit (l.map Tr.av)),(14,.int .i64 (Q1 l a).1),(77,.bool false)] ⟨A,false,L⟩) →
     Ru (S Tb) (.loop ZLc) k Q [(0,.ptr lv ix 0 0 0),(2,.int .i64 a),(6,.ptr A.length p6 0 0 0),(7,.ptr A.length p7 0 0 0),(13,.lit (l.map Tr.av)),(14,.int .i64 0)] ⟨A,false,L⟩:=by
     intro k Q p6 p7 L hex
     refine Zq (α:=Nat × Int) (fun p=>[(0,.ptr lv ix 0 0 0),(2,.int .i64 p.2),(6,.ptr A.length p6 0 0 0),(7,.ptr A.length p7 0 0 0),(13,.lit (l.map Tr.av)),(14,.int .i64 p.1)]) (fun p=>⟨A,false,L⟩)
      (fun p=>p.1<l.length∧0≤p.2∧p.2≤a∧(Q1 l a).1=p.1+(Q1 (l.drop p.1) p.2).1∧(Q1 l a).2=(Q1 (l.drop p.1) p.2).2) (fun p=>l.length-p.1) (0,a) rfl rfl ⟨by simp only;omega,h0,Int.le_refl _,by simp,by simp⟩ ?_
     rintro ⟨i,b⟩ ⟨i1,i2,i3,i4,i5⟩
     simp only at i1 i2 i3 i4 i5 ⊢
     have hu:l[i]?=some l[i]:=by simp [i1]
     generalize l[i]=u at hu
     have hum:=List.mem_of_getElem? hu
     have hub:=hpos u hum
     have hu16:u.bytes≤65536:=by
      have e:=hu
      have e2:Tr.bytesL l=Tr.bytesL (l.take i)+(u.bytes+Tr.bytesL (l.drop (i+1))):=by
       conv=>lhs;rw [← List.take_append_drop (i+1) l,Zm hu,Tr.bytesL_append,Tr.bytesL_append]
       simp [Tr.bytesL];omega
      have:=Tr.bytesL_nonneg (l:=l.take i) (fun w hw=>hpos w (List.mem_of_mem_take hw))
      have:=Tr.bytesL_nonneg (l:=l.drop (i+1)) (fun w hw=>hpos w (List.mem_of_mem_drop hw))
      omega
     have hBu:∀ w,l[((i:Nat):Int).toNat]?=some w→∀ st,S Tb Qh [w.av] st=some (.int .i64 u.bytes,st):=by
      intro w hw st
      have hw2:l[i]?=some w:=hw
      rw [hu] at hw2
      have:=Option.some.inj hw2
      subst this
      exact ZBQ u (hl u hum).1.pos.1 (by omega) st
     have hd:l.drop i=u::l.drop (i+1):=by
      rw [List.drop_eq_getElem_cons i1]
      congr 1
      rw [List.getElem?_eq_getElem i1] at hu
      exact Option.some.inj hu
     repeat' (first|refine ZE ?_|refine ZC ?_|refine ZF rfl ?_|refine Z8 rfl ?_|refine Ja rfl rfl ?_|refine Zp rfl rfl rfl rfl ?_|refine ZB rfl ?_|refine ZA ?_|refine QC rfl ?_|(refine Zh rfl rfl (fun _=>?_) (fun _=>?_)<;>try (exfalso;omega))|(refine YG rfl rfl (fun _=>?_) (fun _=>?_)<;>try (exfalso;omega))|refine ZU rfl ?_|refine ZG rfl ?_|refine Zi rfl rfl (by omega) ?_|refine JB rfl rfl (by omega) ?_|refine Qr rfl rfl (by omega) Z6 (fun _ _=>?_)|refine QQ rfl (Zr _) ?_|refine ZD rfl rfl (by first|rfl|(simp only [List.nil_append,List.append_nil,List.cons_append,Zn,ZZ,Zb];first|done|rfl)) (hBu _ (by assumption) _) ?_|refine ZI ?_|refine Zo ?_|refine ZL ?_|refine Za ?_|refine Z2 ?_|refine Z4 ?_|refine Zj ?_)
     all_goals try (exfalso;omega)
     ·rename_i g1 g2 g3 g4 g5 g6
      have hne:l.drop (i+1)≠[]:=by
       intro q
       have:=congrArg List.length q
       rw [List.length_drop] at this
       simp at this;omega
      have hsk:Q1 (l.drop i) b=((Q1 (l.drop (i+1)) (b-u.bytes)).1+1,(Q1 (l.drop (i+1)) (b-u.bytes)).2):=by
       rw [hd]
       cases hq:l.drop (i+1) with
       | nil=>exact absurd hq hne
       | cons v r=>rw [Q1,if_pos (by omega)]
      refine ⟨(i+1,b-u.bytes),⟨rfl,rfl⟩,⟨by simp only;omega,by simp only;omega,by simp only;omega,?_,?_⟩,by simp only;omega⟩
      ·simp only [i4,hsk];omega
      ·simp only [i5,hsk]
     ·have hsk : Q1 (l.drop i) b = (0, b) := by
       rw [hd]
       cases hq:l.drop (i+1) with
       | nil=>rfl
       | cons v r=>rw [Q1,if_neg (by omega)]
      rw [i4,i5,hsk] at hex
      exact hex
     ·have hq:l.drop (i+1)=[]:=List.drop_of_length_le (by omega)
      have hsk:Q1 (l.drop i) b=(0,b):=by rw [hd,hq];rfl
      rw [i4,i5,hsk] at hex
      exact hex
    repeat' (first|refine ZE ?_|refine ZC ?_|refine ZF rfl ?_|refine ZO rfl rfl ?_|refine QB rfl rfl ?_|refine ZB rfl ?_|refine ZA ?_|(refine Zl rfl rfl (fun _=>?_) (fun _=>?_)<;>try (exfalso;omega))|(refine Zu rfl rfl (fun _=>?_) (fun _=>?_)<;>try (exfalso;omega))|refine ZG rfl ?_|refine Ze rfl rfl rfl ?_|refine ZS rfl rfl rfl (Zr _) ?_|refine Z0 rfl (Z6 _) (QM _) ?_|refine ZS rfl rfl rfl (Yb _) ?_|refine ZD rfl rfl (by first|rfl|(simp only [List.nil_append,List.append_nil,List.cons_append,Zn,ZZ,Zb];first|done|rfl)) (hB _) ?_|refine ZD rfl rfl (by first|rfl|(simp only [List.nil_append,List.append_nil,List.cons_append,Zn,ZZ,Zb];first|done|rfl)) (hC _) ?_|refine ZI ?_|refine ZL ?_)
    all_goals try (exfalso;omega)
    refine key _ _ _ _ _ ?_
    generalize hk:(Q1 l a).1=k at *
    generalize hb2:(Q1 l a).2=b at *
    have hlm:(l.map Tr.av).length=l.length:=by simp
    have hh1:∀ u∈l.take k,u.h≤65536:=fun u hu=>by have:=(hl u (List.mem_of_mem_take hu)).2.1;omega
    have hh2:∀ u∈l.drop k,u.h≤65536:=fun u hu=>by have:=(hl u (List.mem_of_mem_drop hu)).2.1;omega
    have hh3:∀ u∈l.drop (k+1),u.h≤65536:=fun u hu=>by have:=(hl u (List.mem_of_mem_drop hu)).2.1;omega
    have hG1:∀ st,S Tb QH [.lit ((l.map Tr.av).take ((k:Nat):Int).toNat)] st=some ((grp (l.take k)).av,st):=fun st=>Xa (by rw [List.length_take];omega) hh1 (by rw [Int.toNat_natCast,← List.map_take];exact .lit _)
    have hG2:∀ st,S Tb QH [.lit ((l.map Tr.av).drop ((k:Nat):Int).toNat)] st=some ((grp (l.drop k)).av,st):=fun st=>Xa (by rw [List.length_drop];omega) hh2 (by rw [Int.toNat_natCast,← List.map_drop];exact .lit _)
    have hG3:∀ st,S Tb QH [.lit ((l.map Tr.av).drop (((k:Nat):Int)+1).toNat)] st=some ((grp (l.drop (k+1))).av,st):=fun st=>Xa (by rw [List.length_drop];omega) hh3 (by rw [show (((k:Nat):Int)+1).toNat=k+1 by omega,← List.map_drop];exact .lit _)
    by_cases hz:b=0
    ·rw [if_pos hz]
     generalize grp (l.take k)=g1 at *
     generalize grp (l.drop k)=g2 at *
     repeat' (first|refine ZE ?_|refine ZC ?_|refine ZF rfl ?_|refine ZB rfl ?_|refine ZA ?_|(refine Zl rfl rfl (fun _=>?_) (fun _=>?_)<;>try (exfalso;omega))|refine ZU rfl ?_|refine Zv rfl rfl rfl (QJ _ _ _) (Qt _ _) rfl ?_|refine ZFR rfl rfl (by omega) (XP _) ?_|refine ZLy rfl rfl (by omega) (XP _) ?_|refine Js rfl rfl rfl (hG1 _) ?_|refine ZD rfl rfl (by first|rfl|(simp only [List.nil_append,List.append_nil,List.cons_append,Zn,ZZ,Zb];first|done|rfl)) (hG2 _) ?_|refine ZQ ?_|refine ZP ?_|refine ZX ?_|refine ZY rfl ?_)
     all_goals try (exfalso;omega)
     exact ZGx hA (.inr rfl) rfl rfl rfl rfl rfl rfl
    ·rw [if_neg hz]
     obtain ⟨u,hu⟩:∃ u,l[k]?=some u:=⟨l[k],by simp [s1]⟩
     rw [hu]
     simp only [Option.getD_some]
     obtain ⟨u1,u2,u3⟩:=hl u (List.mem_of_getElem? hu)
     have hub:=s4 u hu
     have hsum:Tr.bytesL l=Tr.bytesL (l.take k)+(u.bytes+Tr.bytesL (l.drop (k+1))):=by
      conv=>lhs;rw [← List.take_append_drop (k+1) l,Zm hu,Tr.bytesL_append,Tr.bytesL_append]
      simp [Tr.bytesL];omega
     have p1:=Tr.bytesL_nonneg (l:=l.take k) (fun w hw=>hpos w (List.mem_of_mem_take hw))
     have p2:=Tr.bytesL_nonneg (l:=l.drop (k+1)) (fun w hw=>hpos w (List.mem_of_mem_drop hw))
     have hc:=ZBS hN n u b (.inr u1) u2 s2 (by omega) (by omega)
     have hcut:∀ w,l[((k:Nat):Int).toNat]?=some w→∀ L,S Tb ZAX [.ptr lv ix 0 0 0,w.av,.int .i64 b] ⟨A,false,L⟩=some (.tup [(XS N n u b).1.av,(XS N n u b).2.av,.int .i64 0],⟨A,false,L⟩):=by
      intro w hw L
      have hw2:l[k]?=some w:=hw
      rw [hu] at hw2
      have:=Option.some.inj hw2
      subst this
      exact ih (hrp L) (.inr u1) u2 b s2 (by omega) (by omega)
     have a1:=(ZGw (N:=N) (l:=l.take k) (by rw [List.length_take];omega) (show n+1≤16 by omega) (fun u hu=>hl u (List.mem_of_mem_take hu))).1
     have d1:=(ZGw (N:=N) (l:=l.drop (k+1)) (by rw [List.length_drop];omega) (show n+1≤16 by omega) (fun u hu=>hl u (List.mem_of_mem_drop hu))).1
     have hcl:=hc.l
     have hcr:=hc.r
     have hK1:=fun L=>ZOW hN (hrp L) a1 hcl
     have hK2:=fun L=>ZOW hN (hrp L) hcr d1
     generalize XS N n u b=r at *
     obtain ⟨r1,r2⟩:=r
     simp only at *
     generalize grp (l.take k)=g1 at *
     generalize grp (l.drop (k+1))=g3 at *
     generalize XC N g1 r1=z1 at *
     generalize XC N r2 g3=z2 at *
     repeat' (first|refine ZE ?_|refine ZC ?_|refine ZF rfl ?_|refine QB rfl rfl ?_|refine ZB rfl ?_|refine ZA ?_|(refine Zl rfl rfl (fun _=>?_) (fun _=>?_)<;>try (exfalso;omega))|(refine Zu rfl rfl (fun _=>?_) (fun _=>?_)<;>try (exfalso;omega))|refine ZG rfl ?_|refine Zi rfl rfl (by omega) ?_|refine Ze rfl rfl rfl ?_|refine Qr rfl rfl (by omega) Z6 (fun _ _=>?_)|refine QQ rfl (Zr _) ?_|refine ZS rfl rfl rfl (Zr _) ?_|refine Zv rfl rfl rfl (QJ _ _ _) (Qt _ _) rfl ?_|refine ZFR rfl rfl (by omega) (XP _) ?_|refine ZLy rfl rfl (by omega) (XP _) ?_|refine Js rfl rfl rfl (hG1 _) ?_|refine Js rfl rfl rfl (hG3 _) ?_|refine ZD rfl rfl (by first|rfl|(simp only [List.nil_append,List.append_nil,List.cons_append,Zn,ZZ,Zb];first|done|rfl)) (hcut _ (by assumption) _) ?_|refine ZD rfl rfl (by first|rfl|(simp only [List.nil_append,List.append_nil,List.cons_append,Zn,ZZ,Zb];first|done|rfl)) (hK1 _) ?_|refine ZD rfl rfl (by first|rfl|(simp only [List.nil_append,List.append_nil,List.cons_append,Zn,ZZ,Zb];first|done|rfl)) (hK2 _) ?_|refine ZJ4 rfl rfl rfl rfl rfl (Zr _) ?_|refine ZMb rfl rfl rfl rfl (Zhh 4 _) (QJ _ _ _) (Qt _ _) ?_|refine ZI ?_|refine ZQ ?_|refine ZP ?_|refine ZY rfl ?_)
     all_goals try (exfalso;omega)
     exact ZGx hA (.inr rfl) rfl rfl rfl rfl rfl rfl
end Go.Q15
namespace Go.Q15
open Go Go.QAbs
set_option maxRecDepth 100000
set_option maxHeartbeats 8000000
theorem ZWS {st:St} {lv ix:Nat} {N:ZJ} (hr:Rd st lv ix N) {t:Tr} (ht:VE N t) (hb:t.bytes≤65536):S Tb YM [.ptr lv ix 0 0 0,t.av] st=some (.int .i64 0,st):=by
 rcases ht with h|h
 ·exact Zck h
 ·exact Zf0 hr h hb
end Go.Q15
namespace Go.Q15
open Go Go.QAbs
set_option maxRecDepth 100000
set_option maxHeartbeats 8000000
structure Out (st:St) (lv jb jx:Nat) (ver:Nat) (s:List UInt8):Prop where
 wr:st.wr lv
 box:st.get lv jb=some (.arr 1 0 [.ref lv jx ver 0 s.length])
 blk:st.get lv jx=some (.arr 1 ver (QI s))
 ne:jx≠jb
def Qu (st:St) (lv jb jx ver:Nat) (s:List UInt8):St:=(st.upd lv jx (.arr 1 ver (QI s))).upd lv jb (.arr 1 0 [.ref lv jx ver 0 s.length])
theorem ZeJ (s:List UInt8):JE 1 (QI s)=true:=by
 induction s with
 | nil=>rfl
 | cons b s ih=>rw [QI,List.map_cons,JE,List.all_cons];exact Bool.and_eq_true_iff.2 ⟨rfl,ih⟩
theorem ZeK (b:Nat) (st:St) (s:List UInt8):mapSt (Zc QN b) st (QI s)=some (QI s,st):=by
 induction s with
 | nil=>rfl
 | cons x s ih =>
  show mapSt (Zc QN b) st (AV.int .u8 x.toNat::QI s)=_
  rw [mapSt]
  show ((some (AV.int .u8 x.toNat,st)).bind fun r=>(mapSt (Zc QN b) r.2 (QI s)).bind (ZAG r.1))=_
  rw [Option.bind_some,ih];rfl
theorem ZWT (s t:List UInt8):QI (s++t)=QI s++QI t:=by simp [QI]
theorem ZJk (s:List UInt8):(QI s).length=s.length:=by simp [QI]
theorem ZJ5 {w v:Nat} {es:List AV}:vis (some (Blk.arr w v es))=some (Blk.arr w v es):=rfl
theorem Out.put {st:St} {lv jb jx ver:Nat} {s:List UInt8} (h:Out st lv jb jx ver s) (ver':Nat) (t:List UInt8):Out (Qu st lv jb jx ver' t) lv jb jx ver' t:=by
 have g1:∀ l' i',(st.upd lv jx (.arr 1 ver' (QI t))).get l' i'=if l'=lv∧i'=jx then some (.arr 1 ver' (QI t)) else st.get l' i':=fun l' i'=>St.get_upd h.blk ZJ5
 have b1:(st.upd lv jx (.arr 1 ver' (QI t))).get lv jb=some (.arr 1 0 [.ref lv jx ver 0 s.length]):=by rw [g1,if_neg (fun q=>h.ne q.2.symm)];exact h.box
 have g2:∀ l' i',(Qu st lv jb jx ver' t).get l' i'=if l'=lv∧i'=jb then some (.arr 1 0 [.ref lv jx ver' 0 t.length]) else (st.upd lv jx (.arr 1 ver' (QI t))).get l' i':=fun l' i'=>St.get_upd b1 ZJ5
 refine ⟨St.wr_upd (St.wr_upd h.wr h.wr) (St.wr_upd h.wr h.wr),by rw [g2,if_pos ⟨rfl,rfl⟩],?_,h.ne⟩
 rw [g2,if_neg (fun q=>h.ne q.2),g1,if_pos ⟨rfl,rfl⟩]
theorem ZGy {st:St} {lv jb jx ver:Nat} {s:List UInt8} (h:Out st lv jb jx ver s) (ver':Nat) (t:List UInt8) {l' i':Nat} (hn:¬ (l'=lv∧(i'=jx∨i'=jb))):(Qu st lv jb jx ver' t).get l' i'=st.get l' i':=by
 have b1:(st.upd lv jx (.arr 1 ver' (QI t))).get lv jb=some (.arr 1 0 [.ref lv jx ver 0 s.length]):=by
  rw [St.get_upd h.blk ZJ5,if_neg (fun q=>h.ne q.2.symm)];exact h.box
 rw [Qu,St.get_upd b1 ZJ5,if_neg (fun q=>hn ⟨q.1,.inr q.2⟩),St.get_upd h.blk ZJ5,if_neg (fun q=>hn ⟨q.1,.inl q.2⟩)]
theorem ZOX {st:St} {lv ix:Nat} {b c:Blk}:(st.upd lv ix b).upd lv ix c=st.upd lv ix c:=by
 unfold St.upd
 by_cases h:lv=st.A.length
 ·simp only [if_pos h,List.set_set]
 ·simp only [if_neg h,List.length_set]
  rcases Nat.lt_or_ge lv st.A.length with q|q
  ·simp only [List.set_set,List.getElem?_set,if_true,if_pos q,Option.getD_some,ZWv]
  ·simp only [List.set_eq_of_length_le q]
theorem ZOY {st:St} {lv ix jx:Nat} {b c:Blk} (h:ix≠jx):(st.upd lv ix b).upd lv jx c=(st.upd lv jx c).upd lv ix b:=by
 unfold St.upd
 by_cases hl:lv=st.A.length
 ·simp only [if_pos hl]
  rw [List.set_comm _ _ h]
 ·simp only [if_neg hl,List.length_set]
  rcases Nat.lt_or_ge lv st.A.length with q|q
  ·simp only [List.set_set,List.getElem?_set,if_true,if_pos q,Option.getD_some,ZWv]
   rw [List.set_comm _ _ h]
  ·simp only [List.set_eq_of_length_le q]
theorem ZeL {st:St} {lv jb jx v1 v2:Nat} {s t:List UInt8} (h:jx≠jb):Qu (Qu st lv jb jx v1 s) lv jb jx v2 t=Qu st lv jb jx v2 t:=by
 unfold Qu
 rw [ZOY (st:=st.upd lv jx _) (fun q=>h q.symm),ZOX,ZOX]
theorem Zcp {st:St} {A:List (Bool × List Blk)} {ro:Bool} {L:List Blk} (hA:A=st.A++[(st.ro,st.L)]) {lv jb jx ver:Nat} {s:List UInt8} (hl:lv≤st.A.length) :
 Qu ⟨A,ro,L⟩ lv jb jx ver s=⟨(Qu st lv jb jx ver s).A++[((Qu st lv jb jx ver s).ro,(Qu st lv jb jx ver s).L)],ro,L⟩:=by
 unfold Qu
 rw [J6 hA hl]
 exact J6 rfl (by rw [St.upd_A];exact hl)
section
variable {O:Orc} {k:List Fr} {Q:Yv} {e:Env} {A:List (Bool × List Blk)} {L:List Blk} {keep:List Nat} {is:List PI} {d:Nat}
theorem Zf7 {st:St} {s x:Opd} {lv jb jx ver:Nat} {t u:List UInt8} (hA:A=st.A++[(st.ro,st.L)]) (ho:Out st lv jb jx ver t) (hs:Zg e s=some (.ref lv jx ver 0 t.length)) (hx:Zg e x=some (.str u)) (hl:t.length+u.length<4294967296)
 (h:∀ A',A'=(st.upd lv jx (.arr 1 (ver+1) (QI (t++u)))).A++[((st.upd lv jx (.arr 1 (ver+1) (QI (t++u)))).ro,(st.upd lv jx (.arr 1 (ver+1) (QI (t++u)))).L)]→Is O is keep k Q ((d,.ref lv jx (ver+1) 0 (t.length+u.length))::e) ⟨A',false,L⟩) :
 Is O (⟨some d,none,false,.app 1 1 s x⟩::is) keep k Q e ⟨A,false,L⟩:=by
 have hlv:=St.get_le ho.blk
 refine Z3 (v:=.ref lv jx (ver+1) 0 (t.length+u.length)) (st':=St.upd ⟨A,false,L⟩ lv jx (.arr 1 (ver+1) (QI (t++u)))) ?_ ?_
 ·have hg:=ZW hA (ro:=false) (L:=L) ho.blk
  have hw:=Xu hA hlv ho.wr (ro:=false) (L:=L)
  simp only [Zk,evalPO,ZH hs,ZH hx,elems,Option.bind_some,Q9,ZJk,ZeJ,if_true,ZeK,ZZk,hg,ZLn,true_and,if_pos (show 0+t.length≤t.length∧t.length+u.length<4294967296∧1≤4096 by omega),List.drop_zero]
  rw [List.take_of_length_le (by rw [ZJk];omega),← ZWT,St.put_upd hw hg]
  rfl
 ·rw [J6 hA hlv]
  exact h _ rfl
end
theorem Rd.out {st:St} {lv jb jx ver pl px:Nat} {s:List UInt8} {N:ZJ} (hr:Rd st pl px N) (ho:Out st lv jb jx ver s) (hne:pl≠lv) (v:Nat) (t:List UInt8):Rd (Qu st lv jb jx v t) pl px N:=by
 obtain ⟨a0,a1,im,a3,a4,a5,h1,h2⟩:=hr
 exact ⟨a0,a1,im,a3,a4,a5,by rw [ZGy ho _ _ (fun q=>hne q.1)];exact h1,by rw [ZGy ho _ _ (fun q=>hne q.1)];exact h2⟩
structure WalkAt (st:St) (lv ab ob xb wb pl px:Nat) (N:ZJ):Prop where
 rd:Rd st pl px N
 lt:pl≠lv
 a:st.get lv ab=some (.arr 1 0 [.ptr pl px 0 0 0])
 w:st.get lv wb=some (.arr 1 0 [.func (.func Yf) [] [.ptr lv ab 0 0 0,.ptr lv ob 0 0 0,.ptr lv wb 0 0 0]])
 na:ab≠xb∧ab≠ob
 nw:wb≠xb∧wb≠ob
theorem WalkAt.put {st:St} {lv ab ob xb wb pl px ver:Nat} {N:ZJ} {s:List UInt8} (h:WalkAt st lv ab ob xb wb pl px N) (ho:Out st lv ob xb ver s) (v:Nat) (t:List UInt8):WalkAt (Qu st lv ob xb v t) lv ab ob xb wb pl px N :=
 ⟨h.rd.out ho h.lt v t,h.lt,by rw [ZGy ho _ _ (fun q=>by rcases q.2 with w|w;exact h.na.1 w;exact h.na.2 w)];exact h.a,by rw [ZGy ho _ _ (fun q=>by rcases q.2 with w|w;exact h.nw.1 w;exact h.nw.2 w)];exact h.w,h.na,h.nw⟩
theorem ZWU {o:Option Blk} {b:Blk} (h:vis o=some b):o=some b:=by
 cases o with
 | none=>simp [vis] at h
 | some c=>cases c<;>simp [vis] at h<;>exact congrArg some h
theorem ZWV {α:Type} {l:List α} {i:Nat} {b:α} (h:l[i]?=some b):l.set i b=l:=by
 obtain ⟨h1,h2⟩:=List.getElem?_eq_some_iff.1 h
 subst h2
 exact List.set_getElem_self h1
theorem upd_same {st:St} {lv ix:Nat} {b:Blk} (h:st.get lv ix=some b):st.upd lv ix b=st:=by
 unfold St.upd
 by_cases q:lv=st.A.length
 ·rw [if_pos q]
  rw [St.get,if_pos q] at h
  have h2:=ZWU h
  rw [ZWV h2]
 ·rw [if_neg q]
  rw [St.get,if_neg q] at h
  cases hr:st.A[lv]? with
  | none=>rw [hr] at h;simp at h
  | some r =>
   rw [hr] at h
   have h2:=ZWU h
   have e1:r.2.set ix b=r.2:=ZWV h2
   simp only [Option.getD_some,ZWv,e1]
   rw [show (r.1,r.2)=r from rfl]
   rw [ZWV hr]
theorem Out.same {st:St} {lv jb jx ver:Nat} {s:List UInt8} (h:Out st lv jb jx ver s):Qu st lv jb jx ver s=st:=by
 rw [Qu,upd_same h.blk,upd_same h.box]
theorem Out.push {st:St} {A:List (Bool × List Blk)} {ro:Bool} {L:List Blk} (hA:A=st.A++[(st.ro,st.L)]) {lv jb jx ver:Nat} {s:List UInt8} (h:Out st lv jb jx ver s):Out ⟨A,ro,L⟩ lv jb jx ver s :=
 ⟨Xu hA (St.get_le h.blk) h.wr,ZW hA h.box,ZW hA h.blk,h.ne⟩
theorem WalkAt.push {st:St} {A:List (Bool × List Blk)} {ro:Bool} {L:List Blk} (hA:A=st.A++[(st.ro,st.L)]) {lv ab ob xb wb pl px:Nat} {N:ZJ} (h:WalkAt st lv ab ob xb wb pl px N):WalkAt ⟨A,ro,L⟩ lv ab ob xb wb pl px N :=
 ⟨h.rd.push hA,h.lt,ZW hA h.a,ZW hA h.w,h.na,h.nw⟩
theorem wk4 (t:Tr) (a b c:AV) (ha:weak a=a) (hb:weak b=b) (hc:weak c=c):Zb (Zn ([]++[t.av]++[a,b,c]))=some [t.av,a,b,c]:=by
 simp only [List.nil_append,List.cons_append,Zn,ZZ,ha,hb,hc,Zb]
theorem ZkQ {N:ZJ} (hN:GoodN N):∀ (n:Nat) (t:Tr),Val N t→t.h=n→t.bytes≤65536→∀ {st:St} {lv ab ob xb wb pl px ver:Nat} {s:List UInt8},WalkAt st lv ab ob xb wb pl px N→Out st lv ob xb ver s→s.length+t.bytes<4294967296 →
 Sp Tb Yf [t.av,.ptr lv ab 0 0 0,.ptr lv ob 0 0 0,.ptr lv wb 0 0 0] st fun v st'=>v=.int .i64 0∧∃ ver',st'=Qu st lv ob xb ver' (s++t.txt N):=by
 intro n
 induction n with
 | zero =>
  intro t hv hh hb st lv ab ob xb wb pl px ver s hw ho hl
  refine ZhW rfl ?_
  obtain ⟨A,hA⟩:∃ A,A=st.A++[(st.ro,st.L)]:=⟨_,rfl⟩
  rw [← hA]
  have hL:=fun L=>ZbI (hw.rd.push hA (ro:=false) (L:=L)) hv
  have hln:=hv.line hh
  have htx:=ZJj hv hh
  rw [htx]
  have hg1:=fun L=>ZW hA (ro:=false) (L:=L) hw.a
  have hg2:=fun L=>ZW hA (ro:=false) (L:=L) ho.box
  generalize QU N t=u at *
  repeat' (first|refine ZE ?_|refine ZC ?_|refine ZF rfl ?_|refine ZO rfl rfl ?_|refine QB rfl rfl ?_|refine ZB rfl ?_|refine ZA ?_|(refine Zl rfl rfl (fun _=>?_) (fun _=>?_)<;>try (exfalso;omega))|refine ZU rfl ?_|refine Qs rfl rfl (Zr _) ?_|refine Z0 rfl (Z6 _) (QM _) ?_|refine ZS rfl rfl rfl (Yb _) ?_|refine QG rfl (hg1 _) rfl rfl ?_|refine ZD rfl rfl (by first|rfl|(simp only [List.nil_append,List.append_nil,List.cons_append,Zn,ZZ,Zb];first|done|rfl)) (hL _) ?_|refine QG rfl (hg2 _) rfl rfl ?_)
  all_goals try (exfalso;omega)
  refine Zf7 hA ho rfl rfl (by omega) (fun A' hA'=>?_)
  have hgo:(st.upd lv xb (.arr 1 (ver+1) (QI (s++u)))).get lv ob=some (.arr 1 0 [.ref lv xb ver 0 s.length]):=by
   rw [St.get_upd ho.blk ZJ5,if_neg (fun q=>ho.ne q.2.symm)];exact ho.box
  refine ZIj hA' rfl rfl (St.wr_upd ho.wr ho.wr) hgo rfl (Qz _ (Nat.lt_succ_self _)) rfl (fun A2 hA2=>?_)
  repeat' (first|refine ZE ?_|refine ZC ?_|refine ZF rfl ?_|refine ZB rfl ?_|refine ZA ?_|refine ZQ ?_|refine ZP ?_|refine ZX ?_)
  refine ⟨_,_,Zd hA2 (.inr rfl) rfl rfl rfl rfl rfl,rfl,ver+1,?_⟩
  unfold Qu
  rw [List.length_append]
  rfl
 | succ n ih =>
  intro t hv hh hb st lv ab ob xb wb pl px ver s hw ho hl
  refine ZhW rfl ?_
  obtain ⟨A,hA⟩:∃ A,A=st.A++[(st.ro,st.L)]:=⟨_,rfl⟩
  rw [← hA]
  obtain ⟨c1,c2,c3,c4⟩:=Qe hN hv (by omega)
  have hC:=fun L=>ZAb (hw.rd.push hA (ro:=false) (L:=L)) hv (by omega)
  have htx:=ZAc hN hv (by omega)
  have hg1:=fun L=>ZW hA (ro:=false) (L:=L) hw.a
  rw [htx]
  rw [← c4] at hl hb
  generalize Zx N t=l at *
  have hpos:∀ u∈l,1≤u.bytes:=fun u hu=>(c1 u hu).1.pos.2
  repeat' (first|refine ZE ?_|refine ZC ?_|refine ZF rfl ?_|refine ZO rfl rfl ?_|refine QB rfl rfl ?_|refine ZB rfl ?_|refine ZA ?_|refine QC rfl ?_|(refine Zl rfl rfl (fun _=>?_) (fun _=>?_)<;>try (exfalso;omega))|(refine Zu rfl rfl (fun _=>?_) (fun _=>?_)<;>try (exfalso;omega))|refine ZG rfl ?_|refine Qs rfl rfl (Zr _) ?_|refine Z0 rfl (Z6 _) (QM _) ?_|refine ZS rfl rfl rfl (Yb _) ?_|refine QG rfl (hg1 _) rfl rfl ?_|refine ZD rfl rfl (by first|rfl|(simp only [List.nil_append,List.append_nil,List.cons_append,Zn,ZZ,Zb];first|done|rfl)) (hC _) ?_|refine ZI ?_|refine ZL ?_)
  all_goals try (exfalso;omega)
  have hst:st=Qu st lv ob xb ver s:=ho.same.symm
  refine Zq (α:=Nat × List Blk × Nat) (fun p=>[(3,.ptr lv wb 0 0 0),(35,.lit (l.map Tr.av)),(36,.int .i64 l.length),(37,.int .i64 p.1)])
   (fun p=>⟨(Qu st lv ob xb p.2.2 (s++Tr.txtL N (l.take p.1))).A++[((Qu st lv ob xb p.2.2 (s++Tr.txtL N (l.take p.1))).ro,(Qu st lv ob xb p.2.2 (s++Tr.txtL N (l.take p.1))).L)],false,p.2.1⟩)
   (fun p=>p.1≤l.length) (fun p=>l.length-p.1) (0,[Blk.arr 7 0 [t.av]],ver) rfl ?_ (by simp) ?_
  ·simp only [List.take_zero,Tr.txtL,List.append_nil,← hst,← hA]
   rfl
  rintro ⟨i,G,ver⟩ hi
  simp only at hi ⊢
  have hw2:=hw.put ho ver (s++Tr.txtL N (l.take i))
  have ho2:=ho.put ver (s++Tr.txtL N (l.take i))
  have hpp:∀ v2 t2,Qu (Qu st lv ob xb ver (s++Tr.txtL N (l.take i))) lv ob xb v2 t2=Qu st lv ob xb v2 t2:=fun v2 t2=>ZeL ho.ne
  generalize hs1:Qu st lv ob xb ver (s++Tr.txtL N (l.take i))=st1 at *
  obtain ⟨A1,hA1⟩:∃ A1,A1=st1.A++[(st1.ro,st1.L)]:=⟨_,rfl⟩
  rw [← hA1]
  have hgw:=fun L=>ZW hA1 (ro:=false) (L:=L) hw2.w
  repeat' (first|refine ZE ?_|refine ZC ?_|refine ZF rfl ?_|refine ZB rfl ?_|refine ZA ?_|(refine Zh rfl rfl (fun _=>?_) (fun _=>?_)<;>try (exfalso;omega))|refine ZU rfl ?_|refine ZG rfl ?_|refine Z0 rfl rfl rfl ?_|refine Qr rfl rfl (by omega) Z6 (fun _ _=>?_)|refine QQ rfl (Zr _) ?_|refine Yh rfl rfl rfl (QJ _ _ _) (Qt _ _) rfl ?_|refine ZI ?_|refine ZQ ?_|refine Zo ?_|refine ZL ?_|refine ZP ?_|refine Za ?_|refine ZY rfl ?_|refine Zj ?_)
  ·rename_i u hu
   have hu2:l[i]?=some u:=hu
   have hum:=List.mem_of_getElem? hu2
   have hsum:Tr.bytesL l=Tr.bytesL (l.take i)+(u.bytes+Tr.bytesL (l.drop (i+1))):=by
    conv=>lhs;rw [← List.take_append_drop (i+1) l,Zm hu2,Tr.bytesL_append,Tr.bytesL_append]
    simp [Tr.bytesL];omega
   have p1:=ZMa hN (l:=l.take i) (fun w hw=>(c1 w (List.mem_of_mem_take hw)).1)
   have p2:=Tr.bytesL_nonneg (l:=l.drop (i+1)) (fun w hw=>by have:=hpos w (List.mem_of_mem_drop hw);omega)
   have p3:=Tr.bytesL_nonneg (l:=l.take i) (fun w hw=>by have:=hpos w (List.mem_of_mem_take hw);omega)
   have hle:lv≤st1.A.length:=St.get_le ho2.blk
   have htx2:s++Tr.txtL N (l.take (i+1))=s++Tr.txtL N (l.take i)++u.txt N:=by
    rw [Zm hu2,Tr.txtL_append,List.append_assoc];simp [Tr.txtL]
   have ihu:=fun L=>ih u (c1 u hum).1 (by have:=(c1 u hum).2.1;omega) (by omega) (hw2.push hA1 (ro:=false) (L:=L)) (ho2.push hA1 (ro:=false) (L:=L)) (by rw [List.length_append];omega)
   refine QG rfl (hgw _) rfl rfl ?_
   repeat' (refine Qs rfl rfl (Zr _) ?_)
   refine ZTW rfl rfl (wk4 _ _ _ _ rfl rfl rfl) (ihu _) ?_
   rintro v st' ⟨rfl,v2,rfl⟩
   rw [Zcp hA1 hle,hpp,← htx2]
   repeat' (first|refine ZE ?_|refine ZC ?_|refine ZF rfl ?_|refine ZB rfl ?_|refine ZA ?_|(refine Zu rfl rfl (fun _=>?_) (fun _=>?_)<;>try (exfalso;omega))|refine ZG rfl ?_|refine Zi rfl rfl (by omega) ?_|refine ZI ?_|refine Z2 ?_|refine Z4 ?_)
   exact ⟨(i+1,_,v2),⟨rfl,rfl⟩,by simp only;omega,by simp only;omega⟩
  ·have hi':i=l.length:=by omega
   subst hi'
   rw [List.take_length] at *
   refine ⟨_,_,Zd hA1 (.inr rfl) rfl rfl rfl rfl rfl,rfl,ver,?_⟩
   exact hs1.symm
end Go.Q15
namespace Go.Q15
open Go Go.QAbs
set_option maxRecDepth 100000
set_option maxHeartbeats 8000000
structure KRef (st:St) (lv ix ver:Nat) (ks:List Kid):Prop where
 ex:∃ es,st.get lv ix=some (.arr 4 ver es)∧es.take ks.length=ks.map Kid.av
theorem KRef.push {st:St} {A:List (Bool × List Blk)} {ro:Bool} {L:List Blk} (hA:A=st.A++[(st.ro,st.L)]) {lv ix ver:Nat} {ks:List Kid} (h:KRef st lv ix ver ks):KRef ⟨A,ro,L⟩ lv ix ver ks:=by
 obtain ⟨es,h1,h2⟩:=h
 exact ⟨es,ZW hA h1,h2⟩
theorem ZDn {ks:List Kid} {es:List AV} (h:es.take ks.length=ks.map Kid.av) {i:Nat} {k:Kid} (hk:ks[i]?=some k):es[0+((i:Nat):Int).toNat]?=some k.av:=by
 have hlt:i<ks.length:=(List.getElem?_eq_some_iff.1 hk).1
 have h1:(es.take ks.length)[i]?=some k.av:=by rw [h,List.getElem?_map,hk];rfl
 rw [List.getElem?_take,if_pos hlt] at h1
 rw [show 0+((i:Nat):Int).toNat=i by omega];exact h1
def ndR (h:Nat) (lv ix ver n:Nat):AV:=.agg [.int .i64 h,.str [],.ref lv ix ver 0 n]
theorem ZeM (n:Nat) (hn:n≤15) (ks:List Kid) (hk:2≤ks.length∧ks.length≤4) (hs:∀ k∈ks,KidOk n k) (st:St) {lv ix ver:Nat} (hr:KRef st lv ix ver ks):S Tb XL [ndR (n+1) lv ix ver ks.length] st=some (.bool true,st):=by
 refine Z5 rfl (fun A hA=>?_)
 obtain ⟨es,g,ge⟩:=hr
 have gA:=fun L=>ZW hA (ro:=false) (L:=L) g
 have hwi:∀ L,wIs 4 ver (St.get ⟨A,false,L⟩ lv ix)=true:=fun L=>by rw [gA];simp [wIs]
 unfold ndR
 repeat' (first|refine ZE ?_|refine ZC ?_|refine ZF rfl ?_|refine ZO rfl rfl ?_|refine ZS rfl rfl rfl rfl ?_|refine Z8 rfl ?_|refine Zp rfl rfl rfl rfl ?_|refine QB rfl rfl ?_|refine ZB rfl ?_|refine ZA ?_|refine Q2 rfl ?_|(refine Zh rfl rfl (fun _=>?_) (fun _=>?_)<;>try (exfalso;omega))|(refine QW rfl rfl (fun _=>?_) (fun _=>?_)<;>try (exfalso;omega))|(refine Zl rfl rfl (fun _=>?_) (fun _=>?_)<;>try (exfalso;omega))|(refine ZMw rfl rfl (fun _=>?_) (fun _=>?_)<;>try contradiction)|refine ZG rfl ?_|refine JB rfl rfl (by omega) ?_|refine Ze rfl rfl rfl ?_|refine ZD rfl rfl rfl (Zcg n _ (by omega) (by omega) _) ?_|refine ZI ?_|refine ZL ?_)
 refine Zq (α:=Nat × List Blk) (fun p=>[(3,.int .i64 (leastB n)),(4,.int .i64 (mostB n)),(59,.ref lv ix ver 0 ks.length),(60,.int .i64 ks.length),(61,.int .i64 p.1)]) (fun p=>⟨A,false,p.2⟩) (fun p=>p.1≤ks.length) (fun p=>ks.length-p.1) (0,[.arr 3 0 [.agg [.int .i64 ↑(n+1),.str [],.ref lv ix ver 0 ks.length]]]) rfl rfl (by simp) ?_
 rintro ⟨i,G⟩ hi
 simp only at hi ⊢
 repeat' (first|refine ZE ?_|refine ZC ?_|refine ZF rfl ?_|refine ZB rfl ?_|refine ZA ?_|(refine Zh rfl rfl (fun _=>?_) (fun _=>?_)<;>try (exfalso;omega))|refine ZU rfl ?_|refine ZG rfl ?_|refine ZI ?_|refine ZQ ?_|refine Zo ?_|refine ZL ?_|refine ZP ?_|refine Za ?_|refine ZY rfl ?_|refine Zj ?_)
 ·rename_i hlt
  obtain ⟨k,hk'⟩:∃ k,ks[i]?=some k:=⟨ks[i]'(by omega),by simp [show i<ks.length by omega]⟩
  obtain ⟨a1,b1,c1,d1,e1,f1,g1⟩:=hs k (List.mem_of_getElem? hk')
  refine Jb rfl rfl (by omega) (hwi _) ?_
  refine QG (x:=k.av) rfl (gA _) (ZDn ge hk') rfl ?_
  repeat' (first|refine ZE ?_|refine ZC ?_|refine ZF rfl ?_|refine ZO rfl rfl ?_|refine Z8 rfl ?_|refine Zp rfl rfl rfl rfl ?_|refine ZB rfl ?_|refine ZA ?_|refine Qs rfl rfl rfl ?_|(refine Zh rfl rfl (fun _=>?_) (fun _=>?_)<;>try (exfalso;omega))|(refine QW rfl rfl (fun _=>?_) (fun _=>?_)<;>try (exfalso;omega))|(refine Zu rfl rfl (fun _=>?_) (fun _=>?_)<;>try (exfalso;omega))|refine ZG rfl ?_|refine Zi rfl rfl (by omega) ?_|refine Z0 rfl rfl rfl ?_|refine Yh rfl rfl rfl rfl rfl rfl ?_|refine ZD rfl rfl rfl (ZZJ k.at_ a1 _) ?_|refine ZI ?_|refine Z2 ?_|refine Z4 ?_)
  exact ⟨(i+1,_),⟨rfl,rfl⟩,by simp only;omega,by simp only;omega⟩
 ·refine Zd hA (by first|exact .inl rfl|exact .inr rfl) rfl rfl rfl rfl ?_
  rfl
theorem ZjO (n:Nat) (ks:List Kid) (hk:ks.length≤4) (hs:∀ k∈ks,k.m.Fit 65536) (st:St) {lv ix ver:Nat} (hr:KRef st lv ix ver ks):S Tb ZAY [ndR (n+1) lv ix ver ks.length] st=some ((QE (ks.map Kid.m)).av,st):=by
 refine Z5 rfl (fun A hA=>?_)
 obtain ⟨es,g,ge⟩:=hr
 have gA:=fun L=>ZW hA (ro:=false) (L:=L) g
 have hwi:∀ L,wIs 4 ver (St.get ⟨A,false,L⟩ lv ix)=true:=fun L=>by rw [gA];simp [wIs]
 unfold ndR
 repeat' (first|refine ZE ?_|refine ZC ?_|refine ZF rfl ?_|refine ZO rfl rfl ?_|refine ZS rfl rfl rfl rfl ?_|refine ZB rfl ?_|refine ZA ?_|refine Q2 rfl ?_|(refine Zl rfl rfl (fun _=>?_) (fun _=>?_)<;>try (exfalso;omega))|refine ZG rfl ?_|refine Ze rfl rfl rfl ?_|refine Y5 rfl ?_|refine ZI ?_|refine ZL ?_)
 refine Zq (α:=Nat × List Blk) (fun p=>[(2,.ptr A.length 1 0 0 0),(3,.ref A.length 2 p.1 0 p.1),(13,.ref lv ix ver 0 ks.length),(14,.int .i64 ks.length),(15,.int .i64 p.1)]) (fun p=>⟨A,false,.arr 3 0 [.agg [.int .i64 ↑(n+1),.str [],.ref lv ix ver 0 ks.length]]::.arr 3 0 [.agg [.int .i64 0,.int .i64 0,.int .i64 0]]::.arr 3 p.1 ((ks.take p.1).map fun k=>k.m.av)::p.2⟩) (fun p=>p.1≤ks.length) (fun p=>ks.length-p.1) (0,[]) rfl rfl (by simp) ?_
 rintro ⟨i,G⟩ hi
 simp only at hi ⊢
 repeat' (first|refine ZE ?_|refine ZC ?_|refine ZF rfl ?_|refine ZB rfl ?_|refine ZA ?_|(refine Zh rfl rfl (fun _=>?_) (fun _=>?_)<;>try (exfalso;omega))|refine ZU rfl ?_|refine ZG rfl ?_|refine ZI ?_|refine Zo ?_|refine ZL ?_|refine Za ?_|refine ZY rfl ?_|refine Zj ?_)
 ·rename_i hlt
  obtain ⟨k,hk'⟩:∃ k,ks[i]?=some k:=⟨ks[i]'(by omega),by simp [show i<ks.length by omega]⟩
  refine Jb rfl rfl (by omega) (hwi _) ?_
  refine QG (x:=k.av) rfl (gA _) (ZDn ge hk') rfl ?_
  repeat' (first|refine ZC ?_|refine ZF rfl ?_|refine ZO rfl rfl ?_|refine ZB rfl ?_|refine ZA ?_|refine Qs rfl rfl rfl ?_|refine Zi rfl rfl (by omega) ?_|refine Z0 rfl rfl rfl ?_|refine Yh rfl rfl rfl rfl rfl rfl ?_|refine QL rfl rfl rfl rfl ?_|refine ZBr rfl rfl rfl (by first|rfl|(simp;done)|(simp;omega)) (by first|omega|(simp<;>omega)) (by decide) rfl rfl ?_|refine Z2 ?_|refine Z4 ?_)
  refine ⟨(i+1,G++[.arr 4 0 [k.av]]),⟨rfl,?_⟩,by simp only;omega,by simp only;omega⟩
  rw [Zm hk',List.map_append]
  rfl
 ·have hi':ks.take i=ks:=List.take_of_length_le (by omega)
  refine ZD rfl rfl rfl (Zj1 (ks.map Kid.m) (by simpa using hk) (by intro m hm;obtain ⟨k,hk1,rfl⟩:=List.mem_map.1 hm;exact hs k hk1) _ A.length 2 i i (by simp;omega) (by rw [St.get_cur,hi',List.map_map];rfl)) ?_
  rw [show (QE (ks.map Kid.m)).av=.agg [.int .i64 (QE (ks.map Kid.m)).b,.int .i64 (QE (ks.map Kid.m)).r,.int .i64 (QE (ks.map Kid.m)).l] from rfl]
  repeat' (first|refine ZB rfl ?_|refine ZA ?_|refine Qn rfl rfl rfl rfl rfl rfl ?_|refine ZQ ?_|refine ZP ?_)
  refine Ji hA (by first|exact .inl rfl|exact .inr rfl) rfl rfl rfl rfl rfl ?_
  rfl
theorem ZeN (n:Nat) (hn:n≤15) (ks:List Kid) (hk:2≤ks.length∧ks.length≤4) (hs:∀ k∈ks,KidOk n k) (hsum:(QE (ks.map Kid.m)).b≤65536) (st:St) {lv ix ver:Nat} (hr:KRef st lv ix ver ks):S Tb Xz [ndR (n+1) lv ix ver ks.length] st=some (.int .i64 0,st):=by
 refine Z5 rfl (fun A hA=>?_)
 have hf:=fun L=>ZeM n hn ks hk hs _ (hr.push hA (ro:=false) (L:=L))
 have hS:=fun L=>ZjO n ks hk.2 (fun k hk=>(hs k hk).fit) _ (hr.push hA (ro:=false) (L:=L))
 unfold Mea.av ndR at *
 repeat' (first|refine ZE ?_|refine ZC ?_|refine ZF rfl ?_|refine ZS rfl rfl rfl rfl ?_|refine ZB rfl ?_|refine ZA ?_|refine ZLx (agg:=false) rfl rfl ?_|(refine QW rfl rfl (fun _=>?_) (fun _=>?_)<;>try (exfalso;omega))|refine ZG rfl ?_|refine Jy rfl rfl ?_|refine Ze rfl rfl rfl ?_|refine ZD rfl rfl rfl (hf _) ?_|refine ZD rfl rfl rfl (hS _) ?_|refine ZI ?_|refine ZQ ?_|refine ZP ?_)
 refine Zd hA (by first|exact .inl rfl|exact .inr rfl) rfl rfl rfl rfl ?_
 rfl
end Go.Q15
namespace Go.Q15
open Go Go.QAbs
set_option maxRecDepth 100000
set_option maxHeartbeats 8000000
structure AR where
 blk:List Int
 n:Nat
 ver:Nat
 states:List Int
 gens:List Int
 most:Int
 nodes:ZJ
 slots:Int
 allocs:Int
 frees:Int
 stale:Int
namespace AR
def b0 (r:AR):Blk:=.arr 1 0 (r.states.map (.int .u8))
def b1 (r:AR):Blk:=.arr 1 r.ver (r.blk.map (.int .i64))
def b2 (r:AR):Blk:=.arr 1 0 (r.gens.map (.int .u64))
def b3 (r:AR) (lv b:Nat):Blk:=.arr 4 0 [.agg [.ref lv (b+1) r.ver 0 r.n,.ref lv b 0 0 r.states.length,.ref lv (b+2) 0 0 r.gens.length,.int .u64 r.most]]
def b4 (r:AR):Blk:=.map (r.nodes.map nodeAV)
def b5 (r:AR) (lv b:Nat):Blk:=.arr 6 0 [.agg [.int .i64 r.slots,.ptr lv (b+3) 0 0 0,.map lv (b+4),.int .i64 r.allocs,.int .i64 r.frees,.int .i64 r.stale]]
end AR
structure Has (st:St) (lv b:Nat) (r:AR):Prop where
 wr:st.wr lv
 h0:st.get lv b=some r.b0
 h1:st.get lv (b+1)=some r.b1
 h2:st.get lv (b+2)=some r.b2
 h3:st.get lv (b+3)=some (r.b3 lv b)
 h4:st.get lv (b+4)=some r.b4
 h5:st.get lv (b+5)=some (r.b5 lv b)
theorem Has.rd {st:St} {lv b:Nat} {r:AR} (h:Has st lv b r):Rd st lv (b+5) r.nodes:=⟨_,_,_,_,_,_,h.h5,h.h4⟩
theorem ZWW {T:Tab} {f:FuncId} {body:PC} {res:List RV} {args:List AV} {st st2:St} {v:AV} (hT:T f=some (.pf ⟨false,body,res⟩))
 (h:∀ A,A=st.A++[(st.ro,st.L)]→Ru (S T) body [] (fun x e st'=>Jq false res (x,e,st')=some (v,st2)) (YC 0 args) ⟨A,false,[]⟩):S T f args st=some (v,st2):=by
 obtain ⟨⟨x,e',st',h1,h2⟩⟩:=h _ rfl
 refine Zgl hT ?_
 simp only [JZ,Bool.false_eq_true,if_false,St.push,h1,Option.bind_some];exact h2
def AR.take (r:AR) (s:Nat):AR:={ r with n:=r.n-1,states:=r.states.set s 1 }
def QY (st:St) (lv b:Nat) (r:AR) (s:Nat):St:=(st.upd lv (b+3) ((r.take s).b3 lv b)).upd lv b (r.take s).b0
theorem ZCr {st:St} {lv b:Nat} {r:AR} (h:Has st lv b r) (s:Nat) (l' i':Nat):(QY st lv b r s).get l' i'=if l'=lv∧i'=b then some (r.take s).b0 else if l'=lv∧i'=b+3 then some ((r.take s).b3 lv b) else st.get l' i':=by
 have g1:∀ l' i',(st.upd lv (b+3) ((r.take s).b3 lv b)).get l' i'=if l'=lv∧i'=b+3 then some ((r.take s).b3 lv b) else st.get l' i':=fun l' i'=>St.get_upd h.h3 rfl
 have b1:(st.upd lv (b+3) ((r.take s).b3 lv b)).get lv b=some r.b0:=by rw [g1,if_neg (by omega)];exact h.h0
 rw [QY,St.get_upd b1 rfl,g1]
theorem Has.take {st:St} {lv b:Nat} {r:AR} (h:Has st lv b r) (s:Nat):Has (QY st lv b r s) lv b (r.take s):=by
 refine ⟨St.wr_upd (St.wr_upd h.wr h.wr) (St.wr_upd h.wr h.wr),?_,?_,?_,?_,?_,?_⟩
 ·rw [ZCr h,if_pos ⟨rfl,rfl⟩]
 ·rw [ZCr h,if_neg (by omega),if_neg (by omega)];exact h.h1
 ·rw [ZCr h,if_neg (by omega),if_neg (by omega)];exact h.h2
 ·rw [ZCr h,if_neg (by omega),if_pos ⟨rfl,rfl⟩]
 ·rw [ZCr h,if_neg (by omega),if_neg (by omega)];exact h.h4
 ·rw [ZCr h,if_neg (by omega),if_neg (by omega)];exact h.h5
theorem Zhm {st:St} {lv b:Nat} {r:AR} (h:Has st lv b r) {k s g:Nat} (hn:r.n=k+1) (hk:r.blk[k]?=some (s:Int)) (hs:s<r.states.length) (hs2:s<16384) (hg:r.gens[s]?=some (g:Int)) (hg1:1≤g∧g≤4294967295) (hbig:r.n<65536) :
 S Tb Yz [.ptr lv (b+3) 0 0 0] st=some (.tup [.int .u64 ((g*65536+s:Nat):Int),.int .i64 0],QY st lv b r s):=by
 refine ZWW rfl (fun A hA=>?_)
 have g1:=fun L=>ZW hA (ro:=false) (L:=L) h.h1
 have g3:=fun L=>ZW hA (ro:=false) (L:=L) h.h3
 unfold AR.b1 at g1
 unfold AR.b3 at g3
 rw [hn] at g3
 have hM:=fun st=>Ze3 s g hs2 hg1 st
 repeat' (first|refine ZE ?_|refine ZC ?_|refine ZF rfl ?_|refine ZO rfl rfl ?_|refine ZB rfl ?_|refine ZA ?_|refine Z7 rfl rfl ?_|refine Q2 rfl ?_|(refine Zl rfl rfl (fun _=>?_) (fun _=>?_)<;>try (exfalso;omega))|refine ZG rfl ?_|refine JB rfl rfl (by omega) ?_|refine Qm rfl rfl rfl rfl ?_|refine QG rfl (g3 _) rfl rfl ?_|refine ZI ?_)
 all_goals try (exfalso;omega)
 have hw1:∀ L,wIs 1 r.ver (St.get ⟨A,false,L⟩ lv (b+1))=true:=fun L=>by rw [g1];simp [wIs]
 refine Jb rfl rfl (by omega) (hw1 _) ?_
 refine QG (x:=.int .i64 s) rfl (g1 _) (by rw [show 0+(((k+1:Nat):Int)-1).toNat=k by omega,List.getElem?_map,hk];rfl) rfl ?_
 repeat' (first|refine ZE ?_|refine ZC ?_|refine ZF rfl ?_|refine ZO rfl rfl ?_|refine ZB rfl ?_|refine ZA ?_|refine Z7 rfl rfl ?_|refine Q2 rfl ?_|refine JB rfl rfl (by omega) ?_|refine QG rfl (g3 _) rfl rfl ?_)
 refine ZBq rfl rfl (by omega) (hw1 _) ?_
 repeat' (first|refine ZO rfl rfl ?_|refine Z7 rfl rfl ?_)
 have hle:=St.get_le h.h3
 have h3':=h.h3
 unfold AR.b3 at h3'
 rw [hn] at h3'
 refine ZIj hA rfl rfl h.wr h3' rfl (Qz _ (Nat.lt_succ_self _)) rfl (fun A1 hA1=>?_)
 have e1:(((k+1:Nat):Int)-1).toNat=k:=by omega
 have eB:Blk.arr 4 0 ([AV.agg [.ref lv (b+1) r.ver 0 (k+1),.ref lv b 0 0 r.states.length,.ref lv (b+2) 0 0 r.gens.length,.int .u64 r.most]].set 0 (.agg [.ref lv (b+1) r.ver 0 (((k+1:Nat):Int)-1).toNat,.ref lv b 0 0 r.states.length,.ref lv (b+2) 0 0 r.gens.length,.int .u64 r.most]))=(r.take s).b3 lv b:=by
  simp [AR.b3,AR.take,hn]
 rw [eB] at hA1
 have q1:∀ l' i',(st.upd lv (b+3) ((r.take s).b3 lv b)).get l' i'=if l'=lv∧i'=b+3 then some ((r.take s).b3 lv b) else st.get l' i':=fun l' i'=>St.get_upd h.h3 rfl
 have hw:=St.wr_upd (b:=(r.take s).b3 lv b) (ix:=b+3) h.wr h.wr
 have k0:(st.upd lv (b+3) ((r.take s).b3 lv b)).get lv b=some r.b0:=by rw [q1,if_neg (by omega)];exact h.h0
 have k2:(st.upd lv (b+3) ((r.take s).b3 lv b)).get lv (b+2)=some r.b2:=by rw [q1,if_neg (by omega)];exact h.h2
 have k3:(st.upd lv (b+3) ((r.take s).b3 lv b)).get lv (b+3)=some ((r.take s).b3 lv b):=by rw [q1,if_pos ⟨rfl,rfl⟩]
 have et:QY st lv b r s=(st.upd lv (b+3) ((r.take s).b3 lv b)).upd lv b (r.take s).b0:=rfl
 rw [et]
 generalize st.upd lv (b+3) ((r.take s).b3 lv b)=st1 at *
 unfold AR.b0 at k0
 unfold AR.b3 AR.take at k3
 simp only [List.length_set] at k3
 have m0:=fun L=>ZW hA1 (ro:=false) (L:=L) k0
 have m3:=fun L=>ZW hA1 (ro:=false) (L:=L) k3
 have hw0:∀ L,wIs 1 0 (St.get ⟨A1,false,L⟩ lv b)=true:=fun L=>by rw [m0];simp [wIs]
 repeat' (first|refine ZE ?_|refine ZC ?_|refine ZF rfl ?_|refine ZO rfl rfl ?_|refine ZB rfl ?_|refine ZA ?_|refine Z7 rfl rfl ?_|refine QG rfl (m3 _) rfl rfl ?_|refine Jb rfl rfl (by omega) (hw0 _) ?_)
 refine ZIj hA1 (y:=.int .u8 (r.states[s]'hs)) rfl rfl hw k0 ?_ rfl rfl (fun A2 hA2=>?_)
 ·rw [show 0+((s:Nat):Int).toNat=s by omega,List.getElem?_map,List.getElem?_eq_getElem hs];rfl
 have eS:Blk.arr 1 0 ((r.states.map (AV.int .u8)).set (0+((s:Nat):Int).toNat) (.int .u8 1))=(r.take s).b0:=by
  rw [show 0+((s:Nat):Int).toNat=s by omega]
  unfold AR.b0 AR.take
  simp only [List.map_set]
 rw [eS] at hA2
 have q2:∀ l' i',(st1.upd lv b (r.take s).b0).get l' i'=if l'=lv∧i'=b then some (r.take s).b0 else st1.get l' i':=fun l' i'=>St.get_upd k0 rfl
 have n2:(st1.upd lv b (r.take s).b0).get lv (b+2)=some r.b2:=by rw [q2,if_neg (by omega)];exact k2
 have n3:(st1.upd lv b (r.take s).b0).get lv (b+3)=some (.arr 4 0 [.agg [.ref lv (b+1) r.ver 0 (r.n-1),.ref lv b 0 0 r.states.length,.ref lv (b+2) 0 0 r.gens.length,.int .u64 r.most]]):=by rw [q2,if_neg (by omega)];exact k3
 generalize st1.upd lv b (r.take s).b0=st2 at *
 unfold AR.b2 at n2
 have o2:=fun L=>ZW hA2 (ro:=false) (L:=L) n2
 have o3:=fun L=>ZW hA2 (ro:=false) (L:=L) n3
 have hw2:∀ L,wIs 1 0 (St.get ⟨A2,false,L⟩ lv (b+2))=true:=fun L=>by rw [o2];simp [wIs]
 have hsg:s<r.gens.length:=(List.getElem?_eq_some_iff.1 hg).1
 repeat' (first|refine ZE ?_|refine ZC ?_|refine ZF rfl ?_|refine ZO rfl rfl ?_|refine ZB rfl ?_|refine ZA ?_|refine Z7 rfl rfl ?_|refine QG rfl (o3 _) rfl rfl ?_|refine Jb rfl rfl (by omega) (hw2 _) ?_)
 refine QG (x:=.int .u64 g) rfl (o2 _) (by rw [show 0+((s:Nat):Int).toNat=s by omega,List.getElem?_map,hg];rfl) rfl ?_
 repeat' (first|refine ZF rfl ?_|refine QB rfl rfl ?_|refine ZB rfl ?_|refine ZA ?_|refine ZD rfl rfl rfl (hM _) ?_|refine ZQ ?_|refine ZP ?_)
 refine Zd hA2 (.inr rfl) rfl rfl rfl rfl ?_
 rfl
end Go.Q15
namespace Go.Q15
open Go Go.QAbs
set_option maxRecDepth 100000
set_option maxHeartbeats 1000000
def Xq {α:Type} (l:List α) (g:Int) (i:Nat):List α:=(l.drop (Xr l.length g i).toNat).take (JV l.length g i).toNat
def Yc (row:List Tr):List Tr:=(List.range (ZV row.length 4).toNat).map fun i=>grp (Xq row (ZV row.length 4) i)
def Jd:Nat→List Tr→List Tr
 | 0,row=>row
 | n+1,row=>if row.length≤1 then row else Jd n (Yc row)
noncomputable def QX (s:List UInt8):Tr:=grp (Jd s.length ((Qi s).map Qd))
theorem Zcq (s:List UInt8) (g:Int) (i:Nat):ZGq s g i=Xq s g i:=rfl
theorem ZWX {α:Type} (l:List α) {g:Int} (hg:1≤g):∀ k:Nat,k≤g.toNat→((List.range k).map (Xq l g)).flatten=l.take (Xr l.length g k).toNat
 | 0,_=>by rw [ZBa l.length g (by omega)];simp
 | k+1,h=>by
  rw [List.range_succ,List.map_append,List.flatten_append,ZWX l hg k (by omega),ZAa]
  have h1:=Y0 (n:=l.length) (g:=g) (by omega) (by omega) (i:=k) (by omega)
  have h2:=YO (n:=l.length) (g:=g) (by omega) (by omega) k
  simp only [List.map_cons,List.map_nil,List.flatten_cons,List.flatten_nil,List.append_nil,Xq]
  rw [Int.toNat_add h1.1 h2,List.take_add]
theorem ZZO {α:Type} (l:List α) {g:Int} (hg:1≤g):((List.range g.toNat).map (Xq l g)).flatten=l:=by
 rw [ZWX l hg g.toNat (Nat.le_refl _),Zcl l.length g (by omega)]
 simp
theorem ZJl {α:Type} (l:List α) {g:Int} (hg:1≤g) {i:Nat} (hi:i<g.toNat):((Xq l g i).length:Int)=JV l.length g i:=by
 have h1:=Y0 (n:=l.length) (g:=g) (by omega) (by omega) (i:=i+1) (by omega)
 have h0:=Y0 (n:=l.length) (g:=g) (by omega) (by omega) (i:=i) (by omega)
 have h2:=YO (n:=l.length) (g:=g) (by omega) (by omega) i
 rw [ZAa] at h1
 rw [Xq,List.length_take,List.length_drop];omega
theorem ZJm {n m:Int} (hm:1≤m) (hn:1≤n) {i:Nat}:JV n (ZV n m) i≤m∧n / ZV n m≤JV n (ZV n m) i:=by
 have hg:=JW hn hm
 have e1:ZV n m*(n / ZV n m)+n % ZV n m=n:=Int.mul_ediv_add_emod n (ZV n m)
 have e2:=Int.emod_nonneg n (show ZV n m≠0 by omega)
 have e3:n≤m*ZV n m:=by
  have a1:m*((n-1) / m)+(n-1) % m=n-1:=Int.mul_ediv_add_emod (n-1) m
  have a2:=Int.emod_lt_of_pos (n-1) (show 0<m by omega)
  unfold ZV
  rw [Int.mul_add];omega
 refine ⟨?_,by unfold JV;split<;>omega⟩
 have e4:n / ZV n m≤m:=by
  apply Int.ediv_le_of_le_mul (by omega)
  exact e3
 unfold JV
 split
 ·rename_i h
  rcases Int.lt_or_le (n / ZV n m) m with q|q
  ·omega
  ·have:n / ZV n m=m:=by omega
   rw [this] at e1
   have:ZV n m*m=m*ZV n m:=Int.mul_comm _ _
   omega
 ·omega
structure Row (N:ZJ) (row:List Tr) (h:Nat) (s:List UInt8):Prop where
 val:∀ t∈row,Val N t∧t.h=h
 big:2≤row.length→∀ t∈row,Big t
 txt:Tr.txtL N row=s
theorem Zf8 (N:ZJ) (ls:List (List Tr)) (h:∀ l∈ls,2≤l.length):Tr.txtL N (ls.map grp)=Tr.txtL N ls.flatten:=by
 induction ls with
 | nil=>rfl
 | cons a r ih =>
  rw [List.map_cons,Tr.txtL,List.flatten_cons,Tr.txtL_append,ZGu N (h a (by simp)),ih (fun l hl=>h l (by simp [hl]))]
theorem ZOZ {N:ZJ} {row:List Tr} {h:Nat} {s:List UInt8} (hr:Row N row h s) (h2:2≤row.length) (hh:h+1≤16):Row N (Yc row) (h+1) s∧(Yc row).length<row.length∧1≤(Yc row).length:=by
 have hg:=JW (n:=row.length) (most:=4) (by omega) (by omega)
 have hg4:ZV row.length 4=((row.length:Int)-1) / 4+1:=rfl
 have hlen:(Yc row).length=(ZV row.length 4).toNat:=by unfold Yc;simp
 have hsz:∀ i,i<(ZV row.length 4).toNat→2≤(Xq row (ZV row.length 4) i).length∧(Xq row (ZV row.length 4) i).length≤4:=by
  intro i hi
  have h1:=ZJl row hg.1 hi
  have h3:=ZJm (n:=row.length) (m:=4) (by omega) (by omega) (i:=i)
  have h4:2≤(row.length:Int) / ZV row.length 4:=by
   apply (Int.le_ediv_iff_mul_le (by omega)).2
   omega
  omega
 refine ⟨⟨?_,?_,?_⟩,by omega,by omega⟩
 ·intro t ht
  unfold Yc at ht
  obtain ⟨i,hi,rfl⟩:=List.mem_map.1 ht
  rw [List.mem_range] at hi
  obtain ⟨a,b⟩:=hsz i hi
  obtain ⟨g1,g2,g3⟩:=ZBR (N:=N) (h:=h) a b hh (fun u hu=>by
   have hm:u∈row:=List.mem_of_mem_drop (List.mem_of_mem_take hu)
   exact ⟨(hr.val u hm).1,(hr.val u hm).2,hr.big h2 u hm⟩)
  exact ⟨g1,g2⟩
 ·intro _ t ht
  unfold Yc at ht
  obtain ⟨i,hi,rfl⟩:=List.mem_map.1 ht
  rw [List.mem_range] at hi
  obtain ⟨a,b⟩:=hsz i hi
  rw [ZDk a]
  intro q;simp [Tr.h] at q
 ·have e:Yc row=((List.range (ZV row.length 4).toNat).map (Xq row (ZV row.length 4))).map grp:=by unfold Yc;rw [List.map_map];rfl
  rw [e,Zf8 N _ (fun l hl=>by
   obtain ⟨i,hi,rfl⟩:=List.mem_map.1 hl
   rw [List.mem_range] at hi
   exact (hsz i hi).1),ZZO row hg.1,hr.txt]
theorem ZJ6 {N:ZJ} (hN:GoodN N):∀ (n:Nat) (row:List Tr) (h:Nat) (s:List UInt8),Row N row h s→row.length≤n+1→s.length≤65536→∃ h',Row N (Jd n row) h' s∧(Jd n row).length≤1∧(1≤row.length→1≤(Jd n row).length)
 | 0,row,h,s,hr,hl,hs=>⟨h,hr,by rw [Jd];omega,fun q=>q⟩
 | n+1,row,h,s,hr,hl,hs=>by
  rw [Jd]
  split
  ·exact ⟨h,hr,by assumption,fun q=>q⟩
  ·rename_i h2
   have hh:h+1≤16:=by
    match row,h2,hr with
    | t::r,h2,hr =>
     have h1:=(hr.val t (by simp))
     have h3:=ZDm hN h1.1
     have h4:(t.txt N).length≤s.length:=by rw [← hr.txt,Tr.txtL,List.length_append];omega
     have:=h1.1.height hN (by omega)
     omega
    | [],h2,_=>simp at h2
   obtain ⟨a,b,c⟩:=ZOZ hr (by omega) hh
   obtain ⟨h',d,e,f⟩:=ZJ6 hN n (Yc row) (h+1) s a (by omega) hs
   exact ⟨h',d,e,fun _=>f c⟩
theorem ZCs {N:ZJ} (s:List UInt8):Row N ((Qi s).map Qd) 0 s∧((Qi s).map Qd).length≤s.length∧(s≠[]→1≤((Qi s).map Qd).length):=by
 unfold Qi
 split
 ·rename_i h
  have:s=[]:=List.length_eq_zero_iff.1 h
  subst this
  exact ⟨⟨fun t ht=>by simp at ht,fun h=>by simp at h,rfl⟩,by simp,fun q=>absurd rfl q⟩
 ·rename_i h
  have hg:=JW (n:=s.length) (most:=16) (by omega) (by omega)
  have hsz:∀ i,i<(ZV s.length 16).toNat→1≤(Xq s (ZV s.length 16) i).length∧(Xq s (ZV s.length 16) i).length≤16∧(2≤ZV s.length 16→8≤(Xq s (ZV s.length 16) i).length):=by
   intro i hi
   have h1:=ZJl s hg.1 hi
   have h3:=ZJm (n:=s.length) (m:=16) (by omega) (by omega) (i:=i)
   have h4:1≤(s.length:Int) / ZV s.length 16:=by
    apply (Int.le_ediv_iff_mul_le (by omega)).2
    omega
   refine ⟨by omega,by omega,fun h2=>?_⟩
   have hg4:ZV s.length 16=((s.length:Int)-1) / 16+1:=rfl
   have h5:8≤(s.length:Int) / ZV s.length 16:=by
    apply (Int.le_ediv_iff_mul_le (by omega)).2
    omega
   omega
  have hlen:(((List.range (ZV s.length 16).toNat).map (ZGq s (ZV s.length 16))).map Qd).length=(ZV s.length 16).toNat:=by simp
  refine ⟨⟨?_,?_,?_⟩,by omega,fun _=>by omega⟩
  ·intro t ht
   obtain ⟨c,hc,rfl⟩:=List.mem_map.1 ht
   obtain ⟨i,hi,rfl⟩:=List.mem_map.1 hc
   rw [List.mem_range] at hi
   have:=hsz i hi
   exact ⟨ZE3 ⟨this.1,this.2.1⟩,rfl⟩
  ·intro h2 t ht
   obtain ⟨c,hc,rfl⟩:=List.mem_map.1 ht
   obtain ⟨i,hi,rfl⟩:=List.mem_map.1 hc
   rw [List.mem_range] at hi
   have:=(hsz i hi).2.2 (by omega)
   intro _
   rw [Y1,Zcq];omega
  ·have hf : ∀ l : List (List UInt8), Tr.txtL N (l.map Qd) = l.flatten := by
    intro l
    induction l with
    | nil=>rfl
    | cons a l ih=>rw [List.map_cons,Tr.txtL,ih,ZOU,List.flatten_cons]
   rw [hf]
   exact ZZO s hg.1
theorem ZBb {N:ZJ} (hN:GoodN N) {s:List UInt8} (hs:s.length≤65536):VE N (QX s)∧(QX s).txt N=s∧(QX s).bytes=s.length:=by
 obtain ⟨a,b,c⟩:=ZCs (N:=N) s
 obtain ⟨h',d,e,f⟩:=ZJ6 hN s.length _ 0 s a (by omega) hs
 unfold QX
 generalize Jd s.length ((Qi s).map Qd)=row at *
 match row,e,d with
 | [],_,d =>
  have:s=[]:=d.txt.symm
  subst this
  exact ⟨.inl zero_empty,rfl,rfl⟩
 | [t],_,d =>
  have h1:=(d.val t (by simp)).1
  have h2:=d.txt
  simp only [Tr.txtL,List.append_nil] at h2
  refine ⟨.inr h1,h2,?_⟩
  have:=ZDm hN h1
  rw [h2] at this
  exact this.symm
end Go.Q15
namespace Go.Q15
open Go Go.QAbs
set_option maxRecDepth 100000
set_option maxHeartbeats 8000000
theorem ZQW {α:Type} (G:List α) (a:α) (r:List α):(G++a::r)[G.length]?=some a:=by
 rw [List.getElem?_append_right (Nat.le_refl _)];simp
theorem ZfA {α:Type} (G:List α) (a b:α) (r:List α):(G++a::b::r)[G.length+1]?=some b:=by
 rw [List.getElem?_append_right (by omega)];simp
theorem ZfB {α:Type} (G:List α) (a b c:α) (r:List α):(G++a::b::r).set (G.length+1) c=G++a::c::r:=by
 rw [List.set_append_right _ _ (by omega)];simp
theorem Zcr {O:Orc} {k:List Fr} {Q:Yv} {e:Env} {A:List (Bool × List Blk)} {L:List Blk} {keep:List Nat} {is:List PI} {d:Nat} {s x:Opd} {ix ver n:Nat} {l:List Tr} {t:Tr} (hs:Zg e s=some (.ref A.length ix ver 0 n)) (hx:Zg e x=some (.lit ([t].map Tr.av))) (hg:L[ix]?=some (Blk.arr 7 ver (l.map Tr.av))) (hb:n=l.length)
 (hl:l.length+1<4294967296) (h:Is O is keep k Q ((d,.ref A.length ix (ver+1) 0 (n+1))::e) ⟨A,false,L.set ix (Blk.arr 7 (ver+1) ((l++[t]).map Tr.av))⟩):Is O (⟨some d,none,false,.app 7 80 s x⟩::is) keep k Q e ⟨A,false,L⟩:=by
 subst hb
 refine ZJ2 hs hg rfl hx (.lit _) (by simp;omega) ?_
 simpa using h
theorem Zcs {O:Orc} {k:List Fr} {Q:Yv} {e:Env} {A:List (Bool × List Blk)} {L:List Blk} {keep:List Nat} {is:List PI} {d w:Nat} (h:Is O is keep k Q ((d,.ref A.length L.length 0 0 0)::e) ⟨A,false,L++[Blk.arr w 0 []]⟩):Is O (⟨some d,none,false,.onil w⟩::is) keep k Q e ⟨A,false,L⟩ :=
 Z3 (v:=.ref A.length L.length 0 0 0) (st':=⟨A,false,L++[Blk.arr w 0 []]⟩) (by simp only [Zk,evalPO,Option.bind_some,St.new_cur,Je]) h
theorem Zf9 {N:ZJ} (hN:GoodN N) {A:List (Bool × List Blk)} {k:List Fr} {Q:Yv} {s:List UInt8} (hs:s.length≤65536) (B:Blk) (row:List Tr) (n:Nat) (r:List Tr) (hrow:Row N row 0 s) (hn:row.length≤n+1) (h64:row.length≤65536) (hr:Jd n row=r)
 (hex:∀ (G:List Blk) (ver:Nat),Rk (S Tb) k Q (.ex 2) [(2,.ptr A.length 0 0 0 0),(4,.ref A.length (B::G).length ver 0 r.length),(31,.bool false)] ⟨A,false,B::G++[.arr 7 ver (r.map Tr.av)]⟩) (ver:Nat) (ex:Env) :
 Ru (S Tb) (.loop ZG1) k Q ((2,.ptr A.length 0 0 0 0)::(4,.ref A.length 1 ver 0 row.length)::ex) ⟨A,false,[B,.arr 7 ver (row.map Tr.av)]⟩:=by
 refine Zq (α:=List Tr × List Blk × Nat × Env) (fun p=>(2,.ptr A.length 0 0 0 0)::(4,.ref A.length (B::p.2.1).length p.2.2.1 0 p.1.length)::p.2.2.2) (fun p=>⟨A,false,B::p.2.1++[.arr 7 p.2.2.1 (p.1.map Tr.av)]⟩)
  (fun p=>p.1.length≤65536∧∃ k h,p.1.length≤k+1∧Row N p.1 h s∧Jd k p.1=r) (fun p=>p.1.length) (row,[],ver,ex) rfl rfl ⟨h64,n,0,hn,hrow,hr⟩ ?_
 rintro ⟨row,G,ver,ex⟩ ⟨h64,kk,h,hk,hR,hb⟩
 simp only at h64 hk hR hb ⊢
 repeat' (first|refine ZE ?_|refine ZC ?_|refine ZF rfl ?_|refine ZB rfl ?_|refine ZA ?_|refine Q2 rfl ?_|(refine QW rfl rfl (fun _=>?_) (fun _=>?_)<;>try (exfalso;omega))|refine ZU rfl ?_|refine ZG rfl ?_|refine ZI ?_|refine Zo ?_|refine ZL ?_|refine Za ?_|refine Zj ?_)
 ·rename_i hgt
  have hgt2:2≤row.length:=by omega
  obtain ⟨kk,rfl⟩:∃ j,kk=j+1:=⟨kk-1,by omega⟩
  rw [Jd,if_neg (by omega)] at hb
  have hh:h+1≤16:=by
   match row,hgt2,hR with
   | t::r,_,hR =>
    have h1:=(hR.val t (by simp))
    have h3:=ZDm hN h1.1
    have h4:(t.txt N).length≤s.length:=by rw [← hR.txt,Tr.txtL,List.length_append];omega
    have:=h1.1.height hN (by omega)
    omega
  obtain ⟨u1,u2,u3⟩:=ZOZ hR hgt2 hh
  refine ZD rfl rfl rfl (ZjK row.length 4 _ (by omega)) ?_
  have hg:=JW (n:=row.length) (most:=4) (by omega) (by omega)
  have hget:=fun i hi=>ZGr (n:=row.length) (m:=4) (by omega) (i:=i) hi
  have hlen:=ZGs (n:=row.length) (m:=4) (by omega)
  have hpb:=fun (i:Nat) hi=>Y0 (n:=row.length) (g:=ZV row.length 4) (by omega) (by omega) (i:=i) hi
  have hps:=ZAa row.length (ZV row.length 4)
  have hp0:=ZBa row.length (ZV row.length 4) (by omega)
  have hsn:=YO (n:=row.length) (g:=ZV row.length 4) (by omega) (by omega)
  have hrl:(Yc row).length=(ZV row.length 4).toNat:=by unfold Yc;simp
  have hrg:∀ i,i<(ZV row.length 4).toNat→(Yc row)[i]?=some (grp (Xq row (ZV row.length 4) i)):=by
   intro i hi
   unfold Yc
   rw [List.getElem?_map,List.getElem?_range hi];rfl
  have hpl:=fun i hi=>ZJl row (g:=ZV row.length 4) hg.1 (i:=i) hi
  have hpe:∀ i,Xq row (ZV row.length 4) i=(row.drop (Xr row.length (ZV row.length 4) i).toNat).take (JV row.length (ZV row.length 4) i).toNat:=fun _=>rfl
  generalize Yk (row.length:Int) 4=z at *
  generalize ZV (row.length:Int) 4=g at *
  generalize Yc row=up at *
  have hh2:∀ u∈row,u.h≤65536:=fun u hu=>by have:=(hR.val u hu).1.h16;omega
  repeat' (first|refine ZE ?_|refine ZC ?_|refine ZF rfl ?_|refine QB rfl rfl ?_|refine ZB rfl ?_|refine ZA ?_|refine QC rfl ?_|(refine Zu rfl rfl (fun _=>?_) (fun _=>?_)<;>try (exfalso;omega))|refine ZG rfl ?_|refine Zcs ?_|refine ZI ?_|refine ZL ?_)
  all_goals try (exfalso;omega)
  refine Zq (α:=Nat) (fun i=>[(2,.ptr A.length 0 0 0 0),(4,.ref A.length (B::G).length ver (Xr row.length g i).toNat (row.length-(Xr row.length g i).toNat)),(9,.ref A.length ((B::G).length+1) i 0 i),(42,ZDl z),(43,.int .i64 z.length),(44,.int .i64 i)])
   (fun i=>⟨A,false,B::G++[.arr 7 ver (row.map Tr.av),.arr 7 i ((up.take i).map Tr.av)]⟩) (fun i=>i≤z.length) (fun i=>z.length-i) 0 ?_ ?_ (Nat.zero_le _) ?_
  ·simp [hp0]
  ·simp
  intro i hi
  repeat' (first|refine ZE ?_|refine ZC ?_|refine ZF rfl ?_|refine ZB rfl ?_|refine ZA ?_|refine QQ rfl rfl ?_|refine Qr rfl rfl (by omega) (fun _=>rfl) (fun _ _=>?_)|(refine Zh rfl rfl (fun _=>?_) (fun _=>?_)<;>try (exfalso;omega))|refine ZU rfl ?_|refine ZG rfl ?_|refine ZI ?_|refine Zo ?_|refine ZL ?_|refine Za ?_|refine Z2 ?_|refine ZY rfl ?_|refine Z4 ?_|refine Zj ?_)
  ·rename_i hlt x hx
   have hi2:i<g.toNat:=by omega
   have hx2:z[i]?=some x:=hx
   rw [hget i hi2] at hx2
   have hx3:=Option.some.inj hx2
   subst hx3
   have hb0:=hpb i (by omega)
   have hb1:=hpb (i+1) (by omega)
   rw [hps i] at hb1
   have hs0:=hsn i
   have hpl2:=hpl i hi2
   have hrg2:=hrg i hi2
   have hpe2:=hpe i
   have hps2:=hps i
   generalize Xr (row.length:Int) g i=p at *
   generalize JV (row.length:Int) g i=q at *
   generalize Xq row g i=part at *
   have hgetL:∀ b:Blk,(B::G++[.arr 7 ver (row.map Tr.av),b])[(B::G).length]?=some (.arr 7 ver (row.map Tr.av)):=fun b=>ZQW _ _ _
   have hwi:wIs 7 ver (St.get ⟨A,false,B::G++[.arr 7 ver (row.map Tr.av),.arr 7 i ((up.take i).map Tr.av)]⟩ A.length (B::G).length)=true:=by
    rw [St.get_cur,hgetL];simp [vis,wIs]
   refine ZBq rfl rfl (by omega) hwi ?_
   have hSl:Sl ⟨A,false,B::G++[.arr 7 ver (row.map Tr.av),.arr 7 i ((up.take i).map Tr.av)]⟩ (.ref A.length (B::G).length ver p.toNat q.toNat) part:=by
    refine .ref (es:=row.map Tr.av) (by rw [St.get_cur,hgetL];rfl) (by omega) (by rw [List.length_map];omega) ?_
    rw [hpe2,← List.map_drop,← List.map_take]
   refine ZD rfl rfl rfl (Xa (by omega) (fun u hu=>hh2 u (by rw [hpe2] at hu;exact List.mem_of_mem_drop (List.mem_of_mem_take hu))) hSl) ?_
   have hti:(up.take i).length=i:=by rw [List.length_take];omega
   refine ZE2 rfl ?_
   refine Zcr rfl rfl (ZfA _ _ _ _) hti.symm (by omega) ?_
   rw [ZfB]
   have htk:=Zm hrg2
   rw [← htk]
   repeat' (first|refine ZC ?_|refine ZF rfl ?_|refine ZB rfl ?_|refine ZA ?_)
   have hwi2:wIs 7 ver (St.get ⟨A,false,B::G++[.arr 7 ver (row.map Tr.av),.arr 7 (i+1) ((up.take (i+1)).map Tr.av)]⟩ A.length (B::G).length)=true:=by
    rw [St.get_cur,hgetL];simp [vis,wIs]
   refine ZLz rfl rfl (by omega) hwi2 ?_
   repeat' (first|refine ZC ?_|refine ZF rfl ?_|refine ZB rfl ?_|refine ZA ?_|refine Zi rfl rfl (by omega) ?_|refine Z2 ?_|refine Z4 ?_)
   refine ⟨i+1,⟨?_,rfl⟩,by omega,by omega⟩
   rw [show p.toNat+q.toNat=(p+q).toNat by omega,show row.length-p.toNat-q.toNat=row.length-(p+q).toNat by omega]
   simp only [hps2]
   rfl
  ·have hi2:i=up.length:=by omega
   subst hi2
   rw [List.take_length]
   refine ⟨(up,G++[.arr 7 ver (row.map Tr.av)],up.length,[]),⟨?_,?_⟩,⟨by simp only;omega,kk,h+1,by simp only;omega,u1,hb⟩,by simp only;omega⟩
   ·simp
   ·simp
 ·have hrr : Jd kk row = row := by
   cases kk with
   | zero=>rfl
   | succ j=>rw [Jd,if_pos (by omega)]
  rw [hrr] at hb
  subst hb
  exact hex G ver
theorem ZQ3 (s:List UInt8):(Qi s).length≤s.length:=by
 have:=(ZCs (N:=[]) s).2.1
 simpa using this
theorem ZbK {N:ZJ} (hN:GoodN N) (s:List UInt8) (hs:s.length≤65536) (st:St):S Tb Xv [.str s] st=some (.tup [(QX s).av,.int .i64 0],st):=by
 refine Z5 rfl (fun A hA=>?_)
 have hcl:=ZQ3 s
 have hch:=fun st=>Zhg s st (by omega)
 obtain ⟨ra,rb,rc⟩:=ZCs (N:=N) s
 obtain ⟨h',rd,re,rf⟩:=ZJ6 hN s.length _ 0 s ra (by omega) hs
 unfold QX
 generalize hres:Jd s.length ((Qi s).map Qd)=r at *
 have hG:=fun {v:AV} {st:St} (hv:Sl st v r)=>Xa (by omega) (fun u hu=>by have:=(rd.val u hu).1.h16;omega) hv
 have hlen:((Qi s).map Qd).length=(Qi s).length:=by simp
 generalize hc:Qi s=c at *
 unfold ZQ0 at hch
 repeat' (first|refine ZE ?_|refine ZC ?_|refine ZF rfl ?_|refine ZB rfl ?_|refine ZA ?_|refine Qo rfl ?_|refine QC rfl ?_|(refine QW rfl rfl (fun _=>?_) (fun _=>?_)<;>try (exfalso;omega))|refine ZG rfl ?_|refine Ze rfl rfl rfl ?_|refine Y5 rfl ?_|refine ZD rfl rfl (by first|rfl|(simp only [List.nil_append,List.append_nil,List.cons_append,Zn,ZZ,Zb];first|done|rfl)) (hch _) ?_|refine ZI ?_|refine ZL ?_)
 all_goals try (exfalso;omega)
 refine Zq (α:=Nat) (fun i=>[(2,.ptr A.length 0 0 0 0),(4,.ref A.length 1 i 0 i),(17,.lit (c.map .str)),(18,.int .i64 c.length),(19,.int .i64 i)])
  (fun i=>⟨A,false,[.arr 7 0 [trZ],.arr 7 i ((c.take i).map fun s=>(Qd s).av)]⟩) (fun i=>i≤c.length) (fun i=>c.length-i) 0 rfl rfl (by simp) ?_
 rintro i hi
 repeat' (first|refine ZE ?_|refine ZC ?_|refine ZF rfl ?_|refine ZB rfl ?_|refine ZA ?_|refine QQ rfl rfl ?_|refine Qr rfl rfl (by omega) (fun _=>rfl) (fun _ _=>?_)|(refine Zh rfl rfl (fun _=>?_) (fun _=>?_)<;>try (exfalso;omega))|refine ZU rfl ?_|refine ZG rfl ?_|refine Zi rfl rfl (by omega) ?_|refine Zf rfl rfl rfl ?_|refine QL rfl rfl rfl rfl ?_|refine ZFS rfl rfl rfl (by first|rfl|(simp;done)|(simp;omega)) (by first|omega|(simp<;>omega)) (by decide) rfl rfl rfl ?_|refine ZI ?_|refine Zo ?_|refine ZL ?_|refine Za ?_|refine Z2 ?_|refine ZY rfl ?_|refine Z4 ?_|refine Zj ?_)
 ·rename_i x hx
  have hx2:c[i]?=some x:=hx
  refine ⟨i+1,⟨rfl,?_⟩,by omega,by omega⟩
  simp only [Zm hx2,List.map_append,List.map_cons,List.map_nil]
  rfl
 ·have hi':i=c.length:=by omega
  subst hi'
  rw [List.take_length]
  have:=Zf9 hN hs (A:=A) (.arr 7 0 [trZ]) (c.map Qd) s.length r ra (by omega) (by omega) hres (k:=[.blk 2,.seq (.seq ZG2 .ret)]) (Q:=fun x e st'=>Jq false [.c 2 true 7,.s 3] (x,e,st')=some (.tup [(grp r).av,.int .i64 0],st)) (fun G ver=>?_) c.length [(17,.lit (c.map .str)),(18,.int .i64 c.length),(19,.int .i64 c.length),(20,.bool false)]
  ·rw [List.map_map,List.length_map] at this
   exact this
  ·repeat' (first|refine ZE ?_|refine ZC ?_|refine ZF rfl ?_|refine ZB rfl ?_|refine ZA ?_|refine Qn rfl rfl rfl rfl (QJ _ _ _) (Qt _ _) ?_|refine ZD rfl rfl (by first|rfl|(simp only [List.nil_append,List.append_nil,List.cons_append,Zn,ZZ,Zb];first|done|rfl)) (hG (Sl.cur (ZQW _ _ _) rfl)) ?_|refine ZQ ?_|refine ZP ?_|refine ZY rfl ?_)
   exact ZJ1 hA (.inr rfl) rfl rfl rfl rfl
end Go.Q15
namespace Go.Q15
open Go Go.QAbs
set_option maxRecDepth 100000
set_option maxHeartbeats 8000000
theorem Zct:∀ {N:ZJ} {h:Nat} {x:Nd},lk N h=none→ZIW (.int .u64 h) x.av (N.map nodeAV)=some ((N++[(h,x)]).map nodeAV)
 | [],h,x,_=>rfl
 | p::N,h,x,hn=>by
  rw [lk] at hn
  by_cases q:p.1=h
  ·rw [if_pos q] at hn;simp at hn
  ·rw [if_neg q] at hn
   rw [List.map_cons,ZIW]
   show (Option.bind (if IntKind.u64=IntKind.u64 then some ((h:Int) == (p.1:Int)) else none) fun b=>if b=true then some ((AV.int .u64 h,x.av)::N.map nodeAV) else (ZIW (.int .u64 h) x.av (N.map nodeAV)).map (nodeAV p::·))=_
   rw [if_pos rfl,Option.bind_some,if_neg (by simp;omega),Zct hn]
   rfl
section
variable {O:Orc} {k:List Fr} {Q:Yv} {e:Env} {A:List (Bool × List Blk)} {L:List Blk} {keep:List Nat} {is:List PI} {d:Nat}
theorem Zcu {st:St} {x i v:Opd} {lv ix h:Nat} {w:AV} {es es':List (AV × AV)} (hA:A=st.A++[(st.ro,st.L)]) (hx:Zg e x=some (.map lv ix)) (hi:Zg e i=some (.int .u64 h)) (hv:Zg e v=some w) (hw:st.wr lv) (hg:st.get lv ix=some (.map es))
 (hs:Zc QN (lv+1) ⟨A,false,L⟩ w=some (w,⟨A,false,L⟩)) (hp:ZIW (.int .u64 h) w es=some es')
 (hh:∀ A',A'=(st.upd lv ix (.map es')).A++[((st.upd lv ix (.map es')).ro,(st.upd lv ix (.map es')).L)]→Is O is keep k Q e ⟨A',false,L⟩):Is O (⟨none,none,false,.mupd 0 x i v⟩::is) keep k Q e ⟨A,false,L⟩:=by
 have hl:=St.get_le hg
 refine Z3 (od:=none) (v:=.undef) (st':=St.upd ⟨A,false,L⟩ lv ix (.map es')) ?_ ?_
 ·simp only [Zk,evalPO,ZH hx,ZH hi,ZH hv,ZQe,Yr,if_true,hs,Option.bind_some,ZTd,ZW hA hg,ZQ8,hp,St.put_upd (Xu hA hl hw) (ZW hA hg),ZA8]
 ·rw [J6 hA hl]
  exact hh _ rfl
end
theorem ZjP {st:St} {lv ix ver:Nat} {ks:List Kid} (hr:KRef st lv ix ver ks) (hl:ks.length≤4):S Tb Zz [.ref lv ix ver 0 ks.length] st=some (.lit (ks.map Kid.av),st):=by
 obtain ⟨es,g,ge⟩:=hr
 refine Zgm (o:=ZFL 4) rfl ?_
 have hle:ks.length≤es.length:=by
  have:=congrArg List.length ge
  rw [List.length_take,List.length_map] at this;omega
 have him:(ks.map Kid.av).all (imm 6)=true:=by
  rw [List.all_eq_true]
  intro v hv
  obtain ⟨k,_,rfl⟩:=List.mem_map.1 hv
  rfl
 simp only [ZFL,g,ZDr,true_and,Nat.zero_add,if_pos hle,List.drop_zero,Option.bind_some,ge,ZZL,List.length_map,show ks.length≤65536 by omega,him,and_self,if_true]
def AR.alloc (r:AR) (s g:Nat) (x:Nd):AR:={ r.take s with nodes:=r.nodes++[(g*65536+s,x.copy)],allocs:=r.allocs+1 }
def ZBT (st:St) (lv b:Nat) (r:AR) (s g:Nat) (x:Nd):St:=((QY st lv b r s).upd lv (b+4) (r.alloc s g x).b4).upd lv (b+5) ((r.alloc s g x).b5 lv b)
theorem ZBc {st:St} {lv b:Nat} {r:AR} (h:Has st lv b r) (s g:Nat) (x:Nd) (l' i':Nat):(ZBT st lv b r s g x).get l' i'=if l'=lv∧i'=b+5 then some ((r.alloc s g x).b5 lv b) else if l'=lv∧i'=b+4 then some (r.alloc s g x).b4 else (QY st lv b r s).get l' i':=by
 have ht:=h.take s
 have g1:∀ l' i',((QY st lv b r s).upd lv (b+4) (r.alloc s g x).b4).get l' i'=if l'=lv∧i'=b+4 then some (r.alloc s g x).b4 else (QY st lv b r s).get l' i':=fun l' i'=>St.get_upd ht.h4 rfl
 have b1:((QY st lv b r s).upd lv (b+4) (r.alloc s g x).b4).get lv (b+5)=some ((r.take s).b5 lv b):=by rw [g1,if_neg (by omega)];exact ht.h5
 rw [ZBT,St.get_upd b1 rfl,g1]
theorem Has.alloc {st:St} {lv b:Nat} {r:AR} (h:Has st lv b r) (s g:Nat) (x:Nd):Has (ZBT st lv b r s g x) lv b (r.alloc s g x):=by
 have ht:=h.take s
 refine ⟨St.wr_upd (St.wr_upd ht.wr ht.wr) (St.wr_upd ht.wr ht.wr),?_,?_,?_,?_,?_,?_⟩
 ·rw [ZBc h,if_neg (by omega),if_neg (by omega)];exact ht.h0
 ·rw [ZBc h,if_neg (by omega),if_neg (by omega)];exact ht.h1
 ·rw [ZBc h,if_neg (by omega),if_neg (by omega)];exact ht.h2
 ·rw [ZBc h,if_neg (by omega),if_neg (by omega)];exact ht.h3
 ·rw [ZBc h,if_neg (by omega),if_pos ⟨rfl,rfl⟩]
 ·rw [ZBc h,if_pos ⟨rfl,rfl⟩]
theorem ZZP {st:St} {A:List (Bool × List Blk)} {ro:Bool} {L:List Blk} (hA:A=st.A++[(st.ro,st.L)]) {lv b s:Nat} {r:AR} (hl:lv≤st.A.length) :
 QY ⟨A,ro,L⟩ lv b r s=⟨(QY st lv b r s).A++[((QY st lv b r s).ro,(QY st lv b r s).L)],ro,L⟩:=by
 unfold QY
 rw [J6 hA hl]
 exact J6 rfl (by rw [St.upd_A];exact hl)
theorem Zhn (st:St) (lv b s:Nat) (r:AR):(QY st lv b r s).A.length=st.A.length:=by
 unfold QY;rw [St.upd_A,St.upd_A]
structure CanTake (r:AR) (k s g:Nat):Prop where
 n:r.n=k+1
 blk:r.blk[k]?=some (s:Int)
 st:s<r.states.length
 s16:s<16384
 gen:r.gens[s]?=some (g:Int)
 g1:1≤g
 g2:g≤4294967295
 big:r.n<65536
 new:lk r.nodes (g*65536+s)=none
 al:0≤r.allocs∧r.allocs<1000000
theorem ZZQ {st:St} {lv b:Nat} {r:AR} (h:Has st lv b r) {k s g:Nat} (hc:CanTake r k s g) (x:Nd) (v:AV) (hone:v.one=true)
 (A:List (Bool × List Blk)) (G:List Blk) (hA:A=(QY st lv b r s).A++[((QY st lv b r s).ro,(QY st lv b r s).L)]) (hC:∀ L,S Tb Zz [weak v] ⟨A,false,L⟩=some (.lit (x.ks.map Kid.av),⟨A,false,L⟩)) :
 Ru (S Tb) (.seq X9 (.seq ZAA (.seq ZAB (.seq ZAC .ret)))) [] (fun x' e st' =>
  Jq false [RV.s 4,RV.s 5] (x',e,st')=some (.tup [.int .u64 ((g*65536+s:Nat):Int),.int .i64 0],ZBT st lv b r s g x))
  [(0,.ptr lv (b+5) 0 0 0),(3,.ptr A.length 0 0 0 0),(13,.int .u64 ((g*65536+s:Nat):Int)),(14,.int .i64 0),(72,.bool false)] ⟨A,false,.arr 3 0 [.agg [.int .i64 x.h,.str x.text,v]]::G⟩:=by
 have ht:=h.take s
 have g5:=fun L=>ZW hA (ro:=false) (L:=L) ht.h5
 unfold AR.b5 at g5
 have hal:=hc.al
 have hpv:Jj (.agg [.int .i64 x.h,.str x.text,v]) false 2 1=some v:=rfl
 repeat' (first|refine ZE ?_|refine ZC ?_|refine ZO rfl rfl ?_|refine ZS rfl rfl rfl rfl ?_)
 refine ZD rfl rfl rfl (hC _) ?_
 have hstv:(Qv 3 (.agg [.int .i64 x.h,.str x.text,v]) 2 1 (.lit (x.ks.map Kid.av))).bind YI=some x.copy.av:=rfl
 repeat' (first|refine ZE ?_|refine ZC ?_|refine ZF rfl ?_|refine ZO rfl rfl ?_|refine ZS rfl rfl rfl rfl ?_|refine ZB rfl ?_|refine ZA ?_|refine Z7 rfl rfl ?_|refine Qn rfl rfl rfl rfl rfl rfl ?_|refine QG rfl (g5 _) rfl rfl ?_)
 have hp:=Zct (N:=r.nodes) (x:=x.copy) hc.new
 refine Zcu (w:=x.copy.av) hA rfl rfl rfl ht.wr ht.h4 rfl hp (fun A1 hA1=>?_)
 have eM:Blk.map ((r.nodes++[(g*65536+s,x.copy)]).map nodeAV)=(r.alloc s g x).b4:=rfl
 rw [eM] at hA1
 have q1:∀ l' i',((QY st lv b r s).upd lv (b+4) (r.alloc s g x).b4).get l' i'=if l'=lv∧i'=b+4 then some (r.alloc s g x).b4 else (QY st lv b r s).get l' i':=fun l' i'=>St.get_upd ht.h4 rfl
 have k5:((QY st lv b r s).upd lv (b+4) (r.alloc s g x).b4).get lv (b+5)=some ((r.take s).b5 lv b):=by rw [q1,if_neg (by omega)];exact ht.h5
 have hw1:=St.wr_upd (b:=(r.alloc s g x).b4) (ix:=b+4) ht.wr ht.wr
 have eA:ZBT st lv b r s g x=((QY st lv b r s).upd lv (b+4) (r.alloc s g x).b4).upd lv (b+5) ((r.alloc s g x).b5 lv b):=rfl
 rw [eA]
 generalize (QY st lv b r s).upd lv (b+4) (r.alloc s g x).b4=st1 at *
 unfold AR.b5 at k5
 have m5:=fun L=>ZW hA1 (ro:=false) (L:=L) k5
 have hat:(r.take s).allocs=r.allocs:=rfl
 rw [hat] at k5 m5
 repeat' (first|refine ZE ?_|refine ZC ?_|refine ZF rfl ?_|refine ZO rfl rfl ?_|refine ZB rfl ?_|refine ZA ?_|refine Z7 rfl rfl ?_|refine Zi rfl rfl (by omega) ?_|refine QG rfl (m5 _) rfl rfl ?_)
 refine ZIj hA1 rfl rfl hw1 k5 rfl rfl rfl (fun A2 hA2=>?_)
 have eB:Blk.arr 6 0 ([AV.agg [.int .i64 (r.take s).slots,.ptr lv (b+3) 0 0 0,.map lv (b+4),.int .i64 r.allocs,.int .i64 (r.take s).frees,.int .i64 (r.take s).stale]].set 0 (.agg [.int .i64 (r.take s).slots,.ptr lv (b+3) 0 0 0,.map lv (b+4),.int .i64 (r.allocs+1),.int .i64 (r.take s).frees,.int .i64 (r.take s).stale]))=(r.alloc s g x).b5 lv b:=rfl
 rw [eB] at hA2
 repeat' (first|refine ZE ?_|refine ZC ?_|refine ZF rfl ?_|refine ZB rfl ?_|refine ZA ?_|refine ZQ ?_|refine ZP ?_)
 refine Zd hA2 (.inr rfl) rfl rfl rfl rfl ?_
 rfl
theorem ZeO {st:St} {lv b:Nat} {r:AR} (h:Has st lv b r) {k s g:Nat} (hc:CanTake r k s g) (text:List UInt8) (ht:ZAL text) :
 S Tb JQ [.ptr lv (b+5) 0 0 0,.agg [.int .i64 (0:Nat),.str text,.nils]] st=some (.tup [.int .u64 ((g*65536+s:Nat):Int),.int .i64 0],ZBT st lv b r s g ⟨0,text,none⟩):=by
 refine ZWW rfl (fun A hA=>?_)
 have hN:=fun st=>Zcj ⟨0,text,none⟩ (.inl ⟨rfl,ht.1,ht.2,rfl⟩) st
 simp only [Nd.av,slV] at hN
 have g5:=fun L=>ZW hA (ro:=false) (L:=L) h.h5
 unfold AR.b5 at g5
 repeat' (first|refine ZE ?_|refine ZC ?_|refine ZF rfl ?_|refine ZO rfl rfl ?_|refine ZS rfl rfl rfl rfl ?_|refine ZB rfl ?_|refine ZA ?_|refine Z7 rfl rfl ?_|refine JI rfl ?_|(refine Zh rfl rfl (fun _=>?_) (fun _=>?_)<;>try (exfalso;omega))|(refine Zu rfl rfl (fun _=>?_) (fun _=>?_)<;>try (exfalso;omega))|refine ZG rfl ?_|refine Qm rfl rfl rfl rfl ?_|refine Ze rfl rfl rfl ?_|refine ZD rfl rfl rfl (hN _) ?_|refine Q0 ?_|refine QG rfl (g5 _) rfl rfl ?_|refine ZI ?_|refine Zo ?_|refine ZL ?_|refine Za ?_|refine ZY rfl ?_)
 all_goals try (exfalso;omega)
 have hle:=St.get_le h.h3
 have hTk:=fun L=>Zhm (st:=⟨A,false,L⟩) ⟨Xu hA hle h.wr,ZW hA h.h0,ZW hA h.h1,ZW hA h.h2,ZW hA h.h3,ZW hA h.h4,ZW hA h.h5⟩ hc.n hc.blk hc.st hc.s16 hc.gen ⟨hc.g1,hc.g2⟩ hc.big
 refine ZD rfl rfl rfl (hTk _) ?_
 rw [ZZP hA hle]
 obtain ⟨A1,hA1⟩:∃ A1,A1=(QY st lv b r s).A++[((QY st lv b r s).ro,(QY st lv b r s).L)]:=⟨_,rfl⟩
 rw [← hA1]
 have hlen:A.length=A1.length:=by rw [hA,hA1,List.length_append,List.length_append,Zhn];rfl
 rw [hlen]
 refine ZF rfl ?_
 refine QB rfl rfl ?_
 refine QB rfl rfl ?_
 refine ZF rfl ?_
 refine ZF rfl ?_
 refine ZB rfl ?_
 refine ZA ?_
 refine ZE ?_
 refine ZE ?_
 refine ZC ?_
 refine ZF rfl ?_
 refine Zu rfl rfl (fun q=>absurd rfl q) (fun _=>?_)
 refine ZB rfl ?_
 refine ZA ?_
 refine ZG rfl ?_
 refine ZI ?_
 refine ZA ?_
 have:=ZZQ h hc ⟨0,text,none⟩ .nils rfl A1 [] hA1 (fun L=>ZjH _)
 exact this
section
variable {O:Orc} {k:List Fr} {Q:Yv} {e:Env} {A:List (Bool × List Blk)} {L:List Blk} {keep:List Nat} {is:List PI} {d:Nat}
theorem Zho {agg:Bool} {n:Nat} {a:Opd} {ver i o w:Nat} {es:List AV} {x v:AV} {c:Blk} (ha:Zg e a=some (.ptr A.length L.length ver i o)) (hx:es[i]?=some x) (hv:Jj x agg o n=some v)
 (h:Is O is keep k Q ((d,v)::e) ⟨A,false,L++[Blk.arr w ver es]++[c]⟩):Is O (⟨some d,none,false,.ld agg n a⟩::is) keep k Q e ⟨A,false,L++[Blk.arr w ver es]++[c]⟩ :=
 ZS (w:=w) ha (by rw [List.append_assoc];exact ZQW L _ _) hx hv h
theorem ZkR {agg:Bool} {n:Nat} {a:Opd} {ver i o w:Nat} {es:List AV} {x v:AV} {c c2:Blk} (ha:Zg e a=some (.ptr A.length L.length ver i o)) (hx:es[i]?=some x) (hv:Jj x agg o n=some v)
 (h:Is O is keep k Q ((d,v)::e) ⟨A,false,L++[Blk.arr w ver es]++[c]++[c2]⟩):Is O (⟨some d,none,false,.ld agg n a⟩::is) keep k Q e ⟨A,false,L++[Blk.arr w ver es]++[c]++[c2]⟩ :=
 ZS (w:=w) ha (by rw [List.append_assoc,List.append_assoc];exact ZQW L _ _) hx hv h
end
def ZE4 (N:ZJ) (n:Nat) (ks:List Kid):Prop:=∀ k∈ks,∃ y,lk N k.at_=some y∧NdOk y∧y.h=n∧y.mea=k.m
theorem Zhp {st:St} {lv b:Nat} {r:AR} (h:Has st lv b r) {k s g:Nat} (hc:CanTake r k s g) (n:Nat) (hn:n≤15) (ks:List Kid) (hk:2≤ks.length∧ks.length≤4) (hs:∀ k∈ks,KidOk n k) (hsum:(QE (ks.map Kid.m)).b≤65536) (hL:ZE4 r.nodes n ks)
 {kl kx ver:Nat} (hr:KRef st kl kx ver ks) (hne:¬ (kl=lv∧(kx=b∨kx=b+3))) :
 S Tb JQ [.ptr lv (b+5) 0 0 0,ndR (n+1) kl kx ver ks.length] st=some (.tup [.int .u64 ((g*65536+s:Nat):Int),.int .i64 0],ZBT st lv b r s g ⟨n+1,[],some ks⟩):=by
 refine ZWW rfl (fun A hA=>?_)
 have hN:=fun L=>ZeN n hn ks hk hs hsum _ (hr.push hA (ro:=false) (L:=L))
 have g5:=fun L=>ZW hA (ro:=false) (L:=L) h.h5
 have g4:=fun L=>ZW hA (ro:=false) (L:=L) h.h4
 unfold AR.b5 at g5
 unfold AR.b4 at g4
 obtain ⟨es,gk,ge⟩:=hr
 have gA:=fun L=>ZW hA (ro:=false) (L:=L) gk
 have hwi:∀ L,wIs 4 ver (St.get ⟨A,false,L⟩ kl kx)=true:=fun L=>by rw [gA];simp [wIs]
 unfold ndR at *
 repeat' (first|refine ZE ?_|refine ZC ?_|refine ZF rfl ?_|refine ZO rfl rfl ?_|refine ZS rfl rfl rfl rfl ?_|refine ZB rfl ?_|refine ZA ?_|refine Q2 rfl ?_|(refine Zu rfl rfl (fun _=>?_) (fun _=>?_)<;>try (exfalso;omega))|refine ZG rfl ?_|refine Qm rfl rfl rfl rfl ?_|refine Ze rfl rfl rfl ?_|refine ZD rfl rfl rfl (hN _) ?_|refine ZI ?_|refine ZL ?_)
 all_goals try (exfalso;omega)
 have hle:=St.get_le h.h3
 refine Zq (α:=Nat × List Blk) (fun p=>[(0,.ptr lv (b+5) 0 0 0),(3,.ptr A.length 0 0 0 0),(23,.ref kl kx ver 0 ks.length),(24,.int .i64 ks.length),(25,.int .i64 p.1)]) (fun p=>⟨A,false,.arr 3 0 [.agg [.int .i64 ((n+1:Nat):Int),.str [],.ref kl kx ver 0 ks.length]]::p.2⟩) (fun p=>p.1≤ks.length) (fun p=>ks.length-p.1) (0,[]) rfl rfl (by simp) ?_
 rintro ⟨i,G⟩ hi
 simp only at hi ⊢
 repeat' (first|refine ZE ?_|refine ZC ?_|refine ZF rfl ?_|refine ZO rfl rfl ?_|refine ZB rfl ?_|refine ZA ?_|refine Z7 rfl rfl ?_|(refine Zh rfl rfl (fun _=>?_) (fun _=>?_)<;>try (exfalso;omega))|refine ZU rfl ?_|refine ZG rfl ?_|refine ZI ?_|refine Zo ?_|refine ZL ?_|refine Za ?_|refine ZY rfl ?_|refine Zj ?_)
 ·rename_i hlt
  obtain ⟨kd,hk'⟩:∃ k,ks[i]?=some k:=⟨ks[i]'(by omega),by simp [show i<ks.length by omega]⟩
  obtain ⟨y,y1,y2,y3,y4⟩:=hL kd (List.mem_of_getElem? hk')
  have hlk:=fun L z=>ZZK (g4 L) y1 z
  have hMe:=fun st=>ZWL y y2 st
  rw [y4] at hMe
  refine Jb rfl rfl (by omega) (hwi _) ?_
  refine QG (x:=kd.av) rfl (gA _) (ZDn ge hk') rfl ?_
  obtain ⟨yh,yt,yk⟩:=y
  simp only at y3
  subst y3
  cases yk
  all_goals simp only [Nd.av,slV,Mea.av] at *
  all_goals repeat' (first|refine ZE ?_|refine ZC ?_|refine ZF rfl ?_|refine ZO rfl rfl ?_|refine ZS rfl rfl rfl rfl ?_|refine Z8 rfl ?_|refine Zp rfl rfl rfl rfl ?_|refine QB rfl rfl ?_|refine ZB rfl ?_|refine ZA ?_|refine Z7 rfl rfl ?_|refine Qs rfl rfl rfl ?_|(refine Zu rfl rfl (fun _=>?_) (fun _=>?_)<;>try (exfalso;omega))|refine ZU rfl ?_|refine ZG rfl ?_|refine Jy rfl rfl ?_|refine Zi rfl rfl (by omega) ?_|refine JB rfl rfl (by omega) ?_|refine Z0 rfl rfl rfl ?_|refine Yh rfl rfl rfl rfl rfl rfl ?_|refine QG rfl (g5 _) rfl rfl ?_|refine ZDW rfl rfl (hlk _ _) ?_|refine ZD rfl rfl rfl (hMe _) ?_|refine Zho rfl rfl rfl ?_|refine ZkR rfl rfl rfl ?_|(refine ZFO rfl rfl (Zhb _ _ _ _ _ _) (fun _=>?_) (fun _=>?_))|refine ZI ?_|refine ZQ ?_|refine ZP ?_|refine ZX ?_|refine Z2 ?_|refine QT ?_|refine Z4 ?_|refine ZBp ?_)
  all_goals try (exfalso;omega)
  all_goals first|exact ⟨(i+1,G++[_]++[_]++[_]),⟨rfl,rfl⟩,by simp only;omega,by simp only;omega⟩|exact absurd ⟨rfl,rfl,rfl⟩ ‹_›
 ·refine QG rfl (g5 _) rfl rfl ?_
  have hTk:=fun L=>Zhm (st:=⟨A,false,L⟩) ⟨Xu hA hle h.wr,ZW hA h.h0,ZW hA h.h1,ZW hA h.h2,ZW hA h.h3,ZW hA h.h4,ZW hA h.h5⟩ hc.n hc.blk hc.st hc.s16 hc.gen ⟨hc.g1,hc.g2⟩ hc.big
  refine ZD rfl rfl rfl (hTk _) ?_
  rw [ZZP hA hle]
  obtain ⟨A1,hA1⟩:∃ A1,A1=(QY st lv b r s).A++[((QY st lv b r s).ro,(QY st lv b r s).L)]:=⟨_,rfl⟩
  rw [← hA1]
  have hlen:A.length=A1.length:=by rw [hA,hA1,List.length_append,List.length_append,Zhn];rfl
  rw [hlen]
  refine ZF rfl ?_
  refine QB rfl rfl ?_
  refine QB rfl rfl ?_
  refine ZF rfl ?_
  refine ZF rfl ?_
  refine ZB rfl ?_
  refine ZA ?_
  refine ZE ?_
  refine ZE ?_
  refine ZC ?_
  refine ZF rfl ?_
  refine Zu rfl rfl (fun q=>absurd rfl q) (fun _=>?_)
  refine ZB rfl ?_
  refine ZA ?_
  refine ZG rfl ?_
  refine ZI ?_
  refine ZA ?_
  have g2:(QY st lv b r s).get kl kx=some (.arr 4 ver es):=by
   rw [ZCr h,if_neg (fun q=>hne ⟨q.1,.inl q.2⟩),if_neg (fun q=>hne ⟨q.1,.inr q.2⟩)];exact gk
  have:=ZZQ h hc ⟨n+1,[],some ks⟩ (.ref kl kx ver 0 ks.length) rfl A1 G hA1 (fun L=>ZjP ⟨es,ZW hA1 g2,ge⟩ hk.2)
  exact this
end Go.Q15
namespace Go.Q15
open Go Go.QAbs
set_option maxRecDepth 100000
set_option maxHeartbeats 8000000
theorem ZZR {j i:Nat}:∀ {L0 T:List Blk},findH j T=some i→findH j (L0++T)=some (L0.length+i)
 | [],T,h=>by simpa using h
 | b::L0,T,h=>by
  have:=ZZR (L0:=L0) h
  unfold findH
  rw [List.cons_append]
  simp only [this,List.length_cons]
  congr 1;omega
theorem ZTZ:∀ {L0 T:List Blk} {i:Nat} {b:Blk},(L0++T).set (L0.length+i) b=L0++T.set i b
 | [],T,i,b=>by simp
 | c::L0,T,i,b=>by
  rw [List.cons_append,List.length_cons,show L0.length+1+i=(L0.length+i)+1 by omega,List.set_cons_succ,ZTZ];rfl
theorem Jh:∀ {L0 T:List Blk} {i:Nat},(L0++T)[L0.length+i]?=T[i]?
 | [],T,i=>by simp
 | c::L0,T,i=>by
  rw [List.cons_append,List.length_cons,show L0.length+1+i=(L0.length+i)+1 by omega,List.getElem?_cons_succ,Jh]
section
variable {O:Orc} {k:List Fr} {Q:Yv} {e:Env} {A:List (Bool × List Blk)} {L L0 T T':List Blk} {keep:List Nat} {is:List PI} {d:Nat}
theorem ZjQ {js:List Nat} (h:Is O is keep k Q e ⟨A,false,L++js.map Blk.hole⟩):Ru O (.regH js keep is) k Q e ⟨A,false,L⟩:=by
 obtain ⟨e',st',h1,h2⟩:=h.h
 refine ⟨⟨.norm,XV keep e',st',?_,h2⟩⟩
 simp only [exec,ZdX,Bool.false_eq_true,if_false,Option.bind_some,h1,ZQ9]
theorem ZjR {j i w bytes:Nat} {z:AV} {l c:Opd} {n:Int} (hl:Zg e l=some (.int .i64 n)) (hc:Zg e c=some (.int .i64 n)) (hn:0≤n∧n<4294967296) (hb:bytes≤4096) (hf:findH j T=some i)
 (hL:Jx (T.set i (Blk.arr w 0 (List.replicate n.toNat z)))=some T') (h:Is O is keep k Q ((d,.ref A.length (L0.length+i) 0 0 n.toNat)::e) ⟨A,false,L0++T'⟩):Is O (⟨some d,none,false,.w (.here j) (.mkslice w bytes z l c)⟩::is) keep k Q e ⟨A,false,L0++T⟩:=by
 rw [← Qa hL,← ZTZ] at h
 refine Z3 (v:=.ref A.length (L0.length+i) 0 0 n.toNat) (st':=⟨A,false,(L0++T).set (L0.length+i) (Blk.arr w 0 (List.replicate n.toNat z))⟩) ?_ h
 simp only [Zk,QA,newOf,ZH hl,ZH hc,mkslB,if_pos (show 0≤n∧n≤n∧n<4294967296∧bytes≤4096 by omega),Option.bind_some,ZYs,ZdU,and_self,if_true,ZZR hf,ZYr]
theorem Yp {x:Opd} {v v':AV} {w m:Nat} (hx:Zg e x=some v) (hw:v.wide=some w) (hv:YI v=some v') (hm:ZaC T=some m) (hL:Jx (T++[Blk.arr w 0 [v']])=some T') (h:Is O is keep k Q ((d,.ptr A.length (L0.length+m) 0 0 0)::e) ⟨A,false,L0++T'⟩):Is O (⟨some d,none,false,.box x⟩::is) keep k Q e ⟨A,false,L0++T⟩:=by
 rw [← Qa hL,← ZBY hm,← List.append_assoc,← List.length_append] at h
 exact Z0 hx hw hv h
theorem ZgA {m:Nat} (hm:ZaC T=some m) (hL:Jx (T++[Blk.map []])=some T') (h:Is O is keep k Q ((d,.map A.length (L0.length+m))::e) ⟨A,false,L0++T'⟩):Is O (⟨some d,none,false,.mkmap⟩::is) keep k Q e ⟨A,false,L0++T⟩:=by
 rw [← Qa hL,← ZBY hm,← List.append_assoc,← List.length_append] at h
 exact Z3 (v:=.map A.length (L0++T).length) (st':=⟨A,false,L0++T++[Blk.map []]⟩) (by simp only [Zk,evalPO,Option.bind_some,St.new_cur,ZMf]) h
theorem Jl {agg:Bool} {n:Nat} {a:Opd} {ix ver i o w:Nat} {es:List AV} {x v:AV} (ha:Zg e a=some (.ptr A.length (L0.length+ix) ver i o)) (hg:T[ix]?=some (Blk.arr w ver es)) (hx:es[i]?=some x) (hv:Jj x agg o n=some v)
 (h:Is O is keep k Q ((d,v)::e) ⟨A,false,L0++T⟩):Is O (⟨some d,none,false,.ld agg n a⟩::is) keep k Q e ⟨A,false,L0++T⟩ :=
 ZS ha (by rw [Jh];exact hg) hx hv h
theorem ZfC {w:Nat} {x i:Opd} {ix ver s m:Nat} {n:Int} {es:List AV} (hx:Zg e x=some (.ref A.length (L0.length+ix) ver s m)) (hi:Zg e i=some (.int .i64 n)) (hn:0≤n∧n<m) (hg:T[ix]?=some (Blk.arr w ver es)) (h:Is O is keep k Q ((d,.ptr A.length (L0.length+ix) ver (s+n.toNat) 0)::e) ⟨A,false,L0++T⟩):Is O (⟨some d,none,false,.ixS w x i⟩::is) keep k Q e ⟨A,false,L0++T⟩ :=
 ZMz hx hi hn (by rw [Jh];exact hg) h
theorem Yl {n:Nat} {a x:Opd} {ix ver i o w:Nat} {es:List AV} {v v' y:AV} (ha:Zg e a=some (.ptr A.length (L0.length+ix) ver i o)) (hx:Zg e x=some v) (hg:T[ix]?=some (Blk.arr w ver es)) (hy:es[i]?=some y)
 (hs:Zc QN (A.length+1) ⟨A,false,L0++T⟩ v=some (v,⟨A,false,L0++T⟩)) (hv:(Qv w y o n v).bind YI=some v') (hL:Jx (T.set ix (Blk.arr w ver (es.set i v')))=some T') (h:Is O is keep k Q e ⟨A,false,L0++T'⟩):Is O (⟨none,none,false,.st n a x⟩::is) keep k Q e ⟨A,false,L0++T⟩:=by
 rw [← Qa hL,← ZTZ] at h
 exact Qn (by rw [Jh];exact hg) ha hx hy hs hv h
end
def JG (n g:Nat):AR:=⟨(List.range n).map fun (j:Nat)=>(n:Int)-1-j,n,0,List.replicate n 0,List.replicate n 1,g,[],n,0,0,0⟩
theorem ZLm {n i:Nat} {k:IntKind} {f:Nat→Int} {z:Int} (hi:i<n):((List.range n).map fun j=>AV.int k (if j<i then f j else z)).set i (.int k (f i))=(List.range n).map fun j=>AV.int k (if j<i+1 then f j else z):=by
 apply List.ext_getElem
 ·simp
 ·intro j hj hj'
  simp only [List.getElem_set,List.getElem_map,List.getElem_range]
  by_cases q:i=j
  ·subst q;simp
  ·rw [if_neg q]
   have:j<i+1↔j<i:=by omega
   simp only [this]
theorem ZjS (n g:Nat) (hn:1≤n∧n≤16384) (hg:1≤g∧g≤4294967295) (A:List (Bool × List Blk)) (L0:List Blk) :
 S Tb ZBw [.int .i64 n,.int .u64 g] ⟨A,false,L0⟩=some (.tup [.ptr A.length (L0.length+3) 0 0 0,.int .i64 0],⟨A,false,L0++[(JG n g).b0,(JG n g).b1,(JG n g).b2,(JG n g).b3 A.length L0.length]⟩):=by
 refine ZO2 rfl ?_
 have hmap:∀ (k:IntKind) (z:Int),List.replicate n (AV.int k z)=(List.range n).map fun (j:Nat)=>AV.int k (if j<0 then (fun (j:Nat)=>(n:Int)-1-j) j else z):=by
  intro k z;simp only [Nat.not_lt_zero,if_false,List.map_const',List.length_range]
 have hmap1:List.replicate n (AV.int .u64 0)=(List.range n).map fun j=>AV.int .u64 (if j<0 then (fun _=>(1:Int)) j else 0):=by
  simp only [Nat.not_lt_zero,if_false,List.map_const',List.length_range]
 repeat' (first|refine ZE ?_|refine ZC ?_|refine ZF rfl ?_|refine Z8 rfl ?_|refine Zp rfl rfl rfl rfl ?_|refine ZB rfl ?_|refine ZA ?_|(refine Zh rfl rfl (fun _=>?_) (fun _=>?_)<;>try (exfalso;omega))|(refine QW rfl rfl (fun _=>?_) (fun _=>?_)<;>try (exfalso;omega))|refine ZG rfl ?_|refine Zf rfl rfl rfl ?_|refine Z0 rfl rfl rfl ?_|refine ZjQ ?_|refine ZjR rfl rfl (by omega) (by decide) rfl rfl ?_|refine ZI ?_|refine ZL ?_)
 simp only [List.length_append,List.length_cons,List.length_nil,List.append_assoc,List.cons_append,List.nil_append,Int.toNat_natCast,Nat.zero_add]
 rw [hmap .i64 0,hmap1]
 refine Zq (α:=Nat) (fun i=>[(0,.int .i64 n),(6,.ptr A.length (L0.length+3) 0 0 0),(31,.int .i64 n),(32,.int .i64 i)])
  (fun i=>⟨A,false,L0++[.arr 1 0 (List.replicate n (.int .u8 0)),.arr 1 0 ((List.range n).map fun (j:Nat)=>.int .i64 (if j<i then (fun (j:Nat)=>(n:Int)-1-j) j else 0)),.arr 1 0 ((List.range n).map fun (j:Nat)=>.int .u64 (if j<i then (fun _=>(1:Int)) j else 0)),.arr 4 0 [.agg [.ref A.length (L0.length+1) 0 0 n,.ref A.length (L0.length+0) 0 0 n,.ref A.length (L0.length+2) 0 0 n,.int .u64 g]]]⟩)
  (fun i=>i≤n) (fun i=>n-i) 0 rfl rfl (Nat.zero_le _) ?_
 intro i hi
 repeat' (first|refine ZE ?_|refine ZC ?_|refine ZF rfl ?_|refine ZO rfl rfl ?_|refine ZB rfl ?_|refine ZA ?_|refine Z7 rfl rfl ?_|(refine Zh rfl rfl (fun _=>?_) (fun _=>?_)<;>try (exfalso;omega))|refine ZU rfl ?_|refine ZG rfl ?_|refine JB rfl rfl (by omega) ?_|refine Jl rfl rfl rfl rfl ?_|refine ZfC rfl rfl (by omega) rfl ?_|refine ZI ?_|refine ZQ ?_|refine Zo ?_|refine ZL ?_|refine ZP ?_|refine Za ?_|refine ZY rfl ?_|refine Zj ?_)
 ·simp only [Nat.zero_add,Int.toNat_natCast]
  refine Yl (y:=.int .i64 0) rfl rfl rfl ?_ rfl rfl rfl ?_
  ·rw [List.getElem?_map,List.getElem?_range (by omega)];simp
  rw [ZLm (f:=fun (j:Nat)=>(n:Int)-1-j) (by omega)]
  repeat' (first|refine ZC ?_|refine ZF rfl ?_|refine ZO rfl rfl ?_|refine ZB rfl ?_|refine ZA ?_|refine Z7 rfl rfl ?_|refine Jl rfl rfl rfl rfl ?_|refine ZfC rfl rfl (by omega) rfl ?_)
  simp only [Nat.zero_add,Int.toNat_natCast]
  refine Yl (y:=.int .u64 0) rfl rfl rfl ?_ rfl rfl rfl ?_
  ·rw [List.getElem?_map,List.getElem?_range (by omega)];simp
  rw [ZLm (f:=fun (j:Nat)=>(1:Int)) (by omega)]
  repeat' (first|refine ZC ?_|refine ZF rfl ?_|refine ZB rfl ?_|refine ZA ?_|refine Zi rfl rfl (by omega) ?_|refine Z2 ?_|refine Z4 ?_)
  exact ⟨i+1,⟨rfl,rfl⟩,by omega,by omega⟩
 ·obtain rfl:i=n:=by omega
  have e1:∀ (k:IntKind) (f:Nat→Int),((List.range i).map fun (j:Nat)=>AV.int k (if j<i then f j else 0))=(List.range i).map fun j=>.int k (f j):=by
   intro k f
   apply List.map_congr_left
   intro j hj
   rw [List.mem_range] at hj
   rw [if_pos hj]
  simp only [e1,AR.b0,AR.b1,AR.b2,AR.b3,JG,List.map_replicate,List.map_map,List.length_replicate]
  simp only [List.map_const',List.length_range]
  rfl
theorem ZjT (n g:Nat) (hn:1≤n∧n≤16384) (hg:1≤g∧g≤4294967295) (A:List (Bool × List Blk)) (L0:List Blk) :
 S Tb ZDY [.int .i64 n,.int .u64 g] ⟨A,false,L0⟩=some (.tup [.ptr A.length (L0.length+5) 0 0 0,.int .i64 0],⟨A,false,L0++[(JG n g).b0,(JG n g).b1,(JG n g).b2,(JG n g).b3 A.length L0.length,(JG n g).b4,(JG n g).b5 A.length L0.length]⟩):=by
 refine ZO2 rfl ?_
 repeat' (first|refine ZE ?_|refine ZC ?_|refine ZF rfl ?_|refine QB rfl rfl ?_|refine ZB rfl ?_|refine ZA ?_|(refine Zu rfl rfl (fun _=>?_) (fun _=>?_)<;>try (exfalso;omega))|refine ZG rfl ?_|refine Zf rfl rfl rfl ?_|refine Z0 rfl rfl rfl ?_|refine ZD rfl rfl rfl (ZjS n g hn hg A L0) ?_|refine ZgA rfl rfl ?_|refine ZI ?_|refine ZQ ?_|refine ZP ?_)
 simp only [List.length_append,List.append_assoc,List.cons_append,List.nil_append]
 rfl
theorem ZgB (n g:Nat) (A:List (Bool × List Blk)) (L0 L1:List Blk):Has ⟨A,false,L0++([(JG n g).b0,(JG n g).b1,(JG n g).b2,(JG n g).b3 A.length L0.length,(JG n g).b4,(JG n g).b5 A.length L0.length]++L1)⟩ A.length L0.length (JG n g):=by
 have h:∀ i b,([(JG n g).b0,(JG n g).b1,(JG n g).b2,(JG n g).b3 A.length L0.length,(JG n g).b4,(JG n g).b5 A.length L0.length]++L1)[i]?=some b→vis (some b)=some b→St.get ⟨A,false,L0++([(JG n g).b0,(JG n g).b1,(JG n g).b2,(JG n g).b3 A.length L0.length,(JG n g).b4,(JG n g).b5 A.length L0.length]++L1)⟩ A.length (L0.length+i)=some b:=by
  intro i b hb hv
  rw [St.get_cur,Jh,hb,hv]
 exact ⟨by simp [St.wr],h 0 _ rfl rfl,h 1 _ rfl rfl,h 2 _ rfl rfl,h 3 _ rfl rfl,h 4 _ rfl rfl,h 5 _ rfl rfl⟩
end Go.Q15
namespace Go.Q15
open Go Go.QAbs
set_option maxRecDepth 100000
set_option maxHeartbeats 8000000
theorem ZgC (s:List UInt8) (st:St):S Tb Xe [.str s] st=some ((Qd s).av,st):=by
 refine Z5 rfl (fun A hA=>?_)
 repeat' (first|refine ZE ?_|refine ZC ?_|refine ZF rfl ?_|refine ZB rfl ?_|refine ZA ?_|refine Zf rfl rfl rfl ?_|refine Ze rfl rfl rfl ?_|refine Zv rfl rfl rfl rfl rfl rfl ?_|refine ZQ ?_|refine ZP ?_)
 refine Ji hA (by first|exact .inl rfl|exact .inr rfl) rfl rfl rfl rfl rfl ?_
 rfl
theorem ZWY {v:AV} {l:List Tr} (h2:2≤l.length) (hl:l.length≤65536) (hh:∀ t∈l,t.h≤65536) {st:St} (hv:Sl st v l):S Tb J4 [v] st=some ((grp l).av,st):=by
 refine Z5 rfl (fun A hA=>?_)
 have hv2:=fun L=>hv.push hA (ro:=false) (L:=L)
 have fin:∀ {L:List Blk} {e:Env} {h:Int} {u:Tr},l[0]?=some u→2≤l.length→h=u.h+1→J5 e 2=some (.ptr A.length 0 0 0 0)→L=[.arr 7 0 [.agg [.int .u64 0,.int .i64 h,.int .i64 0,.int .i64 0,.int .i64 0,.str [],.ref A.length 1 0 0 l.length]],.arr 7 0 (l.map Tr.av)] →
  Jq false [.c 2 true 7] (.ret,e,⟨A,false,L⟩)=some ((grp l).av,st):=by
  intro L e h u hu h2 hhu he hL
  subst hL hhu
  have hval:=ZIh (e:=e) (res:=[.c 2 true 7]) (x:=.ret) (v:=.agg [.int .u64 0,.int .i64 ((u.h:Int)+1),.int .i64 0,.int .i64 0,.int .i64 0,.str [],.ref A.length 1 0 0 l.length]) hA (.inr rfl) (by
   simp only [Qk,ZDu,ZBi,QP he,loadP,St.get_cur,List.getElem?_cons_zero,vis,ZIX,if_true,Option.bind_some]
   rfl) (ZeA (l:=l) (ix:=1) (L:=[.arr 7 0 [.agg [.int .u64 0,.int .i64 ((u.h:Int)+1),.int .i64 0,.int .i64 0,.int .i64 0,.str [],.ref A.length 1 0 0 l.length]],.arr 7 0 (l.map Tr.av)]) rfl rfl) rfl
  rw [hval,ZDk h2,Zhe hu,Tr.av,Tr.avO,Tr.avL_map]
  rfl
 cases hv with
 | lit =>
  have hvs:=fun L=>Sl.lit (st:=⟨A,false,L⟩) l
  repeat' (first|refine ZE ?_|refine ZC ?_|refine ZF rfl ?_|refine ZO rfl rfl ?_|refine ZB rfl ?_|refine ZA ?_|refine Ze rfl rfl rfl ?_|refine Qr rfl rfl (by omega) Z6 (fun _ _=>?_))
  rename_i t ht
  have hth:=hh t (List.mem_of_getElem? ht)
  refine QQ rfl (Yb _) ?_
  repeat' (first|refine ZF rfl ?_|refine ZB rfl ?_|refine ZA ?_|refine Zi rfl rfl (by omega) ?_|refine Zf rfl rfl rfl ?_|refine Zv rfl rfl rfl (ZJi _ (Nat.lt_succ_self _)) rfl rfl ?_|refine ZbH rfl ?_|refine ZCp rfl rfl (hvs _) (by omega) ?_|refine ZQ ?_|refine ZP ?_)
  exact fin ht (by omega) rfl rfl rfl
 | @ref lv ix ver s n _ es hg hn hlen he =>
  have hvs:=fun L=>hv2 L
  have hg2:=fun L=>ZW hA (ro:=false) (L:=L) hg
  have hget:=fun {i} {t}=>Sl.get (i:=i) (t:=t) hn he
  have hwi:∀ L,wIs 7 ver (St.get ⟨A,false,L⟩ lv ix)=true:=fun L=>by rw [hg2];simp [wIs]
  repeat' (first|refine ZE ?_|refine ZC ?_|refine ZF rfl ?_|refine ZO rfl rfl ?_|refine ZB rfl ?_|refine ZA ?_|refine Ze rfl rfl rfl ?_|refine Jb rfl rfl (by omega) (hwi _) ?_)
  obtain ⟨t,ht⟩:∃ t,l[0]?=some t:=⟨l[0]'(by omega),by simp⟩
  have hth:=hh t (List.mem_of_getElem? ht)
  skip
  refine QG rfl (hg2 _) (hget ht) (Yb t) ?_
  repeat' (first|refine ZF rfl ?_|refine ZB rfl ?_|refine ZA ?_|refine Zi rfl rfl (by omega) ?_|refine Zf rfl rfl rfl ?_|refine Zv rfl rfl rfl (ZJi _ (Nat.lt_succ_self _)) rfl rfl ?_|refine ZbH rfl ?_|refine ZCp rfl rfl (hvs _) (by omega) ?_|refine ZQ ?_|refine ZP ?_)
  exact fin ht (by omega) rfl rfl rfl
theorem ZeP {v:AV} {l:List Tr} (hl:l.length≤65536) (hh:∀ t∈l,t.h≤65536) {st:St} (hv:Sl st v l):S Tb XH [v] st=some ((grp l).av,st):=by
 refine Z5 rfl (fun A hA=>?_)
 have hv2:=fun L=>hv.push hA (ro:=false) (L:=L)
 have hI:=fun (h2:2≤l.length) L=>ZWY h2 hl hh (hv2 L)
 have hwk:=hv.weak
 cases hv with
 | lit =>
  repeat' (first|refine ZE ?_|refine ZC ?_|refine ZF rfl ?_|refine ZB rfl ?_|refine ZA ?_|refine QC rfl ?_|(refine Zl rfl rfl (fun _=>?_) (fun _=>?_)<;>try (exfalso;omega))|refine ZU rfl ?_|refine ZG rfl ?_|refine Zf rfl rfl rfl ?_|refine Ze rfl rfl rfl ?_|refine Zv rfl rfl rfl rfl rfl rfl ?_|refine Qr rfl rfl (by omega) Z6 (fun _ _=>?_)|refine QQ rfl (Zr _) ?_|refine Zv rfl rfl rfl (QJ _ _ _) (Qt _ _) rfl ?_|refine ZI ?_|refine ZQ ?_|refine ZP ?_|refine ZX ?_)
  ·rename_i h
   have:l=[]:=List.length_eq_zero_iff.1 (by omega)
   subst this
   refine Ji hA (by first|exact .inl rfl|exact .inr rfl) rfl rfl rfl rfl rfl ?_
   rfl
  ·rename_i h1 t ht
   exact ZMZ hA (.inr rfl) rfl rfl (by rw [ZTY h1 ht])
  ·refine ZD rfl rfl (by simp only [List.nil_append,List.append_nil,List.cons_append,Zn,hwk];rfl) (hI (by omega) _) ?_
   repeat' (first|refine ZB rfl ?_|refine ZA ?_|refine Zv rfl rfl rfl (QJ _ _ _) (Qt _ _) rfl ?_|refine ZQ ?_|refine ZP ?_)
   exact ZMZ hA (.inr rfl) rfl rfl rfl
 | @ref lv ix ver s n _ es hg hn hlen he =>
  have hg2:=fun L=>ZW hA (ro:=false) (L:=L) hg
  have hget:=fun {i} {t}=>Sl.get (i:=i) (t:=t) hn he
  have hwi:∀ L,wIs 7 ver (St.get ⟨A,false,L⟩ lv ix)=true:=fun L=>by rw [hg2];simp [wIs]
  repeat' (first|refine ZE ?_|refine ZC ?_|refine ZF rfl ?_|refine ZB rfl ?_|refine ZA ?_|refine Q2 rfl ?_|(refine Zl rfl rfl (fun _=>?_) (fun _=>?_)<;>try (exfalso;omega))|refine ZU rfl ?_|refine ZG rfl ?_|refine Zf rfl rfl rfl ?_|refine Ze rfl rfl rfl ?_|refine Zv rfl rfl rfl rfl rfl rfl ?_|refine Jb rfl rfl (by omega) (hwi _) ?_|refine ZI ?_|refine ZQ ?_|refine ZP ?_|refine ZX ?_)
  ·rename_i h
   have:l=[]:=List.length_eq_zero_iff.1 (by omega)
   subst this
   refine Ji hA (by first|exact .inl rfl|exact .inr rfl) rfl rfl rfl rfl rfl ?_
   rfl
  ·rename_i h1
   obtain ⟨t,ht⟩:∃ t,l[0]?=some t:=⟨l[0]'(by omega),by simp⟩
   refine QG rfl (hg2 _) (hget ht) (Zr t) ?_
   repeat' (first|refine ZB rfl ?_|refine ZA ?_|refine Zv rfl rfl rfl (QJ _ _ _) (Qt _ _) rfl ?_|refine ZQ ?_|refine ZP ?_|refine ZX ?_)
   exact ZMZ hA (.inr rfl) rfl rfl (by rw [ZTY (by omega) ht])
  ·refine ZD rfl rfl rfl (hI (by omega) _) ?_
   repeat' (first|refine ZB rfl ?_|refine ZA ?_|refine Zv rfl rfl rfl (QJ _ _ _) (Qt _ _) rfl ?_|refine ZQ ?_|refine ZP ?_)
   exact ZMZ hA (.inr rfl) rfl rfl rfl
theorem ZYi (t:Tr) (ht:IsEmpty t) (st:St):S Tb Jc [t.av] st=some (.bool true,st):=by
 obtain ⟨o,h,m,s,k⟩:=t
 obtain ⟨h1,h2,h3,h4,h5⟩:=ht
 simp only [Tr.old,Tr.h,Tr.m,Tr.text,Tr.ks] at h1 h2 h3 h4 h5
 subst h1 h2 h3 h4
 refine Z5 rfl (fun A hA=>?_)
 cases k with
 | none =>
  repeat' (first|refine ZE ?_|refine ZC ?_|refine ZF rfl ?_|refine ZO rfl rfl ?_|refine ZS rfl rfl rfl rfl ?_|refine Z8 rfl ?_|refine Zp rfl rfl rfl rfl ?_|refine ZB rfl ?_|refine ZA ?_|refine JI rfl ?_|(refine Zl rfl rfl (fun _=>?_) (fun _=>?_)<;>try (exfalso;omega))|(refine YH rfl rfl (fun _=>?_) (fun _=>?_)<;>try contradiction)|refine Zf rfl rfl rfl ?_|refine Qm rfl rfl rfl rfl ?_|refine Ze rfl rfl rfl ?_|refine ZQ ?_|refine ZP ?_)
  all_goals refine Zd hA (by first|exact .inl rfl|exact .inr rfl) rfl rfl rfl rfl ?_
  all_goals rfl
 | some l =>
  have:l=[]:=h5
  subst this
  repeat' (first|refine ZE ?_|refine ZC ?_|refine ZF rfl ?_|refine ZO rfl rfl ?_|refine ZS rfl rfl rfl rfl ?_|refine Z8 rfl ?_|refine Zp rfl rfl rfl rfl ?_|refine ZB rfl ?_|refine ZA ?_|refine YJ rfl rfl ?_|(refine Zl rfl rfl (fun _=>?_) (fun _=>?_)<;>try (exfalso;omega))|(refine YH rfl rfl (fun _=>?_) (fun _=>?_)<;>try contradiction)|refine Zf rfl rfl rfl ?_|refine Qm rfl rfl rfl rfl ?_|refine Ze rfl rfl rfl ?_|refine ZQ ?_|refine ZP ?_)
  all_goals refine Zd hA (by first|exact .inl rfl|exact .inr rfl) rfl rfl rfl rfl ?_
  all_goals rfl
theorem ZbL (t:Tr) (ht:IsLeaf t) (st:St):S Tb Jc [t.av] st=some (.bool false,st):=by
 obtain ⟨o,h,m,s,k⟩:=t
 obtain ⟨h1,h2,h3,h4,h4',h5⟩:=ht
 simp only [Tr.old,Tr.h,Tr.m,Tr.text,Tr.ks] at h1 h2 h3 h4 h4' h5
 subst h1 h2 h3
 have hs:s≠[]:=fun q=>by rw [q] at h4;simp at h4
 refine Z5 rfl (fun A hA=>?_)
 cases k with
 | none =>
  repeat' (first|refine ZE ?_|refine ZC ?_|refine ZF rfl ?_|refine ZO rfl rfl ?_|refine ZS rfl rfl rfl rfl ?_|refine Z8 rfl ?_|refine Ja rfl rfl ?_|refine Zp rfl rfl rfl rfl ?_|refine ZB rfl ?_|refine ZA ?_|(refine Zl rfl rfl (fun _=>?_) (fun _=>?_)<;>try (exfalso;omega))|(refine YH rfl rfl (fun _=>?_) (fun _=>?_)<;>try contradiction)|refine Zf rfl rfl rfl ?_|refine Qm rfl rfl rfl rfl ?_|refine Ze rfl rfl rfl ?_|refine ZQ ?_|refine ZP ?_)
  all_goals try contradiction
  all_goals refine Zd hA (by first|exact .inl rfl|exact .inr rfl) rfl rfl rfl rfl ?_
  all_goals rfl
 | some l =>
  have:l=[]:=h5
  subst this
  repeat' (first|refine ZE ?_|refine ZC ?_|refine ZF rfl ?_|refine ZO rfl rfl ?_|refine ZS rfl rfl rfl rfl ?_|refine Z8 rfl ?_|refine Ja rfl rfl ?_|refine Zp rfl rfl rfl rfl ?_|refine ZB rfl ?_|refine ZA ?_|(refine Zl rfl rfl (fun _=>?_) (fun _=>?_)<;>try (exfalso;omega))|(refine YH rfl rfl (fun _=>?_) (fun _=>?_)<;>try contradiction)|refine Zf rfl rfl rfl ?_|refine Qm rfl rfl rfl rfl ?_|refine Ze rfl rfl rfl ?_|refine ZQ ?_|refine ZP ?_)
  all_goals try contradiction
  all_goals refine Zd hA (by first|exact .inl rfl|exact .inr rfl) rfl rfl rfl rfl ?_
  all_goals rfl
theorem ZYj (t:Tr) (ht:IsInner t) (st:St):S Tb Jc [t.av] st=some (.bool false,st):=by
 obtain ⟨o,h,m,s,k⟩:=t
 obtain ⟨h1,h2,h3,h4,h4',h5,h5'⟩:=ht
 simp only [Tr.old,Tr.h,Tr.m,Tr.text,Tr.ks] at h1 h2 h3 h4 h4' h5 h5'
 subst h1 h2 h3
 refine Z5 rfl (fun A hA=>?_)
 cases k with
 | none=>simp at h5
 | some l =>
  simp only [Option.getD] at *
  rw [Tr.av,Tr.avO_sl]
  simp only [slV]
  repeat' (first|refine ZE ?_|refine ZC ?_|refine ZF rfl ?_|refine ZO rfl rfl ?_|refine ZS rfl rfl rfl rfl ?_|refine Z8 rfl ?_|refine Ja rfl rfl ?_|refine Zp rfl rfl rfl rfl ?_|refine ZB rfl ?_|refine ZA ?_|(refine Zl rfl rfl (fun _=>?_) (fun _=>?_)<;>try (exfalso;omega))|refine Ze rfl rfl rfl ?_|refine ZQ ?_|refine ZP ?_)
  all_goals try contradiction
  all_goals try (exfalso;omega)
  all_goals refine Zd hA (by first|exact .inl rfl|exact .inr rfl) rfl rfl rfl rfl ?_
  all_goals rfl
theorem ZOa (s:List UInt8) (hs:s.length<4294967296) (st:St):S Tb Yi [.str s] st=some ((Ya s).av,st):=by
 refine Z5 rfl (fun A hA=>?_)
 repeat' (first|refine ZE ?_|refine ZC ?_|refine ZF rfl ?_|refine ZB rfl ?_|refine ZA ?_|refine Qo rfl ?_|refine Zf rfl rfl rfl ?_|refine Ze rfl rfl rfl ?_|refine Zv rfl rfl rfl rfl rfl rfl ?_|refine ZL ?_)
 refine Zq (α:=Nat) (fun i=>[(0,.str s),(2,.ptr A.length 0 0 0 0),(3,.ptr A.length 1 0 0 0),(4,.int .i64 i)])
  (fun i=>⟨A,false,[.arr 3 0 [.agg [.int .i64 0,.int .i64 0,.int .i64 0]],.arr 3 0 [.agg [.int .i64 s.length,.int .i64 ((s.take i).countP Qc),.int .i64 ((s.take i).countP JU)]]]⟩) (fun i=>i≤s.length) (fun i=>s.length-i) 0 rfl rfl (Nat.zero_le _) ?_
 intro i hi
 repeat' (first|refine ZE ?_|refine ZC ?_|refine ZF rfl ?_|refine ZS rfl rfl rfl rfl ?_|refine ZB rfl ?_|refine ZA ?_|refine Qo rfl ?_|(refine Zh rfl rfl (fun _=>?_) (fun _=>?_)<;>try (exfalso;omega))|refine ZU rfl ?_|refine ZG rfl ?_|refine Zv rfl rfl rfl rfl rfl rfl ?_|refine ZI ?_|refine ZQ ?_|refine Zo ?_|refine ZL ?_|refine ZP ?_|refine Za ?_|refine ZY rfl ?_|refine Zj ?_)
 ·rename_i hlt
  obtain ⟨b,hb,ht⟩:=ZjE (s:=s) (i:=i) (by omega)
  have hc:=List.countP_le_length (p:=Qc) (l:=s.take i)
  have hc2:=List.countP_le_length (p:=JU) (l:=s.take i)
  have hl:=List.length_take_le i s
  have hb2:s[(i:Int).toNat]?=some b:=by simpa using hb
  have e1:((s.take (i+1)).countP Qc)=(s.take i).countP Qc+(if Qc b then 1 else 0):=by
   rw [ht,List.countP_append];simp [List.countP_cons]
  have e2:((s.take (i+1)).countP JU)=(s.take i).countP JU+(if JU b then 1 else 0):=by
   rw [ht,List.countP_append];simp [List.countP_cons]
  have fin:∀ x y:Int,x=((s.take (i+1)).countP Qc:Nat)→y=((s.take (i+1)).countP JU:Nat)→∃ c:Nat,([(0,AV.str s),(2,.ptr A.length 0 0 0 0),(3,.ptr A.length 1 0 0 0),(4,.int .i64 ((i:Int)+1))]=[(0,AV.str s),(2,.ptr A.length 0 0 0 0),(3,.ptr A.length 1 0 0 0),(4,.int .i64 c)] ∧
   (⟨A,false,[.arr 3 0 [.agg [.int .i64 0,.int .i64 0,.int .i64 0]],.arr 3 0 [.agg [.int .i64 s.length,.int .i64 x,.int .i64 y]]]⟩:St)=⟨A,false,[.arr 3 0 [.agg [.int .i64 0,.int .i64 0,.int .i64 0]],.arr 3 0 [.agg [.int .i64 s.length,.int .i64 ((s.take c).countP Qc),.int .i64 ((s.take c).countP JU)]]]⟩)∧c≤s.length∧s.length-c<s.length-i:=by
   intro x y hx hy
   subst hx hy
   exact ⟨i+1,⟨rfl,rfl⟩,by omega,by omega⟩
  have hbb:Qc b=(decide ((b.toNat:Int)<128) || decide ((192:Int)≤b.toNat)):=by unfold Qc;rw [Bool.eq_iff_iff];simp<;>omega
  have hfb:JU b=decide ((b.toNat:Int)=10):=by unfold JU;rw [Bool.eq_iff_iff];simp<;>omega
  rw [hbb] at e1
  rw [hfb] at e2
  simp only [Bool.or_eq_true,decide_eq_true_eq] at e1 e2
  repeat' (first|refine ZE ?_|refine ZC ?_|refine ZF rfl ?_|refine ZO rfl rfl ?_|refine ZS rfl rfl rfl rfl ?_|refine Z8 rfl ?_|refine Ja rfl rfl ?_|refine Zp rfl rfl rfl rfl ?_|refine ZB rfl ?_|refine ZA ?_|(refine Zh rfl rfl (fun _=>?_) (fun _=>?_)<;>try (exfalso;omega))|(refine YG rfl rfl (fun _=>?_) (fun _=>?_)<;>try (exfalso;omega))|(refine Zl rfl rfl (fun _=>?_) (fun _=>?_)<;>try (exfalso;omega))|refine ZU rfl ?_|refine ZG rfl ?_|refine Zi rfl rfl (by omega) ?_|refine Zv rfl rfl rfl rfl rfl rfl ?_|refine ZMx rfl rfl (by omega) hb2 ?_|refine ZI ?_|refine Z2 ?_|refine Z4 ?_)
  all_goals refine fin _ _ ?_ ?_
  all_goals first|(rw [e1];split<;>omega)|(rw [e2];split<;>omega)
 ·have hi':i=s.length:=by omega
  subst hi'
  rw [List.take_length]
  refine Ji hA (by first|exact .inl rfl|exact .inr rfl) rfl rfl rfl rfl rfl ?_
  rfl
end Go.Q15
namespace Go.Q15
open Go Go.QAbs
set_option maxRecDepth 100000
set_option maxHeartbeats 8000000
theorem ZgD {N:ZJ} (hN:GoodN N) {A:List (Bool × List Blk)} {k:List Fr} {Q:Yv} {s:List UInt8} (hs:s.length≤65536) (B:Blk) (row:List Tr) (n:Nat) (r:List Tr) (hrow:Row N row 0 s) (hn:row.length≤n+1) (h64:row.length≤65536) (hr:Jd n row=r)
 (hex:∀ (G:List Blk) (ver:Nat),Rk (S Tb) k Q (.ex 2) [(2,.ptr A.length 0 0 0 0),(3,.ref A.length (B::G).length ver 0 r.length),(27,.bool false)] ⟨A,false,B::G++[.arr 7 ver (r.map Tr.av)]⟩) (ver:Nat) (ex:Env) :
 Ru (S Tb) (.loop X6) k Q ((2,.ptr A.length 0 0 0 0)::(3,.ref A.length 1 ver 0 row.length)::ex) ⟨A,false,[B,.arr 7 ver (row.map Tr.av)]⟩:=by
 refine Zq (α:=List Tr × List Blk × Nat × Env) (fun p=>(2,.ptr A.length 0 0 0 0)::(3,.ref A.length (B::p.2.1).length p.2.2.1 0 p.1.length)::p.2.2.2) (fun p=>⟨A,false,B::p.2.1++[.arr 7 p.2.2.1 (p.1.map Tr.av)]⟩)
  (fun p=>p.1.length≤65536∧∃ k h,p.1.length≤k+1∧Row N p.1 h s∧Jd k p.1=r) (fun p=>p.1.length) (row,[],ver,ex) rfl rfl ⟨h64,n,0,hn,hrow,hr⟩ ?_
 rintro ⟨row,G,ver,ex⟩ ⟨h64,kk,h,hk,hR,hb⟩
 simp only at h64 hk hR hb ⊢
 repeat' (first|refine ZE ?_|refine ZC ?_|refine ZF rfl ?_|refine ZB rfl ?_|refine ZA ?_|refine Q2 rfl ?_|(refine QW rfl rfl (fun _=>?_) (fun _=>?_)<;>try (exfalso;omega))|refine ZU rfl ?_|refine ZG rfl ?_|refine Zcs ?_|refine ZI ?_|refine Zo ?_|refine ZL ?_|refine Za ?_|refine Zj ?_)
 ·rename_i hgt
  have hgt2:2≤row.length:=by omega
  obtain ⟨kk,rfl⟩:∃ j,kk=j+1:=⟨kk-1,by omega⟩
  rw [Jd,if_neg (by omega)] at hb
  have hh:h+1≤16:=by
   match row,hgt2,hR with
   | t::r,_,hR =>
    have h1:=(hR.val t (by simp))
    have h3:=ZDm hN h1.1
    have h4:(t.txt N).length≤s.length:=by rw [← hR.txt,Tr.txtL,List.length_append];omega
    have:=h1.1.height hN (by omega)
    omega
  obtain ⟨u1,u2,u3⟩:=ZOZ hR hgt2 hh
  refine ZD rfl rfl rfl (ZWO row.length 4 _ (by omega) (by omega)) ?_
  have hg:=JW (n:=row.length) (most:=4) (by omega) (by omega)
  have hg4:ZV row.length 4=((row.length:Int)-1) / 4+1:=rfl
  have hget:=fun i hi=>ZGr (n:=row.length) (m:=4) (by omega) (i:=i) hi
  have hlen:=ZGs (n:=row.length) (m:=4) (by omega)
  have hpb:=fun (i:Nat) hi=>Y0 (n:=row.length) (g:=ZV row.length 4) (by omega) (by omega) (i:=i) hi
  have hps:=ZAa row.length (ZV row.length 4)
  have hp0:=ZBa row.length (ZV row.length 4) (by omega)
  have hsn:=YO (n:=row.length) (g:=ZV row.length 4) (by omega) (by omega)
  have hsz:∀ i,i<(ZV row.length 4).toNat→2≤(Xq row (ZV row.length 4) i).length:=by
   intro i hi
   have h1:=ZJl row hg.1 hi
   have h2:=ZJm (n:=row.length) (m:=4) (by omega) (by omega) (i:=i)
   have h3:2≤(row.length:Int) / ZV row.length 4:=by
    rw [Int.le_ediv_iff_mul_le (by omega)];omega
   omega
  have hrl:(Yc row).length=(ZV row.length 4).toNat:=by unfold Yc;simp
  have hrg:∀ i,i<(ZV row.length 4).toNat→(Yc row)[i]?=some (grp (Xq row (ZV row.length 4) i)):=by
   intro i hi
   unfold Yc
   rw [List.getElem?_map,List.getElem?_range hi];rfl
  have hpl:=fun i hi=>ZJl row (g:=ZV row.length 4) hg.1 (i:=i) hi
  have hpe:∀ i,Xq row (ZV row.length 4) i=(row.drop (Xr row.length (ZV row.length 4) i).toNat).take (JV row.length (ZV row.length 4) i).toNat:=fun _=>rfl
  generalize Yk (row.length:Int) 4=z at *
  generalize ZV (row.length:Int) 4=g at *
  generalize Yc row=up at *
  have hh2:∀ u∈row,u.h≤65536:=fun u hu=>by have:=(hR.val u hu).1.h16;omega
  repeat' (first|refine ZE ?_|refine ZC ?_|refine ZF rfl ?_|refine ZB rfl ?_|refine ZA ?_|refine ZL ?_)
  all_goals try (exfalso;omega)
  refine Zq (α:=Nat) (fun i=>[(2,.ptr A.length 0 0 0 0),(3,.ref A.length (B::G).length ver (Xr row.length g i).toNat (row.length-(Xr row.length g i).toNat)),(6,.ref A.length ((B::G).length+1) i 0 i),(7,ZDl z),(8,.int .i64 i)])
   (fun i=>⟨A,false,B::G++[.arr 7 ver (row.map Tr.av),.arr 7 i ((up.take i).map Tr.av)]⟩) (fun i=>i≤z.length) (fun i=>z.length-i) 0 ?_ ?_ (Nat.zero_le _) ?_
  ·simp [hp0]
  ·simp
  intro i hi
  repeat' (first|refine ZE ?_|refine ZC ?_|refine ZF rfl ?_|refine ZB rfl ?_|refine ZA ?_|refine QC rfl ?_|refine QQ rfl rfl ?_|refine Qr rfl rfl (by omega) (fun _=>rfl) (fun _ _=>?_)|(refine Zh rfl rfl (fun _=>?_) (fun _=>?_)<;>try (exfalso;omega))|refine ZU rfl ?_|refine ZG rfl ?_|refine ZI ?_|refine Zo ?_|refine ZL ?_|refine Za ?_|refine Z2 ?_|refine ZY rfl ?_|refine Z4 ?_|refine Zj ?_)
  ·rename_i hlt x hx
   have hi2:i<g.toNat:=by omega
   have hx2:z[i]?=some x:=hx
   rw [hget i hi2] at hx2
   have hx3:=Option.some.inj hx2
   subst hx3
   have hb0:=hpb i (by omega)
   have hb1:=hpb (i+1) (by omega)
   rw [hps i] at hb1
   have hs0:=hsn i
   have hpl2:=hpl i hi2
   have hrg2:=hrg i hi2
   have hpe2:=hpe i
   have hps2:=hps i
   have hsz2:=hsz i hi2
   generalize Xr (row.length:Int) g i=p at *
   generalize JV (row.length:Int) g i=q at *
   generalize Xq row g i=part at *
   have hgetL:∀ b:Blk,(B::G++[.arr 7 ver (row.map Tr.av),b])[(B::G).length]?=some (.arr 7 ver (row.map Tr.av)):=fun b=>ZQW _ _ _
   have hwi:wIs 7 ver (St.get ⟨A,false,B::G++[.arr 7 ver (row.map Tr.av),.arr 7 i ((up.take i).map Tr.av)]⟩ A.length (B::G).length)=true:=by
    rw [St.get_cur,hgetL];simp [vis,wIs]
   refine ZBq rfl rfl (by omega) hwi ?_
   have hSl:Sl ⟨A,false,B::G++[.arr 7 ver (row.map Tr.av),.arr 7 i ((up.take i).map Tr.av)]⟩ (.ref A.length (B::G).length ver p.toNat q.toNat) part:=by
    refine .ref (es:=row.map Tr.av) (by rw [St.get_cur,hgetL];rfl) (by omega) (by rw [List.length_map];omega) ?_
    rw [hpe2,← List.map_drop,← List.map_take]
   refine ZD rfl rfl rfl (ZWY hsz2 (by omega) (fun u hu=>hh2 u (by rw [hpe2] at hu;exact List.mem_of_mem_drop (List.mem_of_mem_take hu))) hSl) ?_
   have hti:(up.take i).length=i:=by rw [List.length_take];omega
   refine ZE2 rfl ?_
   refine Zcr rfl rfl (ZfA _ _ _ _) hti.symm (by omega) ?_
   rw [ZfB]
   have htk:=Zm hrg2
   rw [← htk]
   repeat' (first|refine ZC ?_|refine ZF rfl ?_|refine ZB rfl ?_|refine ZA ?_|refine QQ rfl rfl ?_|refine Qr rfl rfl (by omega) (fun _=>rfl) (fun _ _=>?_))
   rename_i y hy
   have hy2:z[(i:Int).toNat]?=some y:=hy
   rw [hx] at hy2
   have hy3:=Option.some.inj hy2
   subst hy3
   have hwi2:wIs 7 ver (St.get ⟨A,false,B::G++[.arr 7 ver (row.map Tr.av),.arr 7 (i+1) ((up.take (i+1)).map Tr.av)]⟩ A.length (B::G).length)=true:=by
    rw [St.get_cur,hgetL];simp [vis,wIs]
   refine ZLz rfl rfl (by omega) hwi2 ?_
   repeat' (first|refine ZC ?_|refine ZF rfl ?_|refine ZB rfl ?_|refine ZA ?_|refine Zi rfl rfl (by omega) ?_|refine Z2 ?_|refine Z4 ?_)
   refine ⟨i+1,⟨?_,rfl⟩,by omega,by omega⟩
   rw [show p.toNat+q.toNat=(p+q).toNat by omega,show row.length-p.toNat-q.toNat=row.length-(p+q).toNat by omega]
   simp only [hps2]
   rfl
  ·have hi2:i=up.length:=by omega
   subst hi2
   rw [List.take_length]
   refine ⟨(up,G++[.arr 7 ver (row.map Tr.av)],up.length,[]),⟨?_,?_⟩,⟨by simp only;omega,kk,h+1,by simp only;omega,u1,hb⟩,by simp only;omega⟩
   ·simp
   ·simp
 ·have hrr : Jd kk row = row := by
   cases kk with
   | zero=>rfl
   | succ j=>rw [Jd,if_pos (by omega)]
  rw [hrr] at hb
  subst hb
  exact hex G ver
theorem ZeQ {N:ZJ} (hN:GoodN N) (s:List UInt8) (hs:s.length≤65536) (st:St):S Tb XG [.str s] st=some ((QX s).av,st):=by
 refine Z5 rfl (fun A hA=>?_)
 have hcl:=ZQ3 s
 have hch:=fun st=>Zcm s st (by omega)
 obtain ⟨ra,rb,rc⟩:=ZCs (N:=N) s
 obtain ⟨h',rd,re,rf⟩:=ZJ6 hN s.length _ 0 s ra (by omega) hs
 unfold QX
 generalize hres:Jd s.length ((Qi s).map Qd)=r at *
 have hG:=fun {v:AV} {st:St} (hv:Sl st v r)=>ZeP (by omega) (fun u hu=>by have:=(rd.val u hu).1.h16;omega) hv
 have hlen:((Qi s).map Qd).length=(Qi s).length:=by simp
 generalize hc:Qi s=c at *
 unfold ZQ0 at hch
 repeat' (first|refine ZE ?_|refine ZC ?_|refine ZF rfl ?_|refine ZB rfl ?_|refine ZA ?_|refine Ze rfl rfl rfl ?_|refine Y5 rfl ?_|refine ZD rfl rfl (by first|rfl|(simp only [List.nil_append,List.append_nil,List.cons_append,Zn,ZZ,Zb];first|done|rfl)) (hch _) ?_|refine ZL ?_)
 all_goals try (exfalso;omega)
 refine Zq (α:=Nat) (fun i=>[(2,.ptr A.length 0 0 0 0),(3,.ref A.length 1 i 0 i),(4,.lit (c.map .str)),(5,.int .i64 i)])
  (fun i=>⟨A,false,[.arr 7 0 [trZ],.arr 7 i (((c.take i).map Qd).map Tr.av)]⟩) (fun i=>i≤c.length) (fun i=>c.length-i) 0 rfl rfl (by simp) ?_
 rintro i hi
 repeat' (first|refine ZE ?_|refine ZC ?_|refine ZF rfl ?_|refine ZB rfl ?_|refine ZA ?_|refine QC rfl ?_|refine QQ rfl rfl ?_|refine Qr rfl rfl (by omega) (fun _=>rfl) (fun _ _=>?_)|(refine Zh rfl rfl (fun _=>?_) (fun _=>?_)<;>try (exfalso;omega))|refine ZU rfl ?_|refine ZG rfl ?_|refine ZI ?_|refine Zo ?_|refine ZL ?_|refine Za ?_|refine ZY rfl ?_|refine Zj ?_)
 ·rename_i x hx
  have hx2:c[i]?=some x:=hx
  have hlen2:((c.take i).map Qd).length=i:=by rw [List.length_map,List.length_take];omega
  refine ZD rfl rfl rfl (ZgC x _) ?_
  repeat' (first|refine ZC ?_|refine ZF rfl ?_|refine ZB rfl ?_|refine ZA ?_|refine Zi rfl rfl (by omega) ?_|refine QL rfl rfl rfl rfl ?_|refine ZFS rfl rfl rfl (by first|rfl|(simp;done)|(simp;omega)) (by first|omega|(simp<;>omega)) (by decide) rfl rfl rfl ?_|refine Z2 ?_|refine Z4 ?_)
  refine ⟨i+1,⟨rfl,?_⟩,by omega,by omega⟩
  simp only [Zm hx2,List.map_append,List.map_cons,List.map_nil]
  rfl
 ·have hi':i=c.length:=by omega
  subst hi'
  rw [List.take_length]
  have:=ZgD hN hs (A:=A) (.arr 7 0 [trZ]) (c.map Qd) s.length r ra (by omega) (by omega) hres (k:=[.blk 2,.seq (.seq X7 .ret)]) (Q:=fun x e st'=>Jq false [.c 2 true 7] (x,e,st')=some ((grp r).av,st)) (fun G ver=>?_) c.length [(4,.lit (c.map .str)),(5,.int .i64 c.length),(14,.bool false)]
  ·rw [List.length_map] at this
   exact this
  ·repeat' (first|refine ZE ?_|refine ZC ?_|refine ZF rfl ?_|refine ZB rfl ?_|refine ZA ?_|refine Qn rfl rfl rfl rfl (QJ _ _ _) (Qt _ _) ?_|refine ZD rfl rfl (by first|rfl|(simp only [List.nil_append,List.append_nil,List.cons_append,Zn,ZZ,Zb];first|done|rfl)) (hG (Sl.cur (ZQW _ _ _) rfl)) ?_|refine ZQ ?_|refine ZP ?_|refine ZY rfl ?_)
   exact ZMZ hA (.inr rfl) rfl rfl rfl
end Go.Q15
namespace Go.Q15
open Go Go.QAbs
set_option maxRecDepth 100000
set_option maxHeartbeats 8000000
theorem ZgE (b:UInt8) (st:St):S Tb Xg [.int .u8 b.toNat] st=some (.bool (!Qc b),st):=by
 refine Z5 rfl (fun A hA=>?_)
 repeat' (first|refine ZE ?_|refine ZC ?_|refine ZF rfl ?_|refine Z8 rfl ?_|refine Ja rfl rfl ?_|refine Zp rfl rfl rfl rfl ?_|refine ZB rfl ?_|refine ZA ?_|(refine Zh rfl rfl (fun _=>?_) (fun _=>?_)<;>try (exfalso;omega))|(refine YG rfl rfl (fun _=>?_) (fun _=>?_)<;>try (exfalso;omega))|refine ZQ ?_|refine ZP ?_)
 all_goals refine Zd hA (by first|exact .inl rfl|exact .inr rfl) rfl rfl rfl rfl ?_
 all_goals (unfold Qc;simp;omega)
theorem ZeR (s:List UInt8) (hs:s.length<4294967296) (st:St):S Tb XJ [.str s] st=some (.int .i64 (s.countP Qc),st):=by
 refine Z5 rfl (fun A hA=>?_)
 repeat' (first|refine ZE ?_|refine ZC ?_|refine ZF rfl ?_|refine ZB rfl ?_|refine ZA ?_|refine ZL ?_)
 refine Zq (α:=Nat) (fun i=>[(0,.str s),(3,.int .i64 ((s.take i).countP Qc)),(4,.int .i64 i)])
  (fun i=>⟨A,false,[]⟩) (fun i=>i≤s.length) (fun i=>s.length-i) 0 rfl rfl (Nat.zero_le _) ?_
 intro i hi
 repeat' (first|refine ZE ?_|refine ZC ?_|refine ZF rfl ?_|refine ZB rfl ?_|refine ZA ?_|refine Qo rfl ?_|(refine Zh rfl rfl (fun _=>?_) (fun _=>?_)<;>try (exfalso;omega))|refine ZU rfl ?_|refine ZG rfl ?_|refine ZI ?_|refine ZQ ?_|refine Zo ?_|refine ZL ?_|refine ZP ?_|refine Za ?_|refine ZY rfl ?_|refine Zj ?_)
 ·rename_i hlt
  obtain ⟨b,hb,ht⟩:=ZjE (s:=s) (i:=i) (by omega)
  have hc:=List.countP_le_length (p:=Qc) (l:=s.take i)
  have hl:=List.length_take_le i s
  have hC:=ZgE b
  refine ZMx rfl rfl (by omega) (by simpa using hb) ?_
  cases hp:Qc b
  ·rw [hp] at hC
   repeat' (first|refine ZC ?_|refine ZF rfl ?_|refine ZB rfl ?_|refine ZA ?_|refine ZG rfl ?_|refine Jy rfl rfl ?_|refine Zi rfl rfl (by omega) ?_|refine ZD rfl rfl rfl (hC _) ?_|refine ZI ?_|refine Z2 ?_|refine Z4 ?_)
   refine ⟨i+1,⟨?_,rfl⟩,by omega,by omega⟩
   rw [ht,List.countP_append];simp [hp]
  ·rw [hp] at hC
   repeat' (first|refine ZC ?_|refine ZF rfl ?_|refine ZB rfl ?_|refine ZA ?_|refine ZU rfl ?_|refine Jy rfl rfl ?_|refine Zi rfl rfl (by omega) ?_|refine ZD rfl rfl rfl (hC _) ?_|refine Z2 ?_|refine Z4 ?_)
   refine ⟨i+1,⟨?_,rfl⟩,by omega,by omega⟩
   rw [ht,List.countP_append];simp [hp]
 ·refine Zd hA (by first|exact .inl rfl|exact .inr rfl) rfl rfl rfl rfl ?_
  rw [List.take_of_length_le (by omega)]
theorem ZjU (s:List UInt8) (hs:s.length<4294967296) (st:St):S Tb ZAZ [.str s] st=some ((Ya s).av,st):=by
 refine Z5 rfl (fun A hA=>?_)
 have hC:=ZeR s hs
 repeat' (first|refine ZE ?_|refine ZC ?_|refine ZF rfl ?_|refine ZB rfl ?_|refine ZA ?_|refine Qo rfl ?_|refine Zf rfl rfl rfl ?_|refine Ze rfl rfl rfl ?_|refine Zv rfl rfl rfl rfl rfl rfl ?_|refine ZD rfl rfl rfl (hC _) ?_|refine ZL ?_)
 refine Zq (α:=Nat) (fun i=>[(0,.str s),(2,.ptr A.length 0 0 0 0),(3,.ptr A.length 1 0 0 0),(4,.int .i64 i)])
  (fun i=>⟨A,false,[.arr 3 0 [.agg [.int .i64 0,.int .i64 0,.int .i64 0]],.arr 3 0 [.agg [.int .i64 s.length,.int .i64 (s.countP Qc),.int .i64 ((s.take i).countP JU)]]]⟩) (fun i=>i≤s.length) (fun i=>s.length-i) 0 rfl rfl (Nat.zero_le _) ?_
 intro i hi
 repeat' (first|refine ZE ?_|refine ZC ?_|refine ZF rfl ?_|refine ZS rfl rfl rfl rfl ?_|refine ZB rfl ?_|refine ZA ?_|refine Qo rfl ?_|(refine Zh rfl rfl (fun _=>?_) (fun _=>?_)<;>try (exfalso;omega))|refine ZU rfl ?_|refine ZG rfl ?_|refine Zv rfl rfl rfl rfl rfl rfl ?_|refine ZI ?_|refine ZQ ?_|refine Zo ?_|refine ZL ?_|refine ZP ?_|refine Za ?_|refine ZY rfl ?_|refine Zj ?_)
 ·rename_i hlt
  obtain ⟨b,hb,ht⟩:=ZjE (s:=s) (i:=i) (by omega)
  have hc2:=List.countP_le_length (p:=JU) (l:=s.take i)
  have hl:=List.length_take_le i s
  have hb2:s[(i:Int).toNat]?=some b:=by simpa using hb
  have e2:((s.take (i+1)).countP JU)=(s.take i).countP JU+(if JU b then 1 else 0):=by
   rw [ht,List.countP_append];simp [List.countP_cons]
  have fin:∀ y:Int,y=((s.take (i+1)).countP JU:Nat)→∃ c:Nat,([(0,AV.str s),(2,.ptr A.length 0 0 0 0),(3,.ptr A.length 1 0 0 0),(4,.int .i64 ((i:Int)+1))]=[(0,AV.str s),(2,.ptr A.length 0 0 0 0),(3,.ptr A.length 1 0 0 0),(4,.int .i64 c)] ∧
   (⟨A,false,[.arr 3 0 [.agg [.int .i64 0,.int .i64 0,.int .i64 0]],.arr 3 0 [.agg [.int .i64 s.length,.int .i64 (s.countP Qc),.int .i64 y]]]⟩:St)=⟨A,false,[.arr 3 0 [.agg [.int .i64 0,.int .i64 0,.int .i64 0]],.arr 3 0 [.agg [.int .i64 s.length,.int .i64 (s.countP Qc),.int .i64 ((s.take c).countP JU)]]]⟩)∧c≤s.length∧s.length-c<s.length-i:=by
   intro y hy
   subst hy
   exact ⟨i+1,⟨rfl,rfl⟩,by omega,by omega⟩
  have hfb:JU b=decide ((b.toNat:Int)=10):=by unfold JU;rw [Bool.eq_iff_iff];simp<;>omega
  rw [hfb] at e2
  simp only [decide_eq_true_eq] at e2
  repeat' (first|refine ZC ?_|refine ZF rfl ?_|refine ZO rfl rfl ?_|refine ZS rfl rfl rfl rfl ?_|refine ZB rfl ?_|refine ZA ?_|(refine Zl rfl rfl (fun _=>?_) (fun _=>?_)<;>try (exfalso;omega))|refine ZU rfl ?_|refine ZG rfl ?_|refine Zi rfl rfl (by omega) ?_|refine Zv rfl rfl rfl rfl rfl rfl ?_|refine ZMx rfl rfl (by omega) hb2 ?_|refine ZI ?_|refine Z2 ?_|refine Z4 ?_)
  all_goals refine fin _ ?_
  all_goals (rw [e2];split<;>omega)
 ·have hi':i=s.length:=by omega
  subst hi'
  rw [List.take_length]
  refine Ji hA (by first|exact .inl rfl|exact .inr rfl) rfl rfl rfl rfl rfl ?_
  rfl
end Go.Q15
namespace Go.Q15
open Go Go.QAbs
set_option maxRecDepth 100000
set_option maxHeartbeats 8000000
section
variable {O:Orc} {k:List Fr} {Q:Yv} {e:Env} {st:St} {keep:List Nat} {is:List PI} {d:Nat}
theorem ZjV {x y:Opd} {a:Nat} {b:Nat} {c:Int} (hx:Zg e x=some (.int .u64 a)) (hy:Zg e y=some (.int .u64 c)) (hc:c=b) (hw:a*b<18446744073709551616) (h:Is O is keep k Q ((d,.int .u64 ((a*b:Nat):Int))::e) st):Is O (⟨some d,none,false,.bin .mul x y⟩::is) keep k Q e st:=by
 subst hc
 refine ZFN hx hy ?_ h
 show some (AV.int .u64 (IntKind.u64.wrap ((a:Int)*(b:Int))))=_
 rw [← Int.natCast_mul,ZDi hw]
theorem ZjW {x y:Opd} {a b:Nat} (hx:Zg e x=some (.int .u64 a)) (hy:Zg e y=some (.int .u64 b)) (hw:a+b<18446744073709551616) (h:Is O is keep k Q ((d,.int .u64 ((a+b:Nat):Int))::e) st):Is O (⟨some d,none,false,.bin .add x y⟩::is) keep k Q e st:=by
 refine ZFN hx hy ?_ h
 show some (AV.int .u64 (IntKind.u64.wrap ((a:Int)+(b:Int))))=_
 rw [← Int.natCast_add,ZDi hw]
theorem ZjX {x y:Opd} {a b:Nat} {c:Int} (hx:Zg e x=some (.int .u64 a)) (hy:Zg e y=some (.int .u64 c)) (hc:c=b) (hw:a<18446744073709551616∧0<b) (h:Is O is keep k Q ((d,.int .u64 ((a / b:Nat):Int))::e) st):Is O (⟨some d,none,false,.bin .quo x y⟩::is) keep k Q e st:=by
 subst hc
 have h1:a / b≤a:=Nat.div_le_self a b
 refine ZFN hx hy ?_ h
 show (if (b:Int)=0 then none else some (AV.int .u64 (IntKind.u64.wrap ((a:Int).tdiv b))))=_
 rw [if_neg (by omega),Int.tdiv_eq_ediv_of_nonneg (by omega),← Int.natCast_ediv,ZDi (by omega)]
theorem ZjY {x y:Opd} {a b:Nat} {c:Int} (hx:Zg e x=some (.int .u64 a)) (hy:Zg e y=some (.int .u64 c)) (hc:c=b) (hw:0<b) (h:Is O is keep k Q ((d,.int .u64 ((a % b:Nat):Int))::e) st):Is O (⟨some d,none,false,.bin .rem x y⟩::is) keep k Q e st:=by
 subst hc
 refine ZFN hx hy ?_ h
 show (if (b:Int)=0 then none else some (AV.int .u64 ((a:Int).tmod b)))=_
 rw [if_neg (by omega),Int.tmod_eq_emod_of_nonneg (by omega),← Int.natCast_emod]
end
theorem ZgF (s g:Nat) (hs:s<16384) (hg:1≤g∧g≤4294967295) (st:St):S Tb Xf [.int .i64 s,.int .u64 g] st=some (.tup [.int .u64 ((g*65536+s:Nat):Int),.int .i64 0],st):=by
 refine Z5 rfl (fun A hA=>?_)
 repeat' (first|refine ZE ?_|refine ZC ?_|refine ZF rfl ?_|refine Z8 rfl ?_|refine Zp rfl rfl rfl rfl ?_|refine ZB rfl ?_|refine ZA ?_|(refine Zh rfl rfl (fun _=>?_) (fun _=>?_)<;>try (exfalso;omega))|(refine QW rfl rfl (fun _=>?_) (fun _=>?_)<;>try (exfalso;omega))|(refine YG rfl rfl (fun _=>?_) (fun _=>?_)<;>try (exfalso;omega))|refine ZG rfl ?_|refine ZjV (b:=65536) rfl rfl (by omega) (by omega) ?_|refine ZjW rfl rfl (by omega) ?_|refine ZIf rfl (ZDi (by omega)) ?_|refine ZI ?_|refine ZQ ?_|refine ZP ?_)
 all_goals try (exfalso;omega)
 all_goals refine Zd hA (by first|exact .inl rfl|exact .inr rfl) rfl rfl rfl rfl ?_
 all_goals rfl
theorem ZbM (h:Nat) (hh:XZ h) (st:St):S Tb XI [.int .u64 h] st=some (.int .i64 0,st):=by
 refine Z5 rfl (fun A hA=>?_)
 have h1:=hh.1
 have h2:=hh.2
 repeat' (first|refine ZE ?_|refine ZC ?_|refine ZF rfl ?_|refine Z8 rfl ?_|refine Zp rfl rfl rfl rfl ?_|refine ZB rfl ?_|refine ZA ?_|(refine Zh rfl rfl (fun _=>?_) (fun _=>?_)<;>try (exfalso;omega))|(refine QW rfl rfl (fun _=>?_) (fun _=>?_)<;>try (exfalso;omega))|(refine YG rfl rfl (fun _=>?_) (fun _=>?_)<;>try (exfalso;omega))|refine ZG rfl ?_|refine ZjX (b:=65536) rfl rfl (by omega) (by omega) ?_|refine ZjY (b:=65536) rfl rfl (by omega) (by omega) ?_|refine ZI ?_|refine ZQ ?_|refine ZP ?_)
 all_goals try (exfalso;omega)
 all_goals refine Zd hA (by first|exact .inl rfl|exact .inr rfl) rfl rfl rfl rfl ?_
 all_goals rfl
end Go.Q15
namespace Go.Q15
open Go Go.QAbs
set_option maxRecDepth 100000
set_option maxHeartbeats 8000000
theorem Zcv (n:Nat) (hn:n≤15) (k:Kid) (hk:KidOk n k) (st:St):S Tb X5 [.int .i64 ((n+1:Nat):Int),k.av] st=some (.bool true,st):=by
 refine Z5 rfl (fun A hA=>?_)
 obtain ⟨a1,b1,c1,d1,e1,f1,g1⟩:=hk
 repeat' (first|refine ZE ?_|refine ZC ?_|refine ZF rfl ?_|refine ZB rfl ?_|refine ZA ?_|refine Ze rfl rfl rfl ?_|refine ZL ?_)
 refine Zq (α:=Nat) (fun i=>[(0,.int .i64 ((n+1:Nat):Int)),(3,.ptr A.length 0 0 0 0),(5,.int .i64 (leastB i)),(6,.int .i64 (mostB i)),(7,.int .i64 ((i+1:Nat):Int))]) (fun i=>⟨A,false,[.arr 4 0 [k.av]]⟩) (fun i=>i≤n) (fun i=>n-i) 0 rfl rfl (by omega) ?_
 intro i hi
 have hl:=ZBZ (h:=i) (by omega)
 have hm:=ZJg i
 repeat' (first|refine ZE ?_|refine ZC ?_|refine ZF rfl ?_|refine ZO rfl rfl ?_|refine ZS rfl rfl rfl rfl ?_|refine ZB rfl ?_|refine ZA ?_|(refine Zh rfl rfl (fun _=>?_) (fun _=>?_)<;>try (exfalso;omega))|refine ZU rfl ?_|refine ZG rfl ?_|refine Zi rfl rfl (by omega) ?_|refine ZZ8 rfl rfl (by omega) ?_|refine Ze rfl rfl rfl ?_|refine Zv rfl rfl rfl rfl rfl rfl ?_|refine ZaA rfl rfl ?_|refine ZI ?_|refine Zo ?_|refine ZL ?_|refine Za ?_|refine Z2 ?_|refine ZY rfl ?_|refine Z4 ?_|refine Zj ?_)
 ·refine ⟨i+1,⟨?_,rfl⟩,by omega,by omega⟩
  rw [ZDj]
  simp only [mostB,Bool.false_eq_true,if_false]
  rw [show ((min (mostB i*4) 65536:Nat):Int)=min ((mostB i:Int)*4) 65536 by omega]
  rfl
 ·have:i=n:=by omega
  subst this
  repeat' (first|refine ZF rfl ?_|refine ZO rfl rfl ?_|refine ZS rfl rfl rfl rfl ?_|refine Z8 rfl ?_|refine Zp rfl rfl rfl rfl ?_|refine ZB rfl ?_|refine ZA ?_|(refine ZAW rfl rfl (fun _=>?_) (fun _=>?_)<;>try (exfalso;omega))|(refine YG rfl rfl (fun _=>?_) (fun _=>?_)<;>try (exfalso;omega))|(refine Zl rfl rfl (fun _=>?_) (fun _=>?_)<;>try (exfalso;omega))|refine ZD rfl rfl rfl (ZbM k.at_ a1 _) ?_|refine ZQ ?_|refine ZP ?_)
  all_goals try (exfalso;omega)
  all_goals refine Zd hA (by first|exact .inl rfl|exact .inr rfl) rfl rfl rfl rfl ?_
  all_goals rfl
theorem ZWZ (x:Nd) (h0:x.h=0) (h1:1≤x.text.length∧x.text.length≤16) (h2:x.ks=[]) (st:St):S Tb JF [x.av] st=some (.bool true,st):=by
 obtain ⟨h,text,kids⟩:=x
 simp only at h0 h1
 subst h0
 refine Z5 rfl (fun A hA=>?_)
 cases kids with
 | none =>
  simp only [Nd.av,slV]
  repeat' (first|refine ZE ?_|refine ZC ?_|refine ZF rfl ?_|refine ZO rfl rfl ?_|refine ZS rfl rfl rfl rfl ?_|refine Z8 rfl ?_|refine Zp rfl rfl rfl rfl ?_|refine ZB rfl ?_|refine ZA ?_|refine Qo rfl ?_|refine JI rfl ?_|(refine ZAW rfl rfl (fun _=>?_) (fun _=>?_)<;>try (exfalso;omega))|(refine YG rfl rfl (fun _=>?_) (fun _=>?_)<;>try (exfalso;omega))|(refine Zl rfl rfl (fun _=>?_) (fun _=>?_)<;>try (exfalso;omega))|refine ZU rfl ?_|refine Ze rfl rfl rfl ?_|refine ZQ ?_|refine ZP ?_|refine ZX ?_)
  all_goals try (exfalso;omega)
  refine Zd hA (by first|exact .inl rfl|exact .inr rfl) rfl rfl rfl rfl ?_
  rfl
 | some l =>
  have:l=[]:=h2
  subst this
  simp only [Nd.av,slV]
  repeat' (first|refine ZE ?_|refine ZC ?_|refine ZF rfl ?_|refine ZO rfl rfl ?_|refine ZS rfl rfl rfl rfl ?_|refine Z8 rfl ?_|refine Zp rfl rfl rfl rfl ?_|refine ZB rfl ?_|refine ZA ?_|refine Qo rfl ?_|refine YJ rfl rfl ?_|(refine ZAW rfl rfl (fun _=>?_) (fun _=>?_)<;>try (exfalso;omega))|(refine YG rfl rfl (fun _=>?_) (fun _=>?_)<;>try (exfalso;omega))|(refine Zl rfl rfl (fun _=>?_) (fun _=>?_)<;>try (exfalso;omega))|refine ZU rfl ?_|refine Ze rfl rfl rfl ?_|refine ZQ ?_|refine ZP ?_|refine ZX ?_)
  all_goals try (exfalso;omega)
  refine Zd hA (by first|exact .inl rfl|exact .inr rfl) rfl rfl rfl rfl ?_
  rfl
end Go.Q15
namespace Go.Q15
open Go Go.QAbs
set_option maxRecDepth 100000
set_option maxHeartbeats 8000000
theorem ZbN (n:Nat) (hn:n≤15) (ks:List Kid) (hk:2≤ks.length∧ks.length≤4) (hs:∀ k∈ks,KidOk n k) (st:St):S Tb JF [Nd.av ⟨n+1,[],some ks⟩] st=some (.bool true,st):=by
 refine Z5 rfl (fun A hA=>?_)
 simp only [Nd.av,slV]
 repeat' (first|refine ZE ?_|refine ZC ?_|refine ZF rfl ?_|refine ZO rfl rfl ?_|refine ZS rfl rfl rfl rfl ?_|refine Z8 rfl ?_|refine Zp rfl rfl rfl rfl ?_|refine ZB rfl ?_|refine ZA ?_|refine QC rfl ?_|(refine Zh rfl rfl (fun _=>?_) (fun _=>?_)<;>try (exfalso;omega))|(refine QW rfl rfl (fun _=>?_) (fun _=>?_)<;>try (exfalso;omega))|(refine Zl rfl rfl (fun _=>?_) (fun _=>?_)<;>try (exfalso;omega))|(refine ZMw rfl rfl (fun _=>?_) (fun _=>?_)<;>try contradiction)|refine ZG rfl ?_|refine Ze rfl rfl rfl ?_|refine ZI ?_|refine ZL ?_)
 all_goals try (exfalso;omega)
 refine Zq (α:=Nat) (fun i=>[(1,.ptr A.length 0 0 0 0),(3,.int .i64 i)]) (fun i=>⟨A,false,[.arr 3 0 [.agg [.int .i64 ↑(n+1),.str [],.lit (ks.map Kid.av)]]]⟩) (fun i=>i≤ks.length) (fun i=>ks.length-i) 0 rfl rfl (by simp) ?_
 intro i hi
 repeat' (first|refine ZE ?_|refine ZC ?_|refine ZF rfl ?_|refine ZO rfl rfl ?_|refine ZS rfl rfl rfl rfl ?_|refine ZB rfl ?_|refine ZA ?_|refine QC rfl ?_|refine QQ rfl rfl ?_|refine Qr rfl rfl (by omega) (fun _=>rfl) (fun _ _=>?_)|(refine Zh rfl rfl (fun _=>?_) (fun _=>?_)<;>try (exfalso;omega))|refine ZU rfl ?_|refine ZG rfl ?_|refine ZI ?_|refine ZQ ?_|refine Zo ?_|refine ZL ?_|refine ZP ?_|refine Za ?_|refine ZY rfl ?_|refine Zj ?_)
 ·rename_i k hk'
  have hK:=fun st=>Zcv n hn k (hs k (List.mem_of_getElem? hk')) st
  repeat' (first|refine ZC ?_|refine ZF rfl ?_|refine ZB rfl ?_|refine ZA ?_|refine ZG rfl ?_|refine Jy rfl rfl ?_|refine Zi rfl rfl (by omega) ?_|refine ZD rfl rfl rfl (hK _) ?_|refine ZI ?_|refine Z2 ?_|refine Z4 ?_)
  exact ⟨i+1,⟨rfl,rfl⟩,by omega,by omega⟩
 ·refine Zd hA (by first|exact .inl rfl|exact .inr rfl) rfl rfl rfl rfl ?_
  rfl
theorem ZYk (n:Nat) (hn:n≤15) (ks:List Kid) (hk:2≤ks.length∧ks.length≤4) (hs:∀ k∈ks,KidOk n k) (st:St) {lv ix ver:Nat} (hr:KRef st lv ix ver ks):S Tb JF [ndR (n+1) lv ix ver ks.length] st=some (.bool true,st):=by
 refine Z5 rfl (fun A hA=>?_)
 obtain ⟨es,g,ge⟩:=hr
 have gA:=fun L=>ZW hA (ro:=false) (L:=L) g
 have hwi:∀ L,wIs 4 ver (St.get ⟨A,false,L⟩ lv ix)=true:=fun L=>by rw [gA];simp [wIs]
 unfold ndR
 repeat' (first|refine ZE ?_|refine ZC ?_|refine ZF rfl ?_|refine ZO rfl rfl ?_|refine ZS rfl rfl rfl rfl ?_|refine Z8 rfl ?_|refine Zp rfl rfl rfl rfl ?_|refine ZB rfl ?_|refine ZA ?_|refine Q2 rfl ?_|(refine Zh rfl rfl (fun _=>?_) (fun _=>?_)<;>try (exfalso;omega))|(refine QW rfl rfl (fun _=>?_) (fun _=>?_)<;>try (exfalso;omega))|(refine Zl rfl rfl (fun _=>?_) (fun _=>?_)<;>try (exfalso;omega))|(refine ZMw rfl rfl (fun _=>?_) (fun _=>?_)<;>try contradiction)|refine ZG rfl ?_|refine Ze rfl rfl rfl ?_|refine ZI ?_|refine ZL ?_)
 all_goals try (exfalso;omega)
 refine Zq (α:=Nat) (fun i=>[(1,.ptr A.length 0 0 0 0),(3,.int .i64 i)]) (fun i=>⟨A,false,[.arr 3 0 [.agg [.int .i64 ↑(n+1),.str [],.ref lv ix ver 0 ks.length]]]⟩) (fun i=>i≤ks.length) (fun i=>ks.length-i) 0 rfl rfl (by simp) ?_
 intro i hi
 repeat' (first|refine ZE ?_|refine ZC ?_|refine ZF rfl ?_|refine ZO rfl rfl ?_|refine ZS rfl rfl rfl rfl ?_|refine ZB rfl ?_|refine ZA ?_|refine Q2 rfl ?_|(refine Zh rfl rfl (fun _=>?_) (fun _=>?_)<;>try (exfalso;omega))|refine ZU rfl ?_|refine ZG rfl ?_|refine ZI ?_|refine ZQ ?_|refine Zo ?_|refine ZL ?_|refine ZP ?_|refine Za ?_|refine ZY rfl ?_|refine Zj ?_)
 ·rename_i hlt
  obtain ⟨k,hk'⟩:∃ k,ks[i]?=some k:=⟨ks[i]'(by omega),by simp [show i<ks.length by omega]⟩
  have hK:=fun st=>Zcv n hn k (hs k (List.mem_of_getElem? hk')) st
  refine Jb rfl rfl (by omega) (hwi _) ?_
  refine QG (x:=k.av) rfl (gA _) (ZDn ge hk') rfl ?_
  repeat' (first|refine ZC ?_|refine ZF rfl ?_|refine ZB rfl ?_|refine ZA ?_|refine ZG rfl ?_|refine Jy rfl rfl ?_|refine Zi rfl rfl (by omega) ?_|refine ZD rfl rfl rfl (hK _) ?_|refine ZI ?_|refine Z2 ?_|refine Z4 ?_)
  exact ⟨i+1,⟨rfl,rfl⟩,by omega,by omega⟩
 ·refine Zd hA (by first|exact .inl rfl|exact .inr rfl) rfl rfl rfl rfl ?_
  rfl
end Go.Q15
namespace Go.Q15
open Go Go.QAbs
set_option maxRecDepth 100000
set_option maxHeartbeats 8000000
theorem Zcw {ks:List Kid} (hs:∀ k∈ks,k.m.Fit 65536) (i:Nat) (hk:ks.length≤4):(QE ((ks.take i).map Kid.m)).Fit 262144:=by
 have:=ZE1 (l:=(ks.take i).map Kid.m) (by
  intro m hm
  obtain ⟨k,hk1,rfl⟩:=List.mem_map.1 hm
  exact hs k (List.mem_of_mem_take hk1))
 have hl:((ks.take i).map Kid.m).length≤4:=by rw [List.length_map,List.length_take];omega
 obtain ⟨a,b,c,d,e,f⟩:=this
 constructor<;>omega
theorem Zcx {ks:List Kid} {i:Nat} {k:Kid} (h:ks[i]?=some k):QE ((ks.take (i+1)).map Kid.m)=(QE ((ks.take i).map Kid.m)).add k.m:=by
 rw [Zm h,List.map_append,ZJh]
 simp only [List.map_cons,List.map_nil,QE,Mea.add_zero]
theorem ZZS (n:Nat) (ks:List Kid) (hk:ks.length≤4) (hs:∀ k∈ks,k.m.Fit 65536) (st:St):S Tb JK [Nd.av ⟨n+1,[],some ks⟩,.int .i64 ks.length] st=some ((QE (ks.map Kid.m)).av,st):=by
 refine Z5 rfl (fun A hA=>?_)
 simp only [Nd.av,slV]
 repeat' (first|refine ZE ?_|refine ZC ?_|refine ZF rfl ?_|refine ZB rfl ?_|refine ZA ?_|refine Zf rfl rfl rfl ?_|refine Ze rfl rfl rfl ?_|refine Zv rfl rfl rfl rfl rfl rfl ?_|refine ZL ?_)
 refine Zq (α:=Nat × List Blk) (fun p=>[(1,.int .i64 ks.length),(2,.ptr A.length 0 0 0 0),(4,.ptr A.length 1 0 0 0),(5,.ptr A.length 2 0 0 0),(6,.int .i64 p.1)]) (fun p=>⟨A,false,.arr 3 0 [.agg [.int .i64 ↑(n+1),.str [],.lit (ks.map Kid.av)]]::.arr 3 0 [.agg [.int .i64 0,.int .i64 0,.int .i64 0]]::.arr 3 0 [(QE ((ks.take p.1).map Kid.m)).av]::p.2⟩) (fun p=>p.1≤ks.length) (fun p=>ks.length-p.1) (0,[]) rfl rfl (by simp) ?_
 rintro ⟨i,G⟩ hi
 simp only at hi ⊢
 have hf:=Zcw hs i hk
 have he:=fun k hk=>Zcx (ks:=ks) (i:=i) (k:=k) hk
 generalize hsm:QE ((ks.take i).map Kid.m)=sm at *
 obtain ⟨sb,sr,sl⟩:=sm
 obtain ⟨f1,f2,f3,f4,f5,f6⟩:=hf
 simp only [Mea.av] at *
 repeat' (first|refine ZE ?_|refine ZC ?_|refine ZF rfl ?_|refine ZO rfl rfl ?_|refine ZS rfl rfl rfl rfl ?_|refine ZB rfl ?_|refine ZA ?_|refine Qs rfl rfl rfl ?_|refine QQ rfl rfl ?_|refine Qr rfl rfl (by omega) (fun _=>rfl) (fun _ _=>?_)|(refine Zh rfl rfl (fun _=>?_) (fun _=>?_)<;>try (exfalso;omega))|refine ZU rfl ?_|refine ZG rfl ?_|refine Z0 rfl rfl rfl ?_|refine Yh rfl rfl rfl rfl rfl rfl ?_|refine Qn rfl rfl rfl rfl rfl rfl ?_|refine ZI ?_|refine ZQ ?_|refine Zo ?_|refine ZL ?_|refine ZP ?_|refine Za ?_|refine ZY rfl ?_|refine Zj ?_)
 ·rename_i k hk'
  have hk2:ks[i]?=some k:=hk'
  obtain ⟨g1,g2,g3,g4,g5,g6⟩:=hs k (List.mem_of_getElem? hk2)
  repeat' (first|refine ZC ?_|refine ZF rfl ?_|refine ZO rfl rfl ?_|refine ZS rfl rfl rfl rfl ?_|refine ZB rfl ?_|refine ZA ?_|refine Qs rfl rfl rfl ?_|refine Zi rfl rfl (by omega) ?_|refine Zf rfl rfl rfl ?_|refine Qn rfl rfl rfl rfl rfl rfl ?_|refine Z2 ?_|refine Z4 ?_)
  refine ⟨(i+1,G++[.arr 3 0 [k.m.av]]),⟨rfl,?_⟩,by simp only;omega,by simp only;omega⟩
  simp only [he k hk2]
  rfl
 ·have hi':ks.take i=ks:=List.take_of_length_le (by omega)
  rw [hi'] at hsm
  rw [hsm]
  skip
  refine Ji hA (by first|exact .inl rfl|exact .inr rfl) rfl rfl rfl rfl rfl ?_
  rfl
theorem ZeS (n:Nat) (ks:List Kid) (hk:ks.length≤4) (hs:∀ k∈ks,k.m.Fit 65536) (st:St) {lv ix ver:Nat} (hr:KRef st lv ix ver ks):S Tb JK [ndR (n+1) lv ix ver ks.length,.int .i64 ks.length] st=some ((QE (ks.map Kid.m)).av,st):=by
 refine Z5 rfl (fun A hA=>?_)
 obtain ⟨es,g,ge⟩:=hr
 have gA:=fun L=>ZW hA (ro:=false) (L:=L) g
 have hwi:∀ L,wIs 4 ver (St.get ⟨A,false,L⟩ lv ix)=true:=fun L=>by rw [gA];simp [wIs]
 unfold ndR
 repeat' (first|refine ZE ?_|refine ZC ?_|refine ZF rfl ?_|refine ZB rfl ?_|refine ZA ?_|refine Zf rfl rfl rfl ?_|refine Ze rfl rfl rfl ?_|refine Zv rfl rfl rfl rfl rfl rfl ?_|refine ZL ?_)
 refine Zq (α:=Nat × List Blk) (fun p=>[(1,.int .i64 ks.length),(2,.ptr A.length 0 0 0 0),(4,.ptr A.length 1 0 0 0),(5,.ptr A.length 2 0 0 0),(6,.int .i64 p.1)]) (fun p=>⟨A,false,.arr 3 0 [.agg [.int .i64 ↑(n+1),.str [],.ref lv ix ver 0 ks.length]]::.arr 3 0 [.agg [.int .i64 0,.int .i64 0,.int .i64 0]]::.arr 3 0 [(QE ((ks.take p.1).map Kid.m)).av]::p.2⟩) (fun p=>p.1≤ks.length) (fun p=>ks.length-p.1) (0,[]) rfl rfl (by simp) ?_
 rintro ⟨i,G⟩ hi
 simp only at hi ⊢
 have hf:=Zcw hs i hk
 have he:=fun k hk=>Zcx (ks:=ks) (i:=i) (k:=k) hk
 generalize hsm:QE ((ks.take i).map Kid.m)=sm at *
 obtain ⟨sb,sr,sl⟩:=sm
 obtain ⟨f1,f2,f3,f4,f5,f6⟩:=hf
 simp only [Mea.av] at *
 repeat' (first|refine ZE ?_|refine ZC ?_|refine ZF rfl ?_|refine ZO rfl rfl ?_|refine ZS rfl rfl rfl rfl ?_|refine ZB rfl ?_|refine ZA ?_|(refine Zh rfl rfl (fun _=>?_) (fun _=>?_)<;>try (exfalso;omega))|refine ZU rfl ?_|refine ZG rfl ?_|refine Qn rfl rfl rfl rfl rfl rfl ?_|refine ZI ?_|refine ZQ ?_|refine Zo ?_|refine ZL ?_|refine ZP ?_|refine Za ?_|refine ZY rfl ?_|refine Zj ?_)
 ·rename_i hlt
  obtain ⟨k,hk2⟩:∃ k,ks[i]?=some k:=⟨ks[i]'(by omega),by simp [show i<ks.length by omega]⟩
  obtain ⟨g1,g2,g3,g4,g5,g6⟩:=hs k (List.mem_of_getElem? hk2)
  refine Jb rfl rfl (by omega) (hwi _) ?_
  refine ZO rfl rfl ?_
  refine QG (x:=k.av) rfl (gA _) (ZDn ge hk2) rfl ?_
  repeat' (first|refine ZC ?_|refine ZF rfl ?_|refine ZO rfl rfl ?_|refine ZS rfl rfl rfl rfl ?_|refine ZB rfl ?_|refine ZA ?_|refine Qs rfl rfl rfl ?_|refine Zi rfl rfl (by omega) ?_|refine Zf rfl rfl rfl ?_|refine Z0 rfl rfl rfl ?_|refine Yh rfl rfl rfl rfl rfl rfl ?_|refine Qn rfl rfl rfl rfl rfl rfl ?_|refine Z2 ?_|refine Z4 ?_)
  refine ⟨(i+1,G++[.arr 3 0 [k.m.av]]),⟨rfl,?_⟩,by simp only;omega,by simp only;omega⟩
  simp only [he k hk2]
  rfl
 ·have hi':ks.take i=ks:=List.take_of_length_le (by omega)
  rw [hi'] at hsm
  rw [hsm]
  skip
  refine Ji hA (by first|exact .inl rfl|exact .inr rfl) rfl rfl rfl rfl rfl ?_
  rfl
end Go.Q15
namespace Go.Q15
open Go Go.QAbs
set_option maxRecDepth 100000
set_option maxHeartbeats 8000000
theorem Zcy (x:Nd) (st:St):S Tb JK [x.av,.int .i64 0] st=some (Mea.zero.av,st):=by
 obtain ⟨h,text,kids⟩:=x
 refine Z5 rfl (fun A hA=>?_)
 simp only [Nd.av]
 cases kids
 all_goals simp only [slV]
 all_goals repeat' (first|refine ZE ?_|refine ZC ?_|refine ZF rfl ?_|refine ZS rfl rfl rfl rfl ?_|refine ZB rfl ?_|refine ZA ?_|(refine Zh rfl rfl (fun _=>?_) (fun _=>?_)<;>try (exfalso;omega))|refine ZG rfl ?_|refine Zf rfl rfl rfl ?_|refine Ze rfl rfl rfl ?_|refine Zv rfl rfl rfl rfl rfl rfl ?_|refine Q0 ?_|refine ZQ ?_|refine Zo ?_|refine ZL ?_|refine ZP ?_|refine Za ?_|refine ZY rfl ?_)
 all_goals refine Ji hA (by first|exact .inl rfl|exact .inr rfl) rfl rfl rfl rfl rfl ?_
 all_goals rfl
theorem ZQ4 (x:Nd) (hx:NdOk x) (st:St):S Tb JR [x.av] st=some (.int .i64 0,st):=by
 rcases hx with h|⟨n,ks,rfl,h1,h2,h3,h4,h5⟩
 ·have hf:=fun st=>ZWZ x h.h ⟨h.lo,h.hi⟩ h.ks st
  have hS:=fun st=>Zcy x st
  have hks:=h.ks
  unfold Mea.av at hS
  obtain ⟨h,text,kids⟩:=x
  simp only [Nd.av] at *
  refine Z5 rfl (fun A hA=>?_)
  cases kids with
  | none =>
   simp only [slV] at *
   repeat' (first|refine ZE ?_|refine ZC ?_|refine ZF rfl ?_|refine ZO rfl rfl ?_|refine ZS rfl rfl rfl rfl ?_|refine ZB rfl ?_|refine ZA ?_|refine ZLx (agg:=false) rfl rfl ?_|refine JI rfl ?_|(refine QW rfl rfl (fun _=>?_) (fun _=>?_)<;>try (exfalso;omega))|refine ZU rfl ?_|refine ZG rfl ?_|refine Jy rfl rfl ?_|refine Ze rfl rfl rfl ?_|refine ZD rfl rfl rfl (hf _) ?_|refine ZD rfl rfl rfl (hS _) ?_|refine ZI ?_|refine ZQ ?_|refine ZP ?_|refine ZX ?_)
   all_goals try (exfalso;simp [Mea.zero] at *;done)
   all_goals refine Zd hA (by first|exact .inl rfl|exact .inr rfl) rfl rfl rfl rfl ?_
   all_goals rfl
  | some l =>
   have:l=[]:=hks
   subst this
   simp only [slV] at *
   repeat' (first|refine ZE ?_|refine ZC ?_|refine ZF rfl ?_|refine ZO rfl rfl ?_|refine ZS rfl rfl rfl rfl ?_|refine ZB rfl ?_|refine ZA ?_|refine ZLx (agg:=false) rfl rfl ?_|refine YJ rfl rfl ?_|(refine QW rfl rfl (fun _=>?_) (fun _=>?_)<;>try (exfalso;omega))|refine ZU rfl ?_|refine ZG rfl ?_|refine Jy rfl rfl ?_|refine Ze rfl rfl rfl ?_|refine ZD rfl rfl rfl (hf _) ?_|refine ZD rfl rfl rfl (hS _) ?_|refine ZI ?_|refine ZQ ?_|refine ZP ?_|refine ZX ?_)
   all_goals try (exfalso;simp [Mea.zero] at *;done)
   all_goals refine Zd hA (by first|exact .inl rfl|exact .inr rfl) rfl rfl rfl rfl ?_
   all_goals rfl
 ·have hf:=fun st=>ZbN n h1 ks ⟨h2,h3⟩ h4 st
  have hS:=fun st=>ZZS n ks h3 (fun k hk=>(h4 k hk).fit) st
  unfold Mea.av at hS
  simp only [Nd.av,slV] at *
  refine Z5 rfl (fun A hA=>?_)
  repeat' (first|refine ZE ?_|refine ZC ?_|refine ZF rfl ?_|refine ZO rfl rfl ?_|refine ZS rfl rfl rfl rfl ?_|refine ZB rfl ?_|refine ZA ?_|refine ZLx (agg:=false) rfl rfl ?_|refine QC rfl ?_|(refine QW rfl rfl (fun _=>?_) (fun _=>?_)<;>try (exfalso;omega))|refine ZG rfl ?_|refine Jy rfl rfl ?_|refine Ze rfl rfl rfl ?_|refine ZD rfl rfl rfl (hf _) ?_|refine ZD rfl rfl rfl (hS _) ?_|refine ZI ?_|refine ZQ ?_|refine ZP ?_)
  refine Zd hA (by first|exact .inl rfl|exact .inr rfl) rfl rfl rfl rfl ?_
  rfl
theorem ZYl (n:Nat) (hn:n≤15) (ks:List Kid) (hk:2≤ks.length∧ks.length≤4) (hs:∀ k∈ks,KidOk n k) (hsum:(QE (ks.map Kid.m)).b≤65536) (st:St) {lv ix ver:Nat} (hr:KRef st lv ix ver ks):S Tb JR [ndR (n+1) lv ix ver ks.length] st=some (.int .i64 0,st):=by
 refine Z5 rfl (fun A hA=>?_)
 have hf:=fun L=>ZYk n hn ks hk hs _ (hr.push hA (ro:=false) (L:=L))
 have hS:=fun L=>ZeS n ks hk.2 (fun k hk=>(hs k hk).fit) _ (hr.push hA (ro:=false) (L:=L))
 unfold Mea.av ndR at *
 repeat' (first|refine ZE ?_|refine ZC ?_|refine ZF rfl ?_|refine ZO rfl rfl ?_|refine ZS rfl rfl rfl rfl ?_|refine ZB rfl ?_|refine ZA ?_|refine ZLx (agg:=false) rfl rfl ?_|refine Q2 rfl ?_|(refine QW rfl rfl (fun _=>?_) (fun _=>?_)<;>try (exfalso;omega))|refine ZG rfl ?_|refine Jy rfl rfl ?_|refine Ze rfl rfl rfl ?_|refine ZD rfl rfl rfl (hf _) ?_|refine ZD rfl rfl rfl (hS _) ?_|refine ZI ?_|refine ZQ ?_|refine ZP ?_)
 refine Zd hA (by first|exact .inl rfl|exact .inr rfl) rfl rfl rfl rfl ?_
 rfl
theorem ZYm (x:Nd) (hx:NdOk x) (st:St):S Tb Yj [x.av] st=some (.tup [x.mea.av,.int .i64 0],st):=by
 have hC:=fun st=>ZQ4 x hx st
 rcases hx with h|⟨n,ks,rfl,h1,h2,h3,h4,h5⟩
 ·have hS:=fun st=>ZjU x.text (by have:=h.hi;omega) st
  have he:x.mea=Ya x.text:=by unfold Nd.mea;rw [if_pos h.h]
  have h0:=h.h
  rw [he]
  unfold Mea.av at *
  obtain ⟨h,text,kids⟩:=x
  simp only at h0
  subst h0
  simp only [Nd.av] at *
  refine Z5 rfl (fun A hA=>?_)
  cases kids
  all_goals simp only [slV] at *
  all_goals repeat' (first|refine ZE ?_|refine ZC ?_|refine ZF rfl ?_|refine ZO rfl rfl ?_|refine ZS rfl rfl rfl rfl ?_|refine ZB rfl ?_|refine ZA ?_|(refine Zl rfl rfl (fun _=>?_) (fun _=>?_)<;>try (exfalso;omega))|(refine Zu rfl rfl (fun _=>?_) (fun _=>?_)<;>try (exfalso;omega))|refine ZU rfl ?_|refine ZG rfl ?_|refine Ze rfl rfl rfl ?_|refine Zv rfl rfl rfl rfl rfl rfl ?_|refine ZD rfl rfl rfl (hC _) ?_|refine ZD rfl rfl rfl (hS _) ?_|refine ZI ?_|refine ZQ ?_|refine ZP ?_|refine ZX ?_)
  all_goals refine Ji hA (by first|exact .inl rfl|exact .inr rfl) rfl rfl rfl rfl rfl ?_
  all_goals rfl
 ·have hS:=fun st=>ZZS n ks h3 (fun k hk=>(h4 k hk).fit) st
  have he:Nd.mea ⟨n+1,[],some ks⟩=QE (ks.map Kid.m):=rfl
  rw [he]
  unfold Mea.av at *
  simp only [Nd.av,slV] at *
  refine Z5 rfl (fun A hA=>?_)
  repeat' (first|refine ZE ?_|refine ZC ?_|refine ZF rfl ?_|refine ZO rfl rfl ?_|refine ZS rfl rfl rfl rfl ?_|refine ZB rfl ?_|refine ZA ?_|refine QC rfl ?_|(refine Zl rfl rfl (fun _=>?_) (fun _=>?_)<;>try (exfalso;omega))|(refine Zu rfl rfl (fun _=>?_) (fun _=>?_)<;>try (exfalso;omega))|refine ZG rfl ?_|refine Ze rfl rfl rfl ?_|refine Zv rfl rfl rfl rfl rfl rfl ?_|refine ZD rfl rfl rfl (hC _) ?_|refine ZD rfl rfl rfl (hS _) ?_|refine ZI ?_|refine ZQ ?_|refine ZP ?_)
  all_goals try (exfalso;omega)
  all_goals refine Ji hA (by first|exact .inl rfl|exact .inr rfl) rfl rfl rfl rfl rfl ?_
  all_goals rfl
end Go.Q15
namespace Go.Q15
open Go Go.QAbs
set_option maxRecDepth 100000
set_option maxHeartbeats 8000000
theorem Zhq (ks:List Kid):∀ v∈ks.map Kid.av,imm 5 v=true:=by
 intro v hv
 obtain ⟨k,_,rfl⟩:=List.mem_map.1 hv
 rfl
theorem ZbO (ks:List Kid) (hk:ks.length≤4) (st:St) {lv ix ver:Nat} (hr:KRef st lv ix ver ks):S Tb Ju [.ref lv ix ver 0 ks.length] st=some (.lit (ks.map Kid.av),st):=by
 refine Z5 rfl (fun A hA=>?_)
 obtain ⟨es,g,ge⟩:=hr
 have gA:=fun L=>ZW hA (ro:=false) (L:=L) g
 have hwi:∀ L,wIs 4 ver (St.get ⟨A,false,L⟩ lv ix)=true:=fun L=>by rw [gA];simp [wIs]
 repeat' (first|refine ZE ?_|refine ZC ?_|refine ZF rfl ?_|refine ZB rfl ?_|refine ZA ?_|refine Y5 rfl ?_|refine ZL ?_)
 refine Zq (α:=Nat) (fun i=>[(0,.ref lv ix ver 0 ks.length),(3,.ref A.length 0 i 0 i),(4,.int .i64 i)]) (fun i=>⟨A,false,[.arr 4 i ((ks.take i).map Kid.av)]⟩) (fun i=>i≤ks.length) (fun i=>ks.length-i) 0 rfl rfl (by simp) ?_
 intro i hi
 have hlen:((ks.take i).map Kid.av).length=i:=by rw [List.length_map,List.length_take];omega
 repeat' (first|refine ZE ?_|refine ZC ?_|refine ZF rfl ?_|refine ZB rfl ?_|refine ZA ?_|refine Q2 rfl ?_|(refine Zh rfl rfl (fun _=>?_) (fun _=>?_)<;>try (exfalso;omega))|refine ZU rfl ?_|refine ZG rfl ?_|refine ZI ?_|refine ZQ ?_|refine Zo ?_|refine ZL ?_|refine ZP ?_|refine Za ?_|refine ZY rfl ?_|refine Zj ?_)
 ·rename_i hlt
  obtain ⟨k,hk2⟩:∃ k,ks[i]?=some k:=⟨ks[i]'(by omega),by simp [show i<ks.length by omega]⟩
  refine Jb rfl rfl (by omega) (hwi _) ?_
  refine QG (x:=k.av) rfl (gA _) (ZDn ge hk2) rfl ?_
  repeat' (first|refine ZC ?_|refine ZF rfl ?_|refine ZB rfl ?_|refine ZA ?_|refine Zi rfl rfl (by omega) ?_|refine QL rfl rfl rfl rfl ?_|refine ZFS rfl rfl rfl (by first|rfl|(simp;done)|(simp;omega)) (by first|omega|(simp<;>omega)) (by decide) rfl rfl rfl ?_|refine Z2 ?_|refine Z4 ?_)
  refine ⟨i+1,⟨rfl,?_⟩,by omega,by omega⟩
  rw [Zm hk2,List.map_append]
  rfl
 ·have hi':i=ks.length:=by omega
  subst hi'
  rw [List.take_length]
  skip
  refine Y6 hA (.inr rfl) rfl rfl (by simp) (Zhq _) ?_
  rfl
end Go.Q15
namespace Go.Q15
open Go Go.QAbs
set_option maxRecDepth 100000
set_option maxHeartbeats 8000000
theorem KRef.allRo {st:St} {lv ix ver:Nat} {ks:List Kid} (h:KRef st lv ix ver ks):KRef st.allRo lv ix ver ks:=by
 obtain ⟨es,h1,h2⟩:=h
 exact ⟨es,by rw [Jm];exact h1,h2⟩
theorem ZYn (st:St):S Tb Ju [.lit []] st=some (.lit [],st):=by
 refine Z5 rfl (fun A hA=>?_)
 repeat' (first|refine ZE ?_|refine ZC ?_|refine ZF rfl ?_|refine ZB rfl ?_|refine ZA ?_|refine YJ rfl rfl ?_|(refine Zh rfl rfl (fun _=>?_) (fun _=>?_)<;>try (exfalso;omega))|refine ZG rfl ?_|refine Y5 rfl ?_|refine Q0 ?_|refine ZQ ?_|refine Zo ?_|refine ZL ?_|refine ZP ?_|refine Za ?_|refine ZY rfl ?_)
 refine Y6 hA (by first|exact .inl rfl|exact .inr rfl) rfl rfl (by simp) (by first|(simp [imm];done)|exact fun _ h=>absurd h (by simp)) ?_
 rfl
theorem ZYo (text:List UInt8) (st:St):S Tb Qy [.agg [.int .i64 (0:Nat),.str text,.nils]] st=some (Nd.av ⟨0,text,some []⟩,st):=by
 refine Z5 rfl (fun A hA=>?_)
 have hC:=fun st=>ZYn st
 repeat' (first|refine ZE ?_|refine ZC ?_|refine ZO rfl rfl ?_|refine ZS rfl rfl rfl rfl ?_|refine ZB rfl ?_|refine ZA ?_|refine Zf rfl rfl rfl ?_|refine Ze rfl rfl rfl ?_|refine Zv rfl rfl rfl rfl rfl rfl ?_|refine Js rfl rfl rfl (hC _) ?_|refine ZQ ?_|refine ZP ?_)
 refine Ji hA (by first|exact .inl rfl|exact .inr rfl) rfl rfl rfl rfl rfl ?_
 rfl
theorem ZbP (n:Nat) (ks:List Kid) (hk:ks.length≤4) (st:St) {lv ix ver:Nat} (hr:KRef st lv ix ver ks):S Tb Qy [ndR (n+1) lv ix ver ks.length] st=some (Nd.av ⟨n+1,[],some ks⟩,st):=by
 refine Z5 rfl (fun A hA=>?_)
 have hC:=fun L=>ZbO ks hk _ (hr.push hA (ro:=false) (L:=L)).allRo
 unfold ndR
 repeat' (first|refine ZE ?_|refine ZC ?_|refine ZO rfl rfl ?_|refine ZS rfl rfl rfl rfl ?_|refine ZB rfl ?_|refine ZA ?_|refine Zf rfl rfl rfl ?_|refine Ze rfl rfl rfl ?_|refine Zv rfl rfl rfl rfl rfl rfl ?_|refine Js rfl rfl rfl (hC _) ?_|refine ZQ ?_|refine ZP ?_)
 refine Ji hA (by first|exact .inl rfl|exact .inr rfl) rfl rfl rfl rfl rfl ?_
 rfl
end Go.Q15
namespace Go.Q15
open Go Go.QAbs
set_option maxRecDepth 100000
set_option maxHeartbeats 8000000
def ZCt (p:Nat × Nd):AV:=.agg [.int .u64 p.1,.int .i64 p.2.h,.str p.2.text,.lit (p.2.ks.map Kid.av)]
inductive Its (st:St):AV→ZJ→Prop
 | nil:Its st .nils []
 | ref {lv ix ver n:Nat} {N:ZJ} {es:List AV} (hg:st.get lv ix=some (.arr 4 ver es)) (hn:n=N.length) (he:es.take n=N.map ZCt):Its st (.ref lv ix ver 0 n) N
theorem Its.push {st:St} {A:List (Bool × List Blk)} {ro:Bool} {L:List Blk} (hA:A=st.A++[(st.ro,st.L)]) {v:AV} {N:ZJ} (h:Its st v N):Its ⟨A,ro,L⟩ v N:=by
 cases h with
 | nil=>exact .nil
 | ref hg hn he=>exact .ref (ZW hA hg) hn he
structure RRd (st:St) (lv ix:Nat) (N:ZJ):Prop where
 ex:∃ l v c0 c1 c2 c3 c4 c5 c6,st.get lv ix=some (.arr 9 0 [.agg [l,v,c0,c1,c2,c3,c4,c5,c6]])∧Its st v N
theorem Zcz {N:ZJ} {es:List AV} {n:Nat} (hn:n=N.length) (h:es.take n=N.map ZCt) {i:Nat} {p:Nat × Nd} (hk:N[i]?=some p):es[0+((i:Nat):Int).toNat]?=some (ZCt p):=by
 have hlt:i<N.length:=(List.getElem?_eq_some_iff.1 hk).1
 have h1:(es.take n)[i]?=some (ZCt p):=by rw [h,List.getElem?_map,hk];rfl
 rw [List.getElem?_take,if_pos (by omega)] at h1
 rw [show 0+((i:Nat):Int).toNat=i by omega];exact h1
theorem Zj4:∀ {N:ZJ} {h:Nat} {x:Nd},lk N h=some x→∃ j:Nat,N[j]?=some (h,x)∧∀ (i:Nat) (p:Nat × Nd),i<j→N[i]?=some p→p.1≠h
 | [],h,x,q=>by simp [lk] at q
 | p::N,h,x,q=>by
  rw [lk] at q
  by_cases c:p.1=h
  ·rw [if_pos c] at q
   refine ⟨0,?_,fun i p hi=>by omega⟩
   obtain ⟨a,b⟩:=p
   simp only [Option.some.injEq] at q
   simp only at c
   subst c q
   rfl
  ·rw [if_neg c] at q
   obtain ⟨j,h1,h2⟩:=Zj4 q
   refine ⟨j+1,by simpa using h1,?_⟩
   intro i p' hi hp
   match i with
   | 0=>simp at hp;rw [← hp];exact c
   | i+1=>exact h2 i p' (by omega) (by simpa using hp)
theorem ZkS {st:St} {lv ix:Nat} {N:ZJ} (hr:RRd st lv ix N) {h j:Nat} {x:Nd} (hj:N[j]?=some (h,x)) (hm:∀ i p,i<j→N[i]?=some p→p.1≠h) (hl:N.length<4294967296) :
 S Tb J0 [.ptr lv ix 0 0 0,.int .u64 h] st=some (.int .i64 j,st):=by
 obtain ⟨l,v,c0,c1,c2,c3,c4,c5,c6,h1,h2⟩:=hr
 refine Z5 rfl (fun A hA=>?_)
 have g1:=fun L=>ZW hA (ro:=false) (L:=L) h1
 have hjl:j<N.length:=(List.getElem?_eq_some_iff.1 hj).1
 cases h2 with
 | nil=>simp at hj
 | @ref lv' ix' ver n N es hg hn he =>
  have g2:=fun L=>ZW hA (ro:=false) (L:=L) hg
  have hwi:∀ L,wIs 4 ver (St.get ⟨A,false,L⟩ lv' ix')=true:=fun L=>by rw [g2];simp [wIs]
  repeat' (first|refine ZE ?_|refine ZC ?_|refine ZF rfl ?_|refine ZB rfl ?_|refine ZA ?_|refine ZL ?_)
  refine Zq (α:=Nat) (fun i=>[(0,.ptr lv ix 0 0 0),(1,.int .u64 h),(5,.int .i64 i)]) (fun i=>⟨A,false,[]⟩) (fun i=>i≤j) (fun i=>j-i) 0 rfl rfl (by omega) ?_
  intro i hi
  repeat' (first|refine ZE ?_|refine ZC ?_|refine ZF rfl ?_|refine ZO rfl rfl ?_|refine ZB rfl ?_|refine ZA ?_|refine Z7 rfl rfl ?_|refine Q2 rfl ?_|(refine Zh rfl rfl (fun _=>?_) (fun _=>?_)<;>try (exfalso;omega))|refine ZU rfl ?_|refine QG rfl (g1 _) rfl rfl ?_|refine ZI ?_|refine ZL ?_)
  ·obtain ⟨p,hp⟩:∃ p,N[i]?=some p:=⟨N[i]'(by omega),by simp [show i<N.length by omega]⟩
   refine Jb rfl rfl (by omega) (hwi _) ?_
   refine ZO rfl rfl ?_
   refine QG (x:=ZCt p) rfl (g2 _) (Zcz hn he hp) rfl ?_
   repeat' (first|refine ZE ?_|refine ZC ?_|refine ZF rfl ?_|refine ZB rfl ?_|refine ZA ?_|(refine Zl rfl rfl (fun _=>?_) (fun _=>?_)<;>try (exfalso;omega))|refine ZU rfl ?_|refine ZG rfl ?_|refine Zi rfl rfl (by omega) ?_|refine ZI ?_|refine ZQ ?_|refine ZP ?_|refine ZX ?_|refine Z2 ?_|refine QT ?_|refine Z4 ?_|refine ZBp ?_)
   ·rename_i q
    have:i=j:=by
     rcases Nat.lt_or_ge i j with w|w
     ·exact absurd (by omega) (hm i p w hp)
     ·omega
    subst this
    refine Zd hA (by first|exact .inl rfl|exact .inr rfl) rfl rfl rfl rfl ?_
    rfl
   ·rename_i q
    have:i≠j:=by
     intro w;subst w
     rw [hj] at hp
     have:=Option.some.inj hp
     subst this
     exact q rfl
    exact ⟨i+1,⟨rfl,rfl⟩,by omega,by omega⟩
end Go.Q15
namespace Go.Q15
open Go Go.QAbs
set_option maxRecDepth 100000
set_option maxHeartbeats 8000000
def Nd.lit (x:Nd):Nd:=⟨x.h,x.text,some x.ks⟩
theorem NdOk.lit {x:Nd} (h:NdOk x):NdOk x.lit:=by
 rcases h with h|⟨n,ks,h⟩
 ·exact .inl ⟨h.h,h.lo,h.hi,h.ks⟩
 ·refine .inr ⟨n,ks,?_⟩
  obtain ⟨rfl,a,b,c,d,e⟩:=h
  exact ⟨rfl,a,b,c,d,e⟩
theorem Nd.lit_mea (x:Nd):x.lit.mea=x.mea:=rfl
theorem ZbQ {st:St} {lv ix:Nat} (text:List UInt8):S Tb JD [.ptr lv ix 0 0 0,.agg [.int .i64 (0:Nat),.str text,.nils]] st=some (.int .i64 0,st):=by
 refine Z5 rfl (fun A hA=>?_)
 repeat' (first|refine ZE ?_|refine ZC ?_|refine ZF rfl ?_|refine ZO rfl rfl ?_|refine ZS rfl rfl rfl rfl ?_|refine ZB rfl ?_|refine ZA ?_|refine JI rfl ?_|(refine Zh rfl rfl (fun _=>?_) (fun _=>?_)<;>try (exfalso;omega))|refine ZG rfl ?_|refine Ze rfl rfl rfl ?_|refine Q0 ?_|refine ZQ ?_|refine Zo ?_|refine ZL ?_|refine ZP ?_|refine Za ?_|refine ZY rfl ?_)
 all_goals refine Zd hA (by first|exact .inl rfl|exact .inr rfl) rfl rfl rfl rfl ?_
 all_goals rfl
theorem RRd.push {st:St} {A:List (Bool × List Blk)} {ro:Bool} {L:List Blk} (hA:A=st.A++[(st.ro,st.L)]) {lv ix:Nat} {N:ZJ} (h:RRd st lv ix N):RRd ⟨A,ro,L⟩ lv ix N:=by
 obtain ⟨l,v,c0,c1,c2,c3,c4,c5,c6,h1,h2⟩:=h
 exact ⟨l,v,c0,c1,c2,c3,c4,c5,c6,ZW hA h1,h2.push hA⟩
theorem ZeT {st:St} {lv ix:Nat} {N:ZJ} (hr:RRd st lv ix N) (hl:N.length<4294967296) (n:Nat) (hn:n≤15) (ks:List Kid) (hk:ks.length≤4) (hL:ZE4 N n ks) {kl kx ver:Nat} (hk2:KRef st kl kx ver ks) :
 S Tb JD [.ptr lv ix 0 0 0,ndR (n+1) kl kx ver ks.length] st=some (.int .i64 0,st):=by
 have hr0:=hr
 obtain ⟨l,v,c0,c1,c2,c3,c4,c5,c6,h1,h2⟩:=hr
 refine Z5 rfl (fun A hA=>?_)
 have hR:=fun L=>hr0.push hA (ro:=false) (L:=L)
 have g1:=fun L=>ZW hA (ro:=false) (L:=L) h1
 obtain ⟨es,gk,ge⟩:=hk2
 have gA:=fun L=>ZW hA (ro:=false) (L:=L) gk
 have hwi:∀ L,wIs 4 ver (St.get ⟨A,false,L⟩ kl kx)=true:=fun L=>by rw [gA];simp [wIs]
 unfold ndR
 repeat' (first|refine ZE ?_|refine ZC ?_|refine ZF rfl ?_|refine ZB rfl ?_|refine ZA ?_|refine Ze rfl rfl rfl ?_|refine ZL ?_)
 refine Zq (α:=Nat × List Blk) (fun p=>[(0,.ptr lv ix 0 0 0),(3,.ptr A.length 0 0 0 0),(5,.int .i64 p.1)]) (fun p=>⟨A,false,.arr 3 0 [.agg [.int .i64 ((n+1:Nat):Int),.str [],.ref kl kx ver 0 ks.length]]::p.2⟩) (fun p=>p.1≤ks.length) (fun p=>ks.length-p.1) (0,[]) rfl rfl (by simp) ?_
 rintro ⟨i,G⟩ hi
 simp only at hi ⊢
 repeat' (first|refine ZE ?_|refine ZC ?_|refine ZF rfl ?_|refine ZO rfl rfl ?_|refine ZS rfl rfl rfl rfl ?_|refine ZB rfl ?_|refine ZA ?_|refine Q2 rfl ?_|(refine Zh rfl rfl (fun _=>?_) (fun _=>?_)<;>try (exfalso;omega))|refine ZU rfl ?_|refine ZG rfl ?_|refine ZI ?_|refine ZQ ?_|refine Zo ?_|refine ZL ?_|refine ZP ?_|refine Za ?_|refine ZY rfl ?_|refine Zj ?_)
 ·rename_i hlt
  obtain ⟨kd,hk'⟩:∃ k,ks[i]?=some k:=⟨ks[i]'(by omega),by simp [show i<ks.length by omega]⟩
  obtain ⟨y,y1,y2,y3,y4⟩:=hL kd (List.mem_of_getElem? hk')
  obtain ⟨j,j1,j2⟩:=Zj4 y1
  have hF:=fun L=>ZkS (hR L) j1 j2 hl
  have hMe:=fun st=>ZYm y.lit y2.lit st
  rw [Nd.lit_mea,y4] at hMe
  have hjl:j<N.length:=(List.getElem?_eq_some_iff.1 j1).1
  simp only [Nd.lit,Nd.av,slV,Mea.av] at hMe
  refine Jb rfl rfl (by omega) (hwi _) ?_
  refine ZO rfl rfl ?_
  refine QG (x:=kd.av) rfl (gA _) (ZDn ge hk') rfl ?_
  cases h2 with
  | nil=>simp at j1
  | @ref lv' ix' ver' m N es' hg hm he =>
   have g2:=fun L=>ZW hA (ro:=false) (L:=L) hg
   have hwi':∀ L,wIs 4 ver' (St.get ⟨A,false,L⟩ lv' ix')=true:=fun L=>by rw [g2];simp [wIs]
   have hit:=Zcz hm he j1
   subst y3
   repeat' (first|refine ZE ?_|refine ZC ?_|refine ZF rfl ?_|refine ZO rfl rfl ?_|refine ZB rfl ?_|refine ZA ?_|refine Z7 rfl rfl ?_|(refine Zh rfl rfl (fun _=>?_) (fun _=>?_)<;>try (exfalso;omega))|refine ZG rfl ?_|refine ZD rfl rfl rfl (hF _) ?_|refine QG rfl (g1 _) rfl rfl ?_|refine ZI ?_)
   refine Jb rfl rfl (by omega) (hwi' _) ?_
   refine ZO rfl rfl ?_
   refine QG (x:=ZCt (kd.at_,y)) rfl (g2 _) hit rfl ?_
   repeat' (first|refine ZE ?_|refine ZC ?_|refine ZF rfl ?_|refine ZO rfl rfl ?_|refine ZS rfl rfl rfl rfl ?_|refine Z8 rfl ?_|refine Ja rfl rfl ?_|refine Zp rfl rfl rfl rfl ?_|refine QB rfl rfl ?_|refine ZB rfl ?_|refine ZA ?_|refine Qs rfl rfl rfl ?_|(refine Zu rfl rfl (fun _=>?_) (fun _=>?_)<;>try (exfalso;omega))|refine ZU rfl ?_|refine JB rfl rfl (by omega) ?_|refine Z0 rfl rfl rfl ?_|refine Yh rfl rfl rfl rfl rfl rfl ?_|refine ZD rfl rfl rfl (hMe _) ?_|refine Zho rfl rfl rfl ?_|refine ZQ ?_|refine ZP ?_|refine ZX ?_|refine QT ?_|refine ZBp ?_)
   ·rename_i q
    exact absurd (show (y.h:Int)=((y.h+1:Nat):Int)-1 by omega) q
   ·refine Jb rfl rfl (by omega) (hwi _) ?_
    refine Z8 rfl ?_
    refine ZO rfl rfl ?_
    refine Z8 rfl ?_
    refine QG (x:=kd.av) rfl (gA _) (ZDn ge hk') rfl ?_
    repeat' (first|refine ZE ?_|refine ZC ?_|refine ZF rfl ?_|refine Z8 rfl ?_|refine Zp rfl rfl rfl rfl ?_|refine ZB rfl ?_|refine ZA ?_|refine ZU rfl ?_|refine ZG rfl ?_|refine Zi rfl rfl (by omega) ?_|(refine ZFO rfl rfl (Zhb _ _ _ _ _ _) (fun _=>?_) (fun _=>?_))|refine ZI ?_|refine ZQ ?_|refine ZP ?_|refine ZX ?_|refine Z2 ?_|refine QT ?_|refine Z4 ?_|refine ZBp ?_)
    ·exact ⟨(i+1,G++[_]++[_]),⟨rfl,rfl⟩,by simp only;omega,by simp only;omega⟩
    ·rename_i q
     exact (q ⟨rfl,rfl,rfl⟩).elim
 ·refine Zd hA (by first|exact .inl rfl|exact .inr rfl) rfl rfl rfl rfl ?_
  rfl
end Go.Q15
namespace Go.Q15
open Go Go.QAbs
set_option maxRecDepth 100000
set_option maxHeartbeats 8000000
noncomputable def JN (N:ZJ) (t:Tr) (a n:Int) (s:List UInt8):Tr :=
 if n=0∧s=[] then t
 else XC N (XC N (XS N t.h t a).1 (QX s)) (XS N (XS N t.h t a).2.h (XS N t.h t a).2 n).2
structure ReplOk (N:ZJ) (t:Tr) (a n:Int) (s:List UInt8) (r:Tr):Prop where
 ve:VE N r
 txt:r.txt N=(t.txt N).take a.toNat++s++(t.txt N).drop (a+n).toNat
 bytes:r.bytes=t.bytes-n+s.length
theorem ZOb {N:ZJ} (hN:GoodN N) {t:Tr} (ht:VE N t) {a n:Int} {s:List UInt8} (h0:0≤a) (h1:0≤n) (h2:a+n≤t.bytes) (hb:t.bytes≤65536) (hs:t.bytes-n+s.length≤65536):ReplOk N t a n s (JN N t a n s):=by
 unfold JN
 split
 ·rename_i h
  obtain ⟨rfl,rfl⟩:=h
  exact ⟨ht,by simp,by simp⟩
 ·have c1:=ZBS hN t.h t a ht rfl h0 (by omega) hb
  generalize XS N t.h t a=q at *
  obtain ⟨l,m⟩:=q
  simp only at *
  have hm:=c1.rb
  have hl:=c1.lb
  simp only at hm hl
  have c2:=ZBS hN m.h m n c1.r rfl h1 (by omega) (by omega)
  generalize XS N m.h m n=q at *
  obtain ⟨d,r⟩:=q
  simp only at *
  have hr:=c2.rb
  simp only at hr
  obtain ⟨b1,b2,b3⟩:=ZBb hN (s:=s) (by omega)
  have k1:=XR hN c1.l b1 (by rw [b3];simp only;omega)
  have k2:=XR hN k1.ve c2.r (by rw [k1.bytes,b3];simp only;omega)
  refine ⟨k2.ve,?_,by rw [k2.bytes,k1.bytes,b3];simp only;omega⟩
  rw [k2.txt,k1.txt,b2]
  have e1:=c1.lt
  have e2:=c1.rt
  have e3:=c2.rt
  simp only at e1 e2 e3 ⊢
  rw [e1,e3,e2,List.drop_drop,show a.toNat+n.toNat=(a+n).toNat by omega]
theorem ZgG {N:ZJ} (hN:GoodN N) {st:St} {lv ix:Nat} (hr:Rd st lv ix N) {t:Tr} (ht:VE N t) {a n:Int} {s:List UInt8} (h0:0≤a) (h1:0≤n) (h2:a+n≤t.bytes) (hb:t.bytes≤65536) (hs:t.bytes-n+s.length≤65536) :
 S Tb ZBs [.ptr lv ix 0 0 0,t.av,.int .i64 a,.int .i64 n,.str s] st=some (.tup [(JN N t a n s).own.av,.int .i64 0],st):=by
 refine Z5 rfl (fun A hA=>?_)
 have hrp:=fun L=>hr.push hA (ro:=false) (L:=L)
 have hC:=fun L=>ZWS (hrp L) ht hb
 have hB:=fun st=>ZBQ t ht.pos.1 (by omega) st
 have hpos:=ht.pos.2
 by_cases hz:n=0∧s=[]
 ·have he:JN N t a n s=t:=by unfold JN;rw [if_pos hz]
  rw [he]
  obtain ⟨rfl,rfl⟩:=hz
  have hO:=fun st=>Zj2 t ht.pos.1 st
  generalize t.own=o at *
  repeat' (first|refine ZE ?_|refine ZC ?_|refine ZF rfl ?_|refine Z8 rfl ?_|refine Ja rfl rfl ?_|refine Zp rfl rfl rfl rfl ?_|refine ZB rfl ?_|refine ZA ?_|refine ZhY rfl rfl ?_|(refine Zh rfl rfl (fun _=>?_) (fun _=>?_)<;>try (exfalso;omega))|(refine QW rfl rfl (fun _=>?_) (fun _=>?_)<;>try (exfalso;omega))|(refine Zl rfl rfl (fun _=>?_) (fun _=>?_)<;>try (exfalso;omega))|(refine Zu rfl rfl (fun _=>?_) (fun _=>?_)<;>try (exfalso;omega))|(refine YH rfl rfl (fun _=>?_) (fun _=>?_)<;>try contradiction)|refine ZU rfl ?_|refine ZG rfl ?_|refine JB rfl rfl (by omega) ?_|refine Zf rfl rfl rfl ?_|refine Ze rfl rfl rfl ?_|refine Zv rfl rfl rfl rfl rfl rfl ?_|refine ZS rfl rfl rfl (Zr _) ?_|refine Zv rfl rfl rfl (QJ _ _ _) (Qt _ _) rfl ?_|refine Z0 rfl (Z6 _) (QM _) ?_|refine ZD rfl rfl (by first|rfl|(simp only [List.nil_append,List.append_nil,List.cons_append,Zn,ZZ,Zb];first|done|rfl)) (hC _) ?_|refine ZD rfl rfl (by first|rfl|(simp only [List.nil_append,List.append_nil,List.cons_append,Zn,ZZ,Zb];first|done|rfl)) (hB _) ?_|refine ZD rfl rfl (by first|rfl|(simp only [List.nil_append,List.append_nil,List.cons_append,Zn,ZZ,Zb];first|done|rfl)) (hO _) ?_|refine ZaA rfl rfl ?_|refine ZI ?_|refine ZQ ?_|refine ZP ?_|refine ZX ?_)
  all_goals try (simp only [Bool.false_eq_true,if_false] at *)
  all_goals try (exfalso;omega)
  all_goals first|(exact ZJ1 hA (.inr rfl) rfl rfl rfl rfl)|(exact absurd ⟨by assumption,by assumption⟩ hz)
 ·have hK1:=fun L=>Zj3 hN t.h (hrp L) ht rfl a h0 (by omega) hb
  have c1:=ZBS hN t.h t a ht rfl h0 (by omega) hb
  have hrm:JN N t a n s=XC N (XC N (XS N t.h t a).1 (QX s)) (XS N (XS N t.h t a).2.h (XS N t.h t a).2 n).2:=by unfold JN;rw [if_neg hz]
  have hO0:=(ZOb hN ht h0 h1 h2 hb hs).ve.pos.1
  generalize XS N t.h t a=q at *
  obtain ⟨l,m⟩:=q
  simp only at *
  have hm:=c1.rb
  have hl:=c1.lb
  have vl:=c1.l
  have vm:=c1.r
  simp only at hm hl vl vm
  have hK2:=fun L=>Zj3 hN m.h (hrp L) vm rfl n h1 (by omega) (by omega)
  have c2:=ZBS hN m.h m n vm rfl h1 (by omega) (by omega)
  generalize XS N m.h m n=q at *
  obtain ⟨d,r⟩:=q
  simp only at *
  have vr:=c2.r
  have hrb:=c2.rb
  simp only at vr hrb
  obtain ⟨b1,b2,b3⟩:=ZBb hN (s:=s) (by omega)
  have hBu:=fun st=>ZbK hN s (by omega) st
  generalize QX s=b at *
  have hc1:=fun L=>ZOW hN (hrp L) vl b1
  have k1:=(XR hN vl b1 (by omega)).ve
  generalize XC N l b=z1 at *
  have hc2:=fun L=>ZOW hN (hrp L) k1 vr
  generalize XC N z1 r=z2 at *
  rw [hrm] at hO0 ⊢
  have hO:=fun st=>Zj2 z2 hO0 st
  generalize z2.own=zo at *
  have hmin:∀ x:Int,min x 65536≤x∧min x 65536≤65536∧(min x 65536=x∨min x 65536=65536):=fun x=>by omega
  have hmin2:=hmin s.length
  repeat' (first|refine ZE ?_|refine ZC ?_|refine ZF rfl ?_|refine Z8 rfl ?_|refine Ja rfl rfl ?_|refine Zp rfl rfl rfl rfl ?_|refine QB rfl rfl ?_|refine ZB rfl ?_|refine ZA ?_|refine Qo rfl ?_|(refine Zh rfl rfl (fun _=>?_) (fun _=>?_)<;>try (exfalso;omega))|(refine QW rfl rfl (fun _=>?_) (fun _=>?_)<;>try (exfalso;omega))|(refine Zl rfl rfl (fun _=>?_) (fun _=>?_)<;>try (exfalso;omega))|(refine Zu rfl rfl (fun _=>?_) (fun _=>?_)<;>try (exfalso;omega))|(refine YH rfl rfl (fun _=>?_) (fun _=>?_)<;>try contradiction)|refine ZU rfl ?_|refine ZG rfl ?_|refine JB rfl rfl (by omega) ?_|refine Zf rfl rfl rfl ?_|refine Ze rfl rfl rfl ?_|refine Zv rfl rfl rfl rfl rfl rfl ?_|refine ZS rfl rfl rfl (Zr _) ?_|refine Zv rfl rfl rfl (QJ _ _ _) (Qt _ _) rfl ?_|refine Z0 rfl (Z6 _) (QM _) ?_|refine ZD rfl rfl (by first|rfl|(simp only [List.nil_append,List.append_nil,List.cons_append,Zn,ZZ,Zb];first|done|rfl)) (hC _) ?_|refine ZD rfl rfl (by first|rfl|(simp only [List.nil_append,List.append_nil,List.cons_append,Zn,ZZ,Zb];first|done|rfl)) (hB _) ?_|refine ZD rfl rfl (by first|rfl|(simp only [List.nil_append,List.append_nil,List.cons_append,Zn,ZZ,Zb];first|done|rfl)) (hK1 _) ?_|refine ZD rfl rfl (by first|rfl|(simp only [List.nil_append,List.append_nil,List.cons_append,Zn,ZZ,Zb];first|done|rfl)) (hK2 _) ?_|refine ZD rfl rfl (by first|rfl|(simp only [List.nil_append,List.append_nil,List.cons_append,Zn,ZZ,Zb];first|done|rfl)) (hBu _) ?_|refine ZD rfl rfl (by first|rfl|(simp only [List.nil_append,List.append_nil,List.cons_append,Zn,ZZ,Zb];first|done|rfl)) (hc1 _) ?_|refine ZD rfl rfl (by first|rfl|(simp only [List.nil_append,List.append_nil,List.cons_append,Zn,ZZ,Zb];first|done|rfl)) (hc2 _) ?_|refine ZD rfl rfl (by first|rfl|(simp only [List.nil_append,List.append_nil,List.cons_append,Zn,ZZ,Zb];first|done|rfl)) (hO _) ?_|refine ZaA rfl rfl ?_|refine ZI ?_|refine ZQ ?_|refine ZP ?_|refine ZX ?_)
  all_goals try (simp only [Bool.false_eq_true,if_false] at *)
  all_goals try (exfalso;omega)
  all_goals first|(exact ZJ1 hA (.inr rfl) rfl rfl rfl rfl)|(exact absurd ⟨by assumption,by assumption⟩ hz)
end Go.Q15
namespace Go.Q15
open Go Go.QAbs
set_option maxRecDepth 100000
set_option maxHeartbeats 4000000
def hd (N:ZJ):Nat:=1*65536+N.length
def Ord (N:ZJ):Prop:=∀ i p,N[i]?=some p→p.1=1*65536+i
theorem ZfD:∀ {N:ZJ} {o:Nat},(∀ p∈N,p.1≠o)→lk N o=none
 | [],o,_=>rfl
 | p::N,o,h=>by
  rw [lk,if_neg (h p (by simp))]
  exact ZfD (fun q hq=>h q (by simp [hq]))
theorem ZQX:∀ {N M:ZJ} {o:Nat},lk (N++M) o=(lk N o).or (lk M o)
 | [],M,o=>by simp [lk]
 | p::N,M,o=>by
  rw [List.cons_append,lk,lk]
  by_cases c:p.1=o
  ·rw [if_pos c,if_pos c];rfl
  ·rw [if_neg c,if_neg c,ZQX]
theorem ZTa {N M:ZJ} {o:Nat} {x:Nd} (h:lk N o=some x):lk (N++M) o=some x:=by rw [ZQX,h];rfl
theorem Ord.fresh {N:ZJ} (h:Ord N):lk N (hd N)=none:=by
 refine ZfD (fun p hp=>?_)
 obtain ⟨i,hi⟩:=List.mem_iff_getElem?.1 hp
 have h1:=h i p hi
 have h2:=(List.getElem?_eq_some_iff.1 hi).1
 unfold hd;omega
theorem Ord.snoc {N:ZJ} (h:Ord N) (x:Nd):Ord (N++[(hd N,x)]):=by
 intro i p hp
 rcases Nat.lt_trichotomy i N.length with q|q|q
 ·rw [List.getElem?_append_left q] at hp;exact h i p hp
 ·subst q
  rw [List.getElem?_append_right (Nat.le_refl _)] at hp
  simp at hp
  rw [← hp];rfl
 ·have:=(List.getElem?_eq_some_iff.1 hp).1
  simp at this;omega
theorem ZfE {N:ZJ} (h:Ord N) (x:Nd):lk (N++[(hd N,x)]) (hd N)=some x:=by
 rw [ZQX,h.fresh,lk,if_pos rfl];rfl
theorem lk_snoc_inv {N:ZJ} {x y:Nd} {o:Nat} (h:lk (N++[(hd N,x)]) o=some y):lk N o=some y∨(o=hd N∧y=x):=by
 rw [ZQX] at h
 cases q:lk N o with
 | some z=>rw [q] at h;exact .inl h
 | none =>
  rw [q] at h
  simp only [Option.none_or,lk] at h
  by_cases c:hd N=o
  ·rw [if_pos c] at h;exact .inr ⟨c.symm,(Option.some.inj h).symm⟩
  ·rw [if_neg c] at h;simp at h
theorem GoodN.snoc {N:ZJ} (hN:GoodN N) {x:Nd} (hx:NdOk x) (hk:∀ k∈x.ks,k.at_≠0∧∃ y,lk N k.at_=some y∧y.h+1=x.h∧y.mea=k.m):GoodN (N++[(hd N,x)]):=by
 intro o y hy
 rcases lk_snoc_inv hy with q|⟨_,rfl⟩
 ·refine ⟨(hN o y q).1,fun k hk=>?_⟩
  obtain ⟨h0,z,h1,h2⟩:=(hN o y q).2 k hk
  exact ⟨h0,z,ZTa h1,h2⟩
 ·refine ⟨hx,fun k hk'=>?_⟩
  obtain ⟨h0,z,h1,h2⟩:=hk k hk'
  exact ⟨h0,z,ZTa h1,h2⟩
theorem ZOc:GoodN []:=fun o x h=>by simp [lk] at h
theorem ZjZ:Ord []:=fun i p h=>by simp at h
def ZWa (P:ZJ→Tr→ZJ→Kid→Prop):ZJ→List Tr→ZJ→List Kid→Prop
 | N,[],N',l=>N'=N∧l=[]
 | N,t::ts,N',l=>∃ N1 k l1,P N t N1 k∧ZWa P N1 ts N' l1∧l=k::l1
def WrH:Nat→ZJ→Tr→ZJ→Kid→Prop
 | 0,N,t,N',k=>∃ s ks,t=.mk 0 0 .zero s ks∧ks.getD []=[]∧ZAL s∧N'=N++[(hd N,⟨0,s,some []⟩)]∧k=⟨hd N,Ya s⟩
 | n + 1, N, t, N', k => ∃ ts N1 l, t = .mk 0 (n + 1) .zero [] (some ts) ∧ (2 ≤ ts.length ∧ ts.length ≤ 4) ∧ n ≤ 15 ∧ ZWa (WrH n) N ts N1 l ∧ l.length = ts.length ∧ (∀ k ∈ l, KidOk n k) ∧ (QE (l.map Kid.m)).b ≤ 65536 ∧ ZE4 N1 n l ∧
     N'=N1++[(hd N1,⟨n+1,[],some l⟩)]∧k=⟨hd N1,QE (l.map Kid.m)⟩
theorem ZOd (s:List UInt8):s.countP JU≤s.countP Qc:=by
 refine List.countP_mono_left (fun b _ h=>?_)
 unfold JU at h
 unfold Qc
 simp at h ⊢
 omega
theorem NdOk.kid {y:Nd} (h:NdOk y) (hl:(leastB y.h:Int)≤y.mea.b) {a:Nat} (ha:XZ a):KidOk y.h ⟨a,y.mea⟩:=by
 rcases h with h|⟨n,ks,h⟩
 ·have hm:y.mea=Ya y.text:=by unfold Nd.mea;rw [if_pos h.h]
  have h1:=h.hi
  have h2:=ZOd y.text
  have h3:=List.countP_le_length (p:=Qc) (l:=y.text)
  refine ⟨ha,hl,?_,?_,?_,?_,?_⟩
  all_goals simp only [hm,Ya,h.h,mostB]
  all_goals omega
 ·have e:=h.eq
  subst e
  have hms:Nd.mea ⟨n+1,[],some ks⟩=QE (ks.map Kid.m):=rfl
  have hs:=h.sum
  have hhi:=h.hi
  have hk:=h.kid
  have key:∀ (l:List Kid),(∀ k∈l,KidOk n k)→(QE (l.map Kid.m)).b≤l.length*(mostB n:Int)∧0≤(QE (l.map Kid.m)).r∧(QE (l.map Kid.m)).r≤(QE (l.map Kid.m)).b∧0≤(QE (l.map Kid.m)).l∧(QE (l.map Kid.m)).l≤(QE (l.map Kid.m)).r:=by
   intro l
   induction l with
   | nil=>intro _;simp [QE,Mea.zero]
   | cons k l ih =>
    intro hk
    obtain ⟨i1,i2,i3,i4,i5⟩:=ih (fun k hk'=>hk k (by simp [hk']))
    have hk1:=hk k (by simp)
    have a1:=hk1.hi
    have a2:=hk1.r0
    have a3:=hk1.rb
    have a4:=hk1.l0
    have a5:=hk1.lr
    simp only [List.map_cons,QE,Mea.add,List.length_cons]
    have:((l.length+1:Nat):Int)*(mostB n:Int)=l.length*(mostB n:Int)+mostB n:=by
     rw [Int.natCast_add,Int.add_mul];simp
    refine ⟨?_,?_,?_,?_,?_⟩<;>omega
  obtain ⟨k1,k2,k3,k4,k5⟩:=key ks hk
  have h4:(ks.length:Int)*(mostB n:Int)≤4*(mostB n:Int):=Int.mul_le_mul_of_nonneg_right (by omega) (by omega)
  have hm:=ZJg n
  refine ⟨ha,hl,?_,?_,?_,?_,?_⟩
  all_goals simp only [hms,mostB]
  all_goals omega
structure Wrote (n:Nat) (N:ZJ) (t:Tr) (N':ZJ) (k:Kid) (T:ZJ):Prop where
 wr:WrH n N t N' k
 app:N'=N++T
 good:GoodN N'
 ord:Ord N'
 live:∃ y,lk N' k.at_=some y∧NdOk y∧y.h=n∧y.mea=k.m
 hnd:XZ k.at_
 bytes:k.m.b=t.bytes
 few:4*(T.length:Int)≤t.bytes+4
 big:Big t→4*(T.length:Int)+4≤t.bytes
theorem Zhr {n:Nat} (hn:n≤15) (ih:∀ t,Val [] t→t.h=n→∀ N,GoodN N→Ord N→4*(N.length:Int)+t.bytes≤65000→∃ N' k T,Wrote n N t N' k T) :
 ∀ ts:List Tr,(∀ t∈ts,Val [] t∧t.h=n∧Big t)→∀ N,GoodN N→Ord N→4*(N.length:Int)+Tr.bytesL ts≤65000 →
  ∃ N' l T,ZWa (WrH n) N ts N' l∧N'=N++T∧GoodN N'∧Ord N'∧l.length=ts.length∧(∀ k∈l,KidOk n k)∧ZE4 N' n l∧(QE (l.map Kid.m)).b=Tr.bytesL ts∧4*(T.length:Int)+4*ts.length≤Tr.bytesL ts∧(∀ k∈l,k.at_≠0):=by
 intro ts
 induction ts with
 | nil=>intro _ N g o _;exact ⟨N,[],[],⟨rfl,rfl⟩,by simp,g,o,rfl,by simp,fun k hk=>by simp at hk,rfl,by simp [Tr.bytesL],by simp⟩
 | cons t ts iht =>
  intro h N g o hb
  obtain ⟨v,hh,big⟩:=h t (by simp)
  rw [Tr.bytesL] at hb
  have hp:=Tr.bytesL_nonneg (l:=ts) (fun u hu=>(h u (by simp [hu])).1.pos.1.nonneg)
  obtain ⟨N1,k,T1,w⟩:=ih t v hh N g o (by omega)
  have w1:=w.big big
  have wa:=w.app
  have hlen:N1.length=N.length+T1.length:=by rw [wa,List.length_append]
  obtain ⟨N',l,T,c1,c2,c3,c4,c5,c6,c7,c8,c9,c10⟩:=iht (fun u hu=>h u (by simp [hu])) N1 w.good w.ord (by omega)
  obtain ⟨y,y1,y2,y3,y4⟩:=w.live
  have hk:KidOk n k:=by
   have hs:=v.size ZOc big
   have:=y2.kid (a:=k.at_) (by rw [y3,y4,w.bytes,← hh];exact hs) w.hnd
   rw [y3,y4] at this
   exact this
  refine ⟨N',k::l,T1++T,⟨N1,k,l,w.wr,c1,rfl⟩,by rw [c2,wa,List.append_assoc],c3,c4,by simp [c5],?_,?_,?_,?_,?_⟩
  ·intro k' hk'
   rcases List.mem_cons.1 hk' with rfl|q
   ·exact hk
   ·exact c6 k' q
  ·intro k' hk'
   rcases List.mem_cons.1 hk' with rfl|q
   ·exact ⟨y,by rw [c2];exact ZTa y1,y2,y3,y4⟩
   ·exact c7 k' q
  ·simp only [List.map_cons,QE,Mea.add,Tr.bytesL,c8,w.bytes]
  ·simp only [List.length_append,List.length_cons,Tr.bytesL];omega
  ·intro k' hk'
   rcases List.mem_cons.1 hk' with rfl|q
   ·intro q;exact absurd w.hnd.2.1 (by rw [q];decide)
   ·exact c10 k' q
theorem Zkt:∀ n t,Val [] t→t.h=n→∀ N,GoodN N→Ord N→4*(N.length:Int)+t.bytes≤65000→∃ N' k T,Wrote n N t N' k T:=by
 intro n
 have hnd:∀ N:ZJ,4*(N.length:Int)≤65000→XZ (hd N):=by
  intro N h
  unfold hd;constructor<;>omega
 induction n with
 | zero =>
  intro t v hh N g o hb
  cases v with
  | kept h0 hx=>simp [lk] at hx
  | @leaf s k h1 h2 hk =>
   have hx:NdOk ⟨0,s,some []⟩:=.inl ⟨rfl,h1,h2,rfl⟩
   have e:(Tr.mk 0 0 .zero s k).bytes=s.length:=by rw [Tr.bytes,Tr.bytesO_getD,hk];simp [Tr.bytesL,Mea.zero]
   rw [e] at hb
   refine ⟨_,_,[(hd N,⟨0,s,some []⟩)],⟨⟨s,k,rfl,hk,⟨h1,h2⟩,rfl,rfl⟩,rfl,g.snoc hx (fun k hk=>by simp [Nd.ks] at hk),o.snoc _,⟨_,ZfE o _,hx,rfl,rfl⟩,hnd N (by omega),?_,?_,?_⟩⟩
   ·simp only [Ya,e]
   ·rw [e];simp;omega
   ·intro hb;have:=hb rfl;simp;omega
  | inner hh=>simp [Tr.h] at *
 | succ n ih =>
  intro t v hh N g o hb
  cases v with
  | kept h0 hx=>simp [lk] at hx
  | leaf=>simp [Tr.h] at hh
  | @inner h ts h16 h2 h4 hl hb8 hv =>
   obtain rfl:h=n:=by simpa [Tr.h] using hh
   have e:(Tr.mk 0 (h+1) .zero [] (some ts)).bytes=Tr.bytesL ts:=by rw [Tr.bytes,Tr.bytesO];simp [Mea.zero]
   rw [e] at hb
   obtain ⟨N1,l,T,c1,c2,c3,c4,c5,c6,c7,c8,c9,c10⟩:=Zhr (n:=h) (by omega) ih ts (fun t ht=>⟨hv t ht,hl t ht,fun q=>hb8 t ht (by rw [← hl t ht];exact q)⟩) N g o hb
   have hx:NdOk ⟨h+1,[],some l⟩:=.inr ⟨h,l,rfl,by omega,by omega,by omega,c6,by rw [c8];omega⟩
   have hlen:N1.length=N.length+T.length:=by rw [c2,List.length_append]
   refine ⟨_,_,T++[(hd N1,⟨h+1,[],some l⟩)],⟨⟨ts,N1,l,rfl,⟨h2,h4⟩,by omega,c1,c5,c6,by rw [c8];omega,c7,rfl,rfl⟩,?_,c3.snoc hx ?_,c4.snoc _,⟨_,ZfE c4 _,hx,rfl,rfl⟩,hnd N1 (by omega),?_,?_,?_⟩⟩
   ·rw [← List.append_assoc,← c2]
   ·intro k hk
    obtain ⟨y,y1,y2,y3,y4⟩:=c7 k hk
    exact ⟨c10 k hk,y,y1,by rw [y3],y4⟩
   ·simp only [c8,e]
   ·rw [e];simp only [List.length_append,List.length_singleton];omega
   ·intro _;rw [e];simp only [List.length_append,List.length_singleton];omega
theorem ZMc {P:ZJ→Tr→ZJ→Kid→Prop} (hP:∀ N t N' k,P N t N' k→N.length<N'.length):∀ ts N N' l,ZWa P N ts N' l→N.length≤N'.length
 | [],N,N',l,h=>by rw [h.1];exact Nat.le_refl _
 | t::ts,N,N',l,⟨N1,k,l1,h1,h2,_⟩=>by
  have:=hP _ _ _ _ h1
  have:=ZMc hP ts N1 N' l1 h2
  omega
theorem ZfF:∀ n N t N' k,WrH n N t N' k→N.length<N'.length
 | 0,N,t,N',k,⟨s,ks,_,_,_,h,_⟩=>by rw [h];simp
 | n+1,N,t,N',k,⟨ts,N1,l,_,_,_,h,_,_,_,_,h2,_⟩=>by
  have:=ZMc (ZfF n) ts N N1 l h
  rw [h2];simp;omega
def Xh (N:ZJ):AR:={ JG 700 3 with n:=700-N.length,states:=(List.range 700).map fun (j:Nat)=>if j<N.length then (1:Int) else 0,nodes:=N,allocs:=N.length }
theorem Zhs:Xh []=JG 700 3:=by
 unfold Xh JG
 congr 1
theorem ZWb {n k:Nat} (h:k<n):((List.range n).map fun (j:Nat)=>if j<k then (1:Int) else 0).set k 1=(List.range n).map fun (j:Nat)=>if j<k+1 then (1:Int) else 0:=by
 apply List.ext_getElem
 ·simp
 ·intro j hj hj'
  simp only [List.getElem_set,List.getElem_map,List.getElem_range]
  by_cases q:k=j
  ·subst q;simp
  ·rw [if_neg q]
   have:j<k+1↔j<k:=by omega
   simp only [this]
theorem ZeU (N:ZJ) (x:Nd) (hl:N.length<700):(Xh N).alloc N.length 1 x=Xh (N++[(hd N,x.copy)]):=by
 unfold AR.alloc AR.take Xh
 simp only [List.length_append,List.length_singleton,ZWb hl]
 rfl
theorem Zc0 {N:ZJ} (ho:Ord N) (hl:N.length<700):CanTake (Xh N) (699-N.length) N.length 1 where
 n:=by simp only [Xh];omega
 blk:=by
  simp only [Xh,JG]
  rw [List.getElem?_map,List.getElem?_range (by omega)]
  simp only [Option.map_some]
  congr 1;omega
 st:=by simp [Xh];omega
 s16:=by omega
 gen:=by
  simp only [Xh,JG]
  rw [List.getElem?_replicate,if_pos hl];rfl
 g1:=by omega
 g2:=by omega
 big:=by simp only [Xh];omega
 new:=by simp only [Xh];exact ho.fresh
 al:=by simp only [Xh];omega
end Go.Q15
namespace Go.Q15
open Go Go.QAbs
set_option maxRecDepth 100000
set_option maxHeartbeats 8000000
section
variable {O:Orc} {k:List Fr} {Q:Yv} {e:Env} {A:List (Bool × List Blk)} {L L0 T T':List Blk} {keep:List Nat} {is:List PI} {d:Nat}
theorem ZOe {w bytes m:Nat} {s x:Opd} {y:AV} (hs:Zg e s=some .nils) (hx:Zg e x=some (.lit [y])) (hw:bytes≤4096) (hsm:y.wide=some w) (hm:ZaC T=some m) (hL:Jx (T++[Blk.arr w 0 [y]])=some T')
 (h:Is O is keep k Q ((d,.ref A.length (L0.length+m) 0 0 1)::e) ⟨A,false,L0++T'⟩):Is O (⟨some d,none,false,.app w bytes s x⟩::is) keep k Q e ⟨A,false,L0++T⟩:=by
 rw [← Qa hL,← ZBY hm,← List.append_assoc,← List.length_append] at h
 refine Z3 (v:=.ref A.length (L0++T).length 0 0 1) (st':=⟨A,false,L0++T++[Blk.arr w 0 [y]]⟩) ?_ h
 have hw2:JE w [y]=true:=by simp [JE,hsm]
 simp only [Zk,evalPO,ZH hs,ZH hx,elems,Option.bind_some,Q9,hw2,List.length_singleton,if_pos (show 1<4294967296∧bytes≤4096∧True from ⟨by decide,hw,trivial⟩),St.new_cur,Je]
theorem ZWc {w bytes:Nat} {s x:Opd} {ix ver n:Nat} {es:List AV} {y:AV} (hs:Zg e s=some (.ref A.length (L0.length+ix) ver 0 n)) (hx:Zg e x=some (.lit [y])) (hg:T[ix]?=some (Blk.arr w ver es)) (hb:n=es.length)
 (hl:es.length+1<4294967296) (hw:bytes≤4096) (hsm:y.wide=some w) (hm:Zc QN (A.length+1) ⟨A,false,L0++T⟩ y=some (y,⟨A,false,L0++T⟩)) (hL:Jx (T.set ix (Blk.arr w (ver+1) (es++[y])))=some T')
 (h:Is O is keep k Q ((d,.ref A.length (L0.length+ix) (ver+1) 0 (n+1))::e) ⟨A,false,L0++T'⟩):Is O (⟨some d,none,false,.app w bytes s x⟩::is) keep k Q e ⟨A,false,L0++T⟩:=by
 rw [← Qa hL,← ZTZ] at h
 exact ZBr hs hx (by rw [Jh];exact hg) hb hl hw hsm hm h
end
def r0 (lv b k:Nat):Blk:=.arr 4 0 [.agg [.int .u64 3,.ref lv (b+1) 699 0 700,.ref lv (b+2) 699 0 700,.ref lv (b+3) 699 0 (700-k)]]
def r1 (k:Nat):Blk:=.arr 1 699 (((List.range 700).map fun (j:Nat)=>if j<k then (1:Int) else 0).map (.int .i64))
def r2:Blk:=.arr 1 699 (List.replicate 700 (.int .u64 1))
def r3:Blk:=.arr 1 699 ((List.range 700).map fun (j:Nat)=>.int .i64 ((700:Int)-1-j))
def itV (lv it:Nat):ZJ→AV
 | []=>.nils
 | p::N=>.ref lv it N.length 0 (N.length+1)
def r4 (lv b it:Nat) (N:ZJ):Blk:=.arr 9 0 [.agg [.ptr lv b 0 0 0,itV lv it N,.int .i64 0,.int .i64 0,.int .i64 0,.int .i64 0,.int .i64 N.length,.int .i64 0,.int .i64 0]]
theorem Zja (m g:Nat) (hm:m<16384) (hg:1≤g∧g≤4294967295) (A:List (Bool × List Blk)) (L0:List Blk) :
 S Tb Xy [.int .i64 ((m+1:Nat):Int),.int .u64 g] ⟨A,false,L0⟩=some (.tup [.ptr A.length (L0.length+0) 0 0 0,.int .i64 0],⟨A,false,L0 ++
  [.arr 4 0 [.agg [.int .u64 g,.ref A.length (L0.length+1) m 0 (m+1),.ref A.length (L0.length+2) m 0 (m+1),.ref A.length (L0.length+3) m 0 (m+1)]],
   .arr 1 m (List.replicate (m+1) (.int .i64 0)),.arr 1 m (List.replicate (m+1) (.int .u64 1)),.arr 1 m ((List.range (m+1)).map fun (j:Nat)=>.int .i64 (((m+1:Nat):Int)-1-j))]⟩):=by
 refine ZO2 rfl ?_
 have e0:(⟨A,false,L0⟩:St)=⟨A,false,L0++[]⟩:=by rw [List.append_nil]
 rw [e0]
 repeat' (first|refine Yp rfl rfl rfl rfl rfl ?_|refine ZE ?_|refine ZC ?_|refine ZF rfl ?_|refine Z8 rfl ?_|refine Zp rfl rfl rfl rfl ?_|refine ZB rfl ?_|refine ZA ?_|(refine Zh rfl rfl (fun _=>?_) (fun _=>?_)<;>try (exfalso;omega))|(refine QW rfl rfl (fun _=>?_) (fun _=>?_)<;>try (exfalso;omega))|refine ZG rfl ?_|refine Zf rfl rfl rfl ?_|refine ZI ?_|refine ZL ?_)
 refine Q0 ?_
 repeat' (first|refine Jl rfl rfl rfl rfl ?_|refine ZOe rfl rfl (by decide) rfl rfl rfl ?_|refine Yl rfl rfl rfl rfl (Qz _ (Nat.lt_succ_self _)) rfl rfl ?_|refine ZE ?_|refine ZC ?_|refine ZF rfl ?_|refine ZO rfl rfl ?_|refine ZB rfl ?_|refine ZA ?_|refine Z7 rfl rfl ?_|(refine Zh rfl rfl (fun _=>?_) (fun _=>?_)<;>try (exfalso;omega))|refine ZU rfl ?_|refine Zi rfl rfl (by omega) ?_|refine JB rfl rfl (by omega) ?_|refine QL rfl rfl rfl rfl ?_|refine ZI ?_|refine ZL ?_|refine Z2 ?_)
 refine Zq (α:=Nat) (fun j=>[(0,.int .i64 ((m+1:Nat):Int)),(6,.ptr A.length (L0.length+0) 0 0 0),(7,.int .i64 ((j+1:Nat):Int))])
  (fun j=>⟨A,false,L0++[.arr 4 0 [.agg [.int .u64 g,.ref A.length (L0.length+1) j 0 (j+1),.ref A.length (L0.length+2) j 0 (j+1),.ref A.length (L0.length+3) j 0 (j+1)]],
   .arr 1 j (List.replicate (j+1) (.int .i64 0)),.arr 1 j (List.replicate (j+1) (.int .u64 1)),.arr 1 j ((List.range (j+1)).map fun (q:Nat)=>.int .i64 (((m+1:Nat):Int)-1-q))]⟩)
  (fun j=>j≤m) (fun j=>m-j) 0 rfl rfl (Nat.zero_le _) ?_
 intro j hj
 have r1:∀ x:AV,List.replicate (j+1) x++[x]=List.replicate (j+1+1) x:=fun x=>by rw [List.replicate_succ' (n:=j+1)]
 have r2:((List.range (j+1)).map fun (q:Nat)=>AV.int .i64 (((m+1:Nat):Int)-1-q))++[.int .i64 (((m+1:Nat):Int)-1-((j+1:Nat):Int))]=(List.range (j+1+1)).map fun (q:Nat)=>AV.int .i64 (((m+1:Nat):Int)-1-q):=by
  rw [List.range_succ (n:=j+1),List.map_append];rfl
 repeat' (first|refine Jl rfl rfl rfl rfl ?_|refine ZE ?_|refine ZC ?_|refine ZF rfl ?_|refine ZO rfl rfl ?_|refine ZB rfl ?_|refine ZA ?_|refine Z7 rfl rfl ?_|(refine Zh rfl rfl (fun _=>?_) (fun _=>?_)<;>try (exfalso;omega))|refine ZU rfl ?_|refine ZG rfl ?_|refine QL rfl rfl rfl rfl ?_|refine ZI ?_|refine ZQ ?_|refine Zo ?_|refine ZL ?_|refine ZP ?_|refine Za ?_|refine ZY rfl ?_|refine Zj ?_)
 ·refine ZWc rfl rfl rfl (by simp) (by simp;omega) (by decide) rfl rfl rfl ?_
  rw [r1]
  repeat' (first|refine Jl rfl rfl rfl rfl ?_|refine Yl rfl rfl rfl rfl (Qz _ (Nat.lt_succ_self _)) rfl rfl ?_|refine ZE ?_|refine ZC ?_|refine ZF rfl ?_|refine ZO rfl rfl ?_|refine ZB rfl ?_|refine ZA ?_|refine Z7 rfl rfl ?_|refine QL rfl rfl rfl rfl ?_)
  refine ZWc rfl rfl rfl (by simp) (by simp;omega) (by decide) rfl rfl rfl ?_
  rw [r1]
  repeat' (first|refine Jl rfl rfl rfl rfl ?_|refine Yl rfl rfl rfl rfl (Qz _ (Nat.lt_succ_self _)) rfl rfl ?_|refine ZC ?_|refine ZF rfl ?_|refine ZO rfl rfl ?_|refine ZB rfl ?_|refine ZA ?_|refine Z7 rfl rfl ?_|refine JB rfl rfl (by omega) ?_|refine QL rfl rfl rfl rfl ?_)
  refine ZWc rfl rfl rfl (by simp) (by simp;omega) (by decide) rfl rfl rfl ?_
  rw [r2]
  repeat' (first|refine Yl rfl rfl rfl rfl (Qz _ (Nat.lt_succ_self _)) rfl rfl ?_|refine ZC ?_|refine ZF rfl ?_|refine ZO rfl rfl ?_|refine ZB rfl ?_|refine ZA ?_|refine Z7 rfl rfl ?_|refine Zi rfl rfl (by omega) ?_|refine Z2 ?_|refine Z4 ?_)
  exact ⟨j+1,⟨rfl,rfl⟩,by omega,by omega⟩
 ·obtain rfl:j=m:=by omega
  rfl
theorem Zjb:r1 0=.arr 1 699 (List.replicate (699+1) (.int .i64 0)):=by
 unfold r1
 simp only [Nat.not_lt_zero,if_false,List.map_const',List.length_range,List.map_replicate]
theorem ZkT (A:List (Bool × List Blk)) (L0:List Blk) :
 S Tb Yn [.int .i64 700,.int .u64 3] ⟨A,false,L0⟩=some (.tup [.ptr A.length (L0.length+4) 0 0 0,.int .i64 0],⟨A,false,L0++[r0 A.length L0.length 0,r1 0,r2,r3,r4 A.length L0.length 0 []]⟩):=by
 refine ZO2 rfl ?_
 have hN:=Zja 699 3 (by decide) ⟨by decide,by decide⟩ A L0
 repeat' (first|refine Yp rfl rfl rfl rfl rfl ?_|refine ZE ?_|refine ZC ?_|refine ZF rfl ?_|refine QB rfl rfl ?_|refine ZB rfl ?_|refine ZA ?_|(refine Zu rfl rfl (fun _=>?_) (fun _=>?_)<;>try (exfalso;omega))|refine ZG rfl ?_|refine Zf rfl rfl rfl ?_|refine ZD rfl rfl rfl (hN) ?_|refine ZI ?_|refine ZQ ?_|refine ZP ?_)
 rw [Zjb]
 rfl
end Go.Q15
namespace Go.Q15
open Go Go.QAbs
set_option maxRecDepth 100000
set_option maxHeartbeats 8000000
structure APost (P:List Blk→ZJ→(Nat→Prop)→Prop) (L:List Blk) (I:Nat→Prop) (N':ZJ) (L':List Blk) (I':Nat→Prop):Prop where
 p:P L' N' I'
 len:L.length≤L'.length
 old:∀ i,i<L.length→¬ I i→L'[i]?=L[i]?
 own:∀ i,I' i→I i∨L.length≤i
structure Allocs (A:List (Bool × List Blk)) (g:FuncId) (P:List Blk→ZJ→(Nat→Prop)→Nat→Prop):Prop where
 frame:∀ {L L' N I p},P L N I p→(∀ i,I i→L'[i]?=L[i]?)→P L' N I p
 lt:∀ {L N I p i},P L N I p→I i→i<L.length
 leaf:∀ {L N I p} (s:List UInt8),P L N I p→Ord N→N.length<700→ZAL s→∃ L' I',
  S Tb g [.ptr A.length p 0 0 0,.agg [.int .i64 (0:Nat),.str s,.nils]] ⟨A,false,L⟩=some (.tup [.int .u64 ((hd N:Nat):Int),.int .i64 0],⟨A,false,L'⟩)∧APost (fun L N I=>P L N I p) L I (N++[(hd N,⟨0,s,some []⟩)]) L' I'
 inn:∀ {L N I p} (n:Nat) (ks:List Kid) {kx ver:Nat},P L N I p→Ord N→N.length<700→n≤15→2≤ks.length∧ks.length≤4→(∀ k∈ks,KidOk n k)→(QE (ks.map Kid.m)).b≤65536→ZE4 N n ks→KRef ⟨A,false,L⟩ A.length kx ver ks→¬ I kx→∃ L' I',
  S Tb g [.ptr A.length p 0 0 0,ndR (n+1) A.length kx ver ks.length] ⟨A,false,L⟩=some (.tup [.int .u64 ((hd N:Nat):Int),.int .i64 0],⟨A,false,L'⟩)∧APost (fun L N I=>P L N I p) L I (N++[(hd N,⟨n+1,[],some ks⟩)]) L' I'
theorem ZkU:∀ n N t N' k,WrH n N t N' k→Ord N→Ord N':=by
 have hc:∀ (P:ZJ→Tr→ZJ→Kid→Prop),(∀ N t N' k,P N t N' k→Ord N→Ord N')→∀ ts N N' l,ZWa P N ts N' l→Ord N→Ord N':=by
  intro P hP ts
  induction ts with
  | nil=>intro N N' l h o;rw [h.1];exact o
  | cons t ts ih =>
   rintro N N' l ⟨N1,k,l1,h1,h2,_⟩ o
   exact ih N1 N' l1 h2 (hP _ _ _ _ h1 o)
 intro n
 induction n with
 | zero=>rintro N t N' k ⟨s,ks,_,_,_,rfl,_⟩ o;exact o.snoc _
 | succ n ih =>
  rintro N t N' k ⟨ts,N1,l,_,_,_,h,_,_,_,_,rfl,_⟩ o
  exact (hc _ ih _ _ _ _ h o).snoc _
theorem get_left {L T:List Blk} {i:Nat} {b:Blk} (h:L[i]?=some b):(L++T)[i]?=some b:=by
 rw [List.getElem?_append_left (List.getElem?_eq_some_iff.1 h).1];exact h
theorem Zc1 {L T:List Blk} {i:Nat} (h:i<L.length):(L++T)[i]?=L[i]?:=List.getElem?_append_left h
theorem ro_part (r:Ro):Jj r.av true 0 5=some r.av:=by cases r;rfl
theorem ZQY {e:Env} {A:List (Bool × List Blk)} {L:List Blk} {x:Ex} {b c ix ver:Nat} {r:Ro} {k:IntKind} {n:Int} {u:AV} (hx:x=.norm∨x=.ret) (hb:J5 e b=some (.ptr A.length ix ver 0 0)) (hg:L[ix]?=some (.arr 5 ver [r.av])) (hc:J5 e c=some (.int k n)) (hu:.tup [r.av,.int k n]=u):Jq true [.c b true 5,.s c] (x,e,⟨A,false,L⟩)=some (u,⟨A,false,L⟩):=by
 subst hu
 have h1:ZBi ⟨A,false,L⟩ e (.c b true 5)=some r.av:=by
  simp only [ZBi,QP hb,loadP,St.get_cur,hg,vis,ZIX,if_true,List.getElem?_cons_zero,Option.bind_some,ro_part]
 have h2:Qk ⟨A,false,L⟩ e [.c b true 5,.s c]=some (.tup [r.av,.int k n]):=by
  simp only [Qk,ZDu,h1,Option.bind_some]
  simp only [ZBi,QP hc,Option.bind_some,Option.map_some,ZIZ]
 rcases hx with rfl|rfl<;>simp only [Jq,h2,Option.bind_some,if_true,QV]
theorem ZeV {A:List (Bool × List Blk)} {g:FuncId} {P:List Blk→ZJ→(Nat→Prop)→Nat→Prop} (hA:Allocs A g P) {p:Nat} {N N':ZJ} {t:Tr} {k:Kid} (hw:WrH 0 N t N' k) (ho:Ord N) (hl:N'.length≤700) {L:List Blk} {I:Nat→Prop} (hP:P L N I p) :
 ∃ L' I',S Tb Z9 [.func (.func g) [.ptr A.length p 0 0 0] [],t.av] ⟨A,false,L⟩=some (.tup [Ro.av ⟨k.at_,0,k.m⟩,.int .i64 0],⟨A,false,L'⟩)∧APost (fun L N I=>P L N I p) L I N' L' I':=by
 obtain ⟨s,ks,rfl,hk,hs,rfl,rfl⟩:=hw
 have hZ:=fun st=>ZbL (.mk 0 0 .zero s ks) ⟨rfl,rfl,rfl,hs.1,hs.2,hk⟩ st
 have hM:=fun st=>ZOa s (by have:=hs.2;omega) st
 obtain ⟨T,hT⟩:∃ T:List Blk,T=[.arr 7 0 [(Tr.mk 0 0 .zero s ks).av],.arr 5 0 [.agg [.int .u64 0,.int .i64 0,.int .i64 0,.int .i64 0,.int .i64 0]],.arr 3 0 [.agg [.int .i64 (0:Nat),.str s,.nils]],.arr 3 0 [(Ya s).av]]:=⟨_,rfl⟩
 have hP':P (L++T) N I p:=hA.frame hP (fun i hi=>List.getElem?_append_left (hA.lt hP hi))
 obtain ⟨L1,I1,hS,hp⟩:=hA.leaf s hP' ho (by simp at hl;omega) hs
 have hTl:T.length=4:=by rw [hT];rfl
 have gT:∀ i b,T[i]?=some b→L1[L.length+i]?=some b:=by
  intro i b hb
  have hi:i<T.length:=(List.getElem?_eq_some_iff.1 hb).1
  rw [hp.old _ (by rw [List.length_append];omega) (fun q=>by have:=hA.lt hP q;omega),Jh];exact hb
 have q0:=gT 0 _ (by rw [hT];rfl)
 have q1:=gT 1 _ (by rw [hT];rfl)
 have q3:=gT 3 _ (by rw [hT];rfl)
 have hlen:=hp.len
 rw [List.length_append] at hlen
 refine ⟨L1.set (L.length+1) (.arr 5 0 [Ro.av ⟨hd N,0,Ya s⟩]),I1,ZO2 rfl ?_,?_⟩
 ·have e0:(⟨A,false,L⟩:St)=⟨A,false,L++[]⟩:=by rw [List.append_nil]
  rw [e0]
  obtain ⟨ka,hka⟩:∃ ka,Tr.avO ks=ka∧(ka=.nils∨ka=.lit []):=by
   cases ks with
   | none=>exact ⟨_,rfl,.inl rfl⟩
   | some l=>have:l=[]:=hk;subst this;exact ⟨_,rfl,.inr rfl⟩
  obtain ⟨hka,hka2⟩:=hka
  simp only [Tr.av,Mea.zero,hka] at *
  rcases hka2 with rfl|rfl
  all_goals repeat' (first|refine Yp rfl rfl rfl rfl rfl ?_|refine Jl rfl rfl rfl rfl ?_|refine Yl rfl rfl rfl rfl rfl rfl rfl ?_|refine ZE ?_|refine ZC ?_|refine ZF rfl ?_|refine ZO rfl rfl ?_|refine ZB rfl ?_|refine ZA ?_|(refine Zu rfl rfl (fun _=>?_) (fun _=>?_)<;>try (exfalso;omega))|refine ZG rfl ?_|refine Zf rfl rfl rfl ?_|refine ZD rfl rfl rfl (hZ _) ?_|refine ZD rfl rfl rfl (hM _) ?_|refine ZI ?_|refine ZL ?_)
  all_goals refine Q0 ?_
  all_goals rw [hT] at hS
  all_goals repeat' (first|refine Jl rfl rfl rfl rfl ?_|refine ZS rfl q0 rfl rfl ?_|refine ZS rfl q3 rfl rfl ?_|refine Qn q1 rfl rfl rfl rfl rfl ?_|refine ZE ?_|refine ZC ?_|refine ZF rfl ?_|refine ZO rfl rfl ?_|refine QB rfl rfl ?_|refine ZB rfl ?_|refine ZA ?_|refine YJ rfl rfl ?_|refine JI rfl ?_|(refine Zh rfl rfl (fun _=>?_) (fun _=>?_)<;>try (exfalso;omega))|(refine Zu rfl rfl (fun _=>?_) (fun _=>?_)<;>try (exfalso;omega))|refine ZG rfl ?_|refine Zf rfl rfl rfl ?_|refine ZD rfl rfl rfl (hS) ?_|refine ZI ?_|refine ZQ ?_|refine Zo ?_|refine ZP ?_|refine Za ?_|refine ZY rfl ?_)
  all_goals exact ZQY (r:=⟨hd N,0,Ya s⟩) (.inr rfl) rfl (List.getElem?_set_self (by omega)) rfl rfl
 ·refine ⟨hA.frame hp.p (fun i hi=>?_),by rw [List.length_set];omega,fun i h1 h2=>?_,fun i hi=>?_⟩
  ·rw [List.getElem?_set_ne]
   rcases hp.own i hi with q|q
   ·have:=hA.lt hP q;omega
   ·rw [List.length_append] at q;omega
  ·rw [List.getElem?_set_ne (by omega),hp.old i (by rw [List.length_append];omega) h2,Zc1 h1]
  ·rcases hp.own i hi with q|q
   ·exact .inl q
   ·rw [List.length_append] at q;exact .inr (by omega)
end Go.Q15
namespace Go.Q15
open Go Go.QAbs
set_option maxRecDepth 100000
set_option maxHeartbeats 8000000
def ZOf:Nat→List (List UInt8)→Nat
 | n,[]=>n
 | n,t::ts=>if n≤900 then ZOf (n+min t.length 1000) ts else n
def ZfG (l:List (List UInt8)):Prop:=4<l.length∨900<ZOf 0 l
instance (l:List (List UInt8)):Decidable (ZfG l):=by unfold ZfG;infer_instance
theorem Zc2:∀ (l:List (List UInt8)) (n:Nat),n≤ZOf n l
 | [],n=>by simp [ZOf]
 | t::ts,n=>by
  rw [ZOf]
  by_cases h:n≤900
  ·rw [if_pos h];have:=Zc2 ts (n+min t.length 1000);omega
  ·rw [if_neg h];exact Nat.le_refl _
theorem ZZT:∀ (l:List (List UInt8)) (n:Nat),ZOf n l≤900→n+(l.map List.length).sum≤900
 | [],n,h=>by simpa [ZOf] using h
 | t::ts,n,h=>by
  rw [ZOf] at h
  by_cases hn:n≤900
  ·rw [if_pos hn] at h
   have h1:=Zc2 ts (n+min t.length 1000)
   have h2:=ZZT ts _ h
   rw [List.map_cons,List.sum_cons];omega
  ·rw [if_neg hn] at h;omega
theorem ZZU {α:Type} {l:List α} {i:Nat} {a:α} (h:l[i]?=some a):l.drop i=a::l.drop (i+1):=by
 obtain ⟨h1,h2⟩:=List.getElem?_eq_some_iff.1 h
 subst h2
 exact List.drop_eq_getElem_cons h1
theorem Zc3 {O:Orc} {k:List Fr} {Q:Yv} {e:Env} {st:St} {keep:List Nat} {is:List PI} {d:Nat} {α:Type} {f:α→AV} {x:Opd} {l:List α} (hx:Zg e x=some (.lit (l.map f))) (h:Is O is keep k Q ((d,.int .i64 l.length)::e) st):Is O (⟨some d,none,false,.len 1 x⟩::is) keep k Q e st:=by
 refine ZTV hx ?_
 rw [List.length_map];exact h
structure Stp where
 what:Nat
 at_:Int
 n:Int
 text:List UInt8
def Stp.av (y:Stp):AV:=.agg [.int .u8 y.what,.int .i64 y.at_,.int .i64 y.n,.str y.text]
def Zku (l:List Stp):Prop:=(∃ s∈l.take 100,200<s.text.length)∨30<l.length
open Classical in
noncomputable instance (l:List Stp):Decidable (Zku l):=Classical.propDecidable _
theorem Zht {l:List (List UInt8)} (h:¬ ZfG l):l.length≤4∧(l.map List.length).sum≤900:=by
 have h1:¬ 4<l.length:=fun q=>h (.inl q)
 have h2:¬ 900<ZOf 0 l:=fun q=>h (.inr q)
 have:=ZZT l 0 (by omega)
 exact ⟨by omega,by omega⟩
end Go.Q15
