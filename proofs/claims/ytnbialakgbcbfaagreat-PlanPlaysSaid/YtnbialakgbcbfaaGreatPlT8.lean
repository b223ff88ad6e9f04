/- A part of the proof: M13, M16, M2b, M19, PB, M14, M20, M21, M22, M23, M24, M25, M26, M27, M28, M29, M30, M31, M32, M33, M15, MW, RA, W5, W6, W12, RFa, RFb, CHR, RFc. No condition. -/
import Derived.Test.YtnbialakgbcbfaaGreatPlT7
set_option linter.unusedVariables false
set_option linter.unusedSimpArgs false
set_option maxHeartbeats 8000000
set_option maxRecDepth 100000
namespace Go.Q15
open Go Go.QAbs
variable {v z:AV}{c:Blk}{agg ro:Bool}{e:Env}{A:List (Bool × List Blk)}{es ys:LV}{is:List PI}{s:B8}{b d g i ix j jb jx k n o pl px ver w:Nat}{a x:Opd}{O:Orc}{Q:Qn}{st:St}{t:Tr}
theorem ZBn{lv:Nat}{N:ZF}(hr:Rd st lv ix N)(ht:VE N t)(hb:t.bytes<=65536):S Tb Js [.ptr lv ix 0 0 0,t.av] st=some (.int .i64 0,st):=by
 rcases ht with h|h
 ·exact ZnH h
 ·exact Zra hr h hb
theorem Ztu{N:ZF}{lv:Nat}(hr:Rd st lv ix N){x y:Tr}(hx:VE N x)(hy:VE N y)(none:Bool)(hn:none=false->Val N x/\Val N y)(hb:x.bytes+y.bytes<=65536):
 S Tb ZBb [.ptr lv ix 0 0 0,x.av,y.av,.bool none] st=some (.int .i64 0,st):=by
 refine Zj Y (fun A hA=>?_)
 have hrp:=fun L=>hr.push hA (ro:=false) (L:=L)
 have hx0:=hx.pos.2;have hy0:=hy.pos.2
 have hC1:=fun L=>ZBn (hrp L) hx (by omega)
 have hC2:=fun L=>ZBn (hrp L) hy (by omega)
 have hB1:=fun st=>X9 x hx.pos.1 (by omega) st
 have hB2:=fun st=>X9 y hy.pos.1 (by omega) st
 cases none with
 | true =>
  repeat'(first|refine ruS Y ?_|refine isS Y ?_|refine rkS Y ?_|refine Qg Y Y ?_|(refine cm0 Y Y Y ?_ ?_<;>intro _<;>try omega)|(refine cm0 Y Y Y ?_ ?_<;>intro _<;>try omega)|(refine cm0 Y Y Y ?_ ?_<;>intro _<;>try omega)|refine ZL Y Y (by omega) ?_|refine ZJ Y Y Y ?_|refine Zk Y (ZG _) ?_|refine Z5 Y Y (ZG _) ?_|refine ZB Y Y Y (ZG _) ?_|refine Ze Y Y Y (Zn _ _ _) (Zx _ _) Y ?_|refine Za Y (ZQ _) (Zg _) ?_|refine ZAY Y Y ?_|refine Zr ?_|refine ZXK Y Y (by simp) Y (ZQ _) ?_|refine ZA Y Y (by first|rfl|(simp only[List.nil_append,List.append_nil,List.cons_append,ZH,ZC,ZE];first|done|rfl)) (hC1 _) ?_|refine ZA Y Y (by first|rfl|(simp only[List.nil_append,List.append_nil,List.cons_append,ZH,ZC,ZE];first|done|rfl)) (hC2 _) ?_|refine Zw Y Y (wk1 _) (hB1 _) ?_|refine ZA Y Y (by first|rfl|(simp only[List.nil_append,List.append_nil,List.cons_append,ZH,ZC,ZE];first|done|rfl)) (hB2 _) ?_)
  all_goals try omega
  all_goals refine ZO hA (by simp) Y Y Y Y ?_
  all_goals rfl
 | false =>
  obtain⟨vx,vy⟩:=hn rfl;obtain⟨k,hk,hK⟩:=vx.kindNe;obtain⟨k2,hk2,hK2⟩:=vy.kindNe
  repeat'(first|refine ruS Y ?_|refine isS Y ?_|refine rkS Y ?_|refine Qg Y Y ?_|(refine cm0 Y Y Y ?_ ?_<;>intro _<;>try omega)|(refine cm0 Y Y Y ?_ ?_<;>intro _<;>try omega)|(refine cm0 Y Y Y ?_ ?_<;>intro _<;>try omega)|(refine cm0 Y Y Y ?_ ?_<;>intro _<;>try omega)|refine ZL Y Y (by omega) ?_|refine ZJ Y Y Y ?_|refine Zk Y (ZG _) ?_|refine Z5 Y Y (ZG _) ?_|refine ZB Y Y Y (ZG _) ?_|refine Ze Y Y Y (Zn _ _ _) (Zx _ _) Y ?_|refine Za Y (ZQ _) (Zg _) ?_|refine ZAY Y Y ?_|refine Zr ?_|refine ZXK Y Y (by simp) Y (ZQ _) ?_|refine ZA Y Y (by first|rfl|(simp only[List.nil_append,List.append_nil,List.cons_append,ZH,ZC,ZE];first|done|rfl)) (hC1 _) ?_|refine ZA Y Y (by first|rfl|(simp only[List.nil_append,List.append_nil,List.cons_append,ZH,ZC,ZE];first|done|rfl)) (hC2 _) ?_|refine ZA Y Y (by first|rfl|(simp only[List.nil_append,List.append_nil,List.cons_append,ZH,ZC,ZE];first|done|rfl)) (hK _) ?_|refine ZA Y Y (by first|rfl|(simp only[List.nil_append,List.append_nil,List.cons_append,ZH,ZC,ZE];first|done|rfl)) (hK2 _) ?_|refine Zw Y Y (wk1 _) (hB1 _) ?_|refine ZA Y Y (by first|rfl|(simp only[List.nil_append,List.append_nil,List.cons_append,ZH,ZC,ZE];first|done|rfl)) (hB2 _) ?_)
  all_goals try omega
  all_goals refine ZO hA (by simp) Y Y Y Y ?_
  all_goals rfl
theorem Ztv{N:ZF}(hN:GoodN N){lv:Nat}(hr:Rd st lv ix N){x y:Tr}(hx:VE N x)(hy:VE N y)(hb:x.bytes+y.bytes<=65536):
 S Tb ZGQ [.ptr lv ix 0 0 0,x.av,y.av] st=some (.tup [(JY N x y).own.av,.int .i64 0],st):=by
 refine Zj Y (fun A hA=>?_)
 have hrp:=fun L=>hr.push hA (ro:=false) (L:=L)
 have hBo:=fun L=>Ztu (hrp L) hx hy true (fun q=>by cases q) hb
 have hCo:=fun L=>ZQs hN (hrp L) hx hy
 have hO:=fun st=>Zi1 (JY N x y) (X1 hN hx hy hb).ve.pos.1 st
 generalize JY N x y=z at *
 generalize z.own=zo at *
 repeat'(first|refine ruS Y ?_|refine isS Y ?_|refine rkS Y ?_|(refine cm0 Y Y Y ?_ ?_<;>intro _<;>try omega)|refine ZJ Y Y Y ?_|refine ZB Y Y Y (ZG _) ?_|refine Ze Y Y Y (Zn _ _ _) (Zx _ _) Y ?_|refine Za Y (ZQ _) (Zg _) ?_|refine ZA Y Y (by first|rfl|(simp only[List.nil_append,List.append_nil,List.cons_append,ZH,ZC,ZE];first|done|rfl)) (hBo _) ?_|refine ZA Y Y (by first|rfl|(simp only[List.nil_append,List.append_nil,List.cons_append,ZH,ZC,ZE];first|done|rfl)) (hCo _) ?_|refine ZA Y Y (by first|rfl|(simp only[List.nil_append,List.append_nil,List.cons_append,ZH,ZC,ZE];first|done|rfl)) (hO _) ?_)
 all_goals try omega
 exact ZCn hA (.inr Y) Y Y Y Y
theorem ZxR{N:ZF}(hN:GoodN N){lv:Nat}(hr:Rd st lv ix N)(ht:VE N t)(a:Int)(h0:0<=a)(h1:a<=t.bytes)(hb:t.bytes<=65536):
 S Tb ZTl [.ptr lv ix 0 0 0,t.av,.int .i64 a] st=some (.tup [(Jg N t.h t a).1.own.av,(Jg N t.h t a).2.own.av,.int .i64 0],st):=by
 refine Zj Y (fun A hA=>?_)
 have hrp:=fun L=>hr.push hA (ro:=false) (L:=L)
 have hC:=fun L=>ZBn (hrp L) ht hb
 have hB:=fun st=>X9 t ht.pos.1 (by omega) st
 have hK:=fun L=>Ztt hN t.h (hrp L) ht rfl a h0 h1 hb
 have hok:=ZBU hN t.h t a ht rfl h0 h1 hb
 have hO1:=fun st=>Zi1 _ hok.l.pos.1 st
 have hO2:=fun st=>Zi1 _ hok.r.pos.1 st
 generalize Jg N t.h t a=r at *
 obtain⟨r1,r2⟩:=r
 simp only at *
 generalize r1.own=o1 at *
 generalize r2.own=o2 at *
 repeat'(first|refine ruS Y ?_|refine isS Y ?_|refine rkS Y ?_|(refine cm0 Y Y Y ?_ ?_<;>intro _<;>try omega)|(refine cm0 Y Y Y ?_ ?_<;>intro _<;>try omega)|(refine cm0 Y Y Y ?_ ?_<;>intro _<;>try omega)|refine ZJ Y Y Y ?_|refine ZB Y Y Y (ZG _) ?_|refine Ze Y Y Y (Zn _ _ _) (Zx _ _) Y ?_|refine Za Y (ZQ _) (Zg _) ?_|refine ZA Y Y (by first|rfl|(simp only[List.nil_append,List.append_nil,List.cons_append,ZH,ZC,ZE];first|done|rfl)) (hC _) ?_|refine ZA Y Y (by first|rfl|(simp only[List.nil_append,List.append_nil,List.cons_append,ZH,ZC,ZE];first|done|rfl)) (hB _) ?_|refine ZA Y Y (by first|rfl|(simp only[List.nil_append,List.append_nil,List.cons_append,ZH,ZC,ZE];first|done|rfl)) (hK _) ?_|refine Zw Y Y (wk1 _) (hO1 _) ?_|refine ZA Y Y (by first|rfl|(simp only[List.nil_append,List.append_nil,List.cons_append,ZH,ZC,ZE];first|done|rfl)) (hO2 _) ?_)
 all_goals try omega
 exact ZGJ hA (.inr Y) Y Y Y Y Y Y
structure Out(st:St)(lv jb jx:Nat)(ver:Nat)(s:B8):Prop where
 wr:st.wr lv
 box:st.get lv jb=some (.arr 1 0 [.ref lv jx ver 0 s.length])
 blk:st.get lv jx=some (.arr 1 ver (QL s))
 ne:jx≠jb
def Q6(st:St)(lv jb jx ver:Nat)(s:B8):St:=(st.upd lv jx (.arr 1 ver (QL s))).upd lv jb (.arr 1 0 [.ref lv jx ver 0 s.length])
theorem ZpV(s:B8):JH 1 (QL s)=true:=by
 induction s with
 | nil=>rfl
 | cons b s ih=>rw[QL,jC,JH,List.all_cons];exact Bool.and_eq_true_iff.2 ⟨rfl,ih⟩
theorem ZpW(b:Nat)(st:St)(s:B8):mapSt (Zb QK b) st (QL s)=some (QL s,st):=by
 induction s with
 | nil=>rfl
 | cons x s ih =>
  show mapSt (Zb QK b) st (AV.int .u8 x.toNat::QL s)=_
  rw[mapSt]
  show ((some (AV.int .u8 x.toNat,st)).bind fun r=>(mapSt (Zb QK b) r.2 (QL s)).bind (ZBv r.1))=_
  rw[Option.bind_some,ih];rfl
theorem Zfc(s t:B8):QL (s++t)=QL s++QL t:=by simp[QL]
theorem ZQt(s:B8):(QL s).length=s.length:=by simp[QL]
theorem ZRD{v:Nat}:vis (some (Blk.arr w v es))=some (Blk.arr w v es):=rfl
theorem Out.put{lv:Nat}(h:Out st lv jb jx ver s)(ver':Nat)(t:B8):Out (Q6 st lv jb jx ver' t) lv jb jx ver' t:=by
 have g1:∀l' i',(st.upd lv jx (.arr 1 ver' (QL t))).get l' i'=if l'=lv/\i'=jx then some (.arr 1 ver' (QL t)) else st.get l' i':=fun l' i'=>St.get_upd h.blk ZRD
 have b1:(st.upd lv jx (.arr 1 ver' (QL t))).get lv jb=some (.arr 1 0 [.ref lv jx ver 0 s.length]):=by rw[g1,if_neg (fun q=>h.ne q.2.symm)];exact h.box
 have g2:∀l' i',(Q6 st lv jb jx ver' t).get l' i'=if l'=lv/\i'=jb then some (.arr 1 0 [.ref lv jx ver' 0 t.length]) else (st.upd lv jx (.arr 1 ver' (QL t))).get l' i':=fun l' i'=>St.get_upd b1 ZRD
 refine⟨St.wr_upd (St.wr_upd h.wr h.wr) (St.wr_upd h.wr h.wr),by rw[g2,if_pos ⟨rfl,rfl⟩],?_,h.ne⟩
 rw[g2,if_neg (fun q=>h.ne q.2),g1,if_pos ⟨rfl,rfl⟩]
theorem ZK7{lv:Nat}(h:Out st lv jb jx ver s)(ver':Nat)(t:B8){l' i':Nat}(hn:¬ (l'=lv/\(i'=jx\/i'=jb))):(Q6 st lv jb jx ver' t).get l' i'=st.get l' i':=by
 have b1:(st.upd lv jx (.arr 1 ver' (QL t))).get lv jb=some (.arr 1 0 [.ref lv jx ver 0 s.length]):=by
  rw[St.get_upd h.blk ZRD,if_neg (fun q=>h.ne q.2.symm)];exact h.box
 rw[Q6,St.get_upd b1 ZRD,if_neg (fun q=>hn ⟨q.1,.inr q.2⟩),St.get_upd h.blk ZRD,if_neg (fun q=>hn ⟨q.1,.inl q.2⟩)]
theorem ZWs{lv:Nat}{b:Blk}:(st.upd lv ix b).upd lv ix c=st.upd lv ix c:=by
 unfold St.upd
 by_cases h:lv=st.A.length
 ·simp only[if_pos h,List.set_set]
 ·simp only[if_neg h,List.length_set]
  rcases Nat.lt_or_ge lv st.A.length with q|q
  ·simp only[List.set_set,List.getElem?_set,if_true,if_pos q,Option.getD_some,Zf8]
  ·simp only[List.set_eq_of_length_le q]
theorem ZWt{lv:Nat}{b:Blk}(h:ix≠jx):(st.upd lv ix b).upd lv jx c=(st.upd lv jx c).upd lv ix b:=by
 unfold St.upd
 by_cases hl:lv=st.A.length
 ·simp only[if_pos hl]
  rw[List.set_comm _ _ h]
 ·simp only[if_neg hl,List.length_set]
  rcases Nat.lt_or_ge lv st.A.length with q|q
  ·simp only[List.set_set,List.getElem?_set,if_true,if_pos q,Option.getD_some,Zf8]
   rw[List.set_comm _ _ h]
  ·simp only[List.set_eq_of_length_le q]
theorem ZpX{lv v1 v2:Nat}{t:B8}(h:jx≠jb):Q6 (Q6 st lv jb jx v1 s) lv jb jx v2 t=Q6 st lv jb jx v2 t:=by
 unfold Q6
 rw[ZWt (st:=st.upd lv jx _) (fun q=>h q.symm),ZWs,ZWs]
theorem ZnN{L:List Blk}(hA:A=st.A++[(st.ro,st.L)]){lv:Nat}(hl:lv<=st.A.length):
 Q6 ⟨A,ro,L⟩ lv jb jx ver s=⟨(Q6 st lv jb jx ver s).A++[((Q6 st lv jb jx ver s).ro,(Q6 st lv jb jx ver s).L)],ro,L⟩:=by
 unfold Q6;rw[YU hA hl]
 exact YU Y (by rw[St.upd_A];exact hl)
section
variable {O:Orc}{k:List Fr}{Q:Qn}{e:Env}{A:List (Bool × List Blk)}{L:List Blk}{keep:List Nat}{is:List PI}{d:Nat}
theorem Zrd{s:Opd}{lv:Nat}{t u:B8}(hA:A=st.A++[(st.ro,st.L)])(ho:Out st lv jb jx ver t)(hs:ZY e s=some (.ref lv jx ver 0 t.length))(hx:ZY e x=some (.str u))(hl:t.length+u.length<4294967296)
 (h:∀A',A'=(st.upd lv jx (.arr 1 (ver+1) (QL (t++u)))).A++[((st.upd lv jx (.arr 1 (ver+1) (QL (t++u)))).ro,(st.upd lv jx (.arr 1 (ver+1) (QL (t++u)))).L)]->Is O is keep k Q ((d,.ref lv jx (ver+1) 0 (t.length+u.length))::e) ⟨A',false,L⟩) :
 Is O (⟨some d,none,false,.app 1 1 s x⟩::is) keep k Q e ⟨A,false,L⟩:=by
 have hlv:=St.get_le ho.blk;refine Zq (v:=.ref lv jx (ver+1) 0 (t.length+u.length)) (st':=St.upd ⟨A,false,L⟩ lv jx (.arr 1 (ver+1) (QL (t++u)))) ?_ ?_
 ·have hg:=ZS hA (ro:=false) (L:=L) ho.blk
  have hw:=ZAe hA hlv ho.wr (ro:=false) (L:=L)
  simp only[Zd,evalPO,ZD hs,ZD hx,elems,Option.bind_some,Q4,ZQt,ZpV,if_true,ZpW,Zf4,hg,ZRL,true_and,if_pos (show 0+t.length<=t.length/\t.length+u.length<4294967296/\1<=4096 by omega),List.drop_zero]
  rw[List.take_of_length_le (by rw[ZQt];omega),<- Zfc,St.put_upd hw hg]
  rfl
 ·rw[YU hA hlv]
  exact h _ Y
end
theorem Rd.out{lv:Nat}{N:ZF}(hr:Rd st pl px N)(ho:Out st lv jb jx ver s)(hne:pl≠lv)(v:Nat)(t:B8):Rd (Q6 st lv jb jx v t) pl px N:=by
 obtain⟨a0,a1,im,a3,a4,a5,h1,h2⟩:=hr
 exact⟨a0,a1,im,a3,a4,a5,by rw[ZK7 ho _ _ (fun q=>hne q.1)];exact h1,by rw[ZK7 ho _ _ (fun q=>hne q.1)];exact h2⟩
structure WalkAt(st:St)(lv ab ob xb wb pl px:Nat)(N:ZF):Prop where
 rd:Rd st pl px N
 lt:pl≠lv
 a:st.get lv ab=some (.arr 1 0 [.ptr pl px 0 0 0])
 w:st.get lv wb=some (.arr 1 0 [.func (.func Y2) [] [.ptr lv ab 0 0 0,.ptr lv ob 0 0 0,.ptr lv wb 0 0 0]])
 na:ab≠xb/\ab≠ob
 nw:wb≠xb/\wb≠ob
theorem WalkAt.put{lv ab ob xb wb:Nat}{N:ZF}(h:WalkAt st lv ab ob xb wb pl px N)(ho:Out st lv ob xb ver s)(v:Nat)(t:B8):WalkAt (Q6 st lv ob xb v t) lv ab ob xb wb pl px N :=
 ⟨h.rd.out ho h.lt v t,h.lt,by rw[ZK7 ho _ _ (fun q=>by rcases q.2 with w|w;exact h.na.1 w;exact h.na.2 w)];exact h.a,by rw[ZK7 ho _ _ (fun q=>by rcases q.2 with w|w;exact h.nw.1 w;exact h.nw.2 w)];exact h.w,h.na,h.nw⟩
theorem Zfd{o:Option Blk}{b:Blk}(h:vis o=some b):o=some b:=by
 cases o with
 | none=>simp[vis]at h
 | some c=>cases c<;>simp[vis]at h<;>exact congrArg some h
theorem Zfe{α:Type}{l:List α}{b:α}(h:l[i]?=some b):l.set i b=l:=by
 obtain⟨h1,h2⟩:=List.getElem?_eq_some_iff.1 h;subst h2;exact List.set_getElem_self h1
theorem upd_same{lv:Nat}{b:Blk}(h:st.get lv ix=some b):st.upd lv ix b=st:=by
 unfold St.upd
 by_cases q:lv=st.A.length
 ·rw[if_pos q]
  rw[St.get,if_pos q]at h;have h2:=Zfd h;rw[Zfe h2]
 ·rw[if_neg q]
  rw[St.get,if_neg q]at h
  cases hr:st.A[lv]? with
  | none=>rw[hr]at h;simp at h
  | some r =>
   rw[hr]at h;have h2:=Zfd h;have e1:r.2.set ix b=r.2:=Zfe h2;simp only[Option.getD_some,Zf8,e1]
   rw[show (r.1,r.2)=r from rfl]
   rw[Zfe hr]
theorem Out.same{lv:Nat}(h:Out st lv jb jx ver s):Q6 st lv jb jx ver s=st:=by
 rw[Q6,upd_same h.blk,upd_same h.box]
theorem Out.push{L:List Blk}(hA:A=st.A++[(st.ro,st.L)]){lv:Nat}(h:Out st lv jb jx ver s):Out ⟨A,ro,L⟩ lv jb jx ver s :=
 ⟨ZAe hA (St.get_le h.blk) h.wr,ZS hA h.box,ZS hA h.blk,h.ne⟩
theorem WalkAt.push{L:List Blk}(hA:A=st.A++[(st.ro,st.L)]){lv ab ob xb wb:Nat}{N:ZF}(h:WalkAt st lv ab ob xb wb pl px N):WalkAt ⟨A,ro,L⟩ lv ab ob xb wb pl px N :=
 ⟨h.rd.push hA,h.lt,ZS hA h.a,ZS hA h.w,h.na,h.nw⟩
theorem wk4(t:Tr)(a b c:AV)(ha:weak a=a)(hb:weak b=b)(hc:weak c=c):ZE (ZH ([]++[t.av]++[a,b,c]))=some [t.av,a,b,c]:=by
 simp only[List.nil_append,List.cons_append,ZH,ZC,ha,hb,hc,ZE]
theorem ZxS{N:ZF}(hN:GoodN N):∀(n:Nat) (t:Tr),Val N t->t.h=n->t.bytes<=65536->∀ {st:St} {lv ab ob xb wb pl px ver:Nat} {s:B8},WalkAt st lv ab ob xb wb pl px N->Out st lv ob xb ver s->s.length+t.bytes<4294967296 ->
 Sp Tb Y2 [t.av,.ptr lv ab 0 0 0,.ptr lv ob 0 0 0,.ptr lv wb 0 0 0] st fun v st'=>v=.int .i64 0/\∃ver',st'=Q6 st lv ob xb ver' (s++t.txt N):=by
 intro n
 induction n with
 | zero =>
  intro t hv hh hb st lv ab ob xb wb pl px ver s hw ho hl;refine ZqQ Y ?_;obtain⟨A,hA⟩:∃A,A=st.A++[(st.ro,st.L)]:=⟨_,rfl⟩;rw[<- hA]
  have hL:=fun L=>ZlN (hw.rd.push hA (ro:=false) (L:=L)) hv
  have hln:=hv.line hh;have htx:=ZAv hv hh;rw[htx]
  have hg1:=fun L=>ZS hA (ro:=false) (L:=L) hw.a
  have hg2:=fun L=>ZS hA (ro:=false) (L:=L) ho.box
  generalize QB N t=u at *
  repeat'(first|refine ruS Y ?_|refine isS Y ?_|refine ZX ?_|(refine cm0 Y Y Y ?_ ?_<;>intro _<;>try omega)|refine Z5 Y Y (ZG _) ?_|refine Za Y (ZQ _) (Zg _) ?_|refine ZB Y Y Y (Qz _) ?_|refine Z1 Y (hg1 _) Y Y ?_|refine ZA Y Y (by first|rfl|(simp only[List.nil_append,List.append_nil,List.cons_append,ZH,ZC,ZE];first|done|rfl)) (hL _) ?_|refine Z1 Y (hg2 _) Y Y ?_)
  all_goals try omega
  refine Zrd hA ho Y Y (by omega) (fun A' hA'=>?_)
  have hgo:(st.upd lv xb (.arr 1 (ver+1) (QL (s++u)))).get lv ob=some (.arr 1 0 [.ref lv xb ver 0 s.length]):=by
   rw[St.get_upd ho.blk ZRD,if_neg (fun q=>ho.ne q.2.symm)];exact ho.box
  refine ZOP hA' Y Y (St.wr_upd ho.wr ho.wr) hgo Y (Qv _ (Nat.lt_succ_self _)) Y (fun A2 hA2=>?_)
  repeat'(first|refine ruS Y ?_|refine isS Y ?_|refine rkS Y ?_)
  refine⟨_,_,ZO hA2 (.inr Y) Y Y Y Y Y,rfl,ver+1,?_⟩;unfold Q6;rw[List.length_append];rfl
 | succ n ih =>
  intro t hv hh hb st lv ab ob xb wb pl px ver s hw ho hl;refine ZqQ Y ?_;obtain⟨A,hA⟩:∃A,A=st.A++[(st.ro,st.L)]:=⟨_,rfl⟩;rw[<- hA]
  obtain⟨c1,c2,c3,c4⟩:=QR hN hv (by omega)
  have hC:=fun L=>ZBO (hw.rd.push hA (ro:=false) (L:=L)) hv (by omega)
  have htx:=ZAO hN hv (by omega)
  have hg1:=fun L=>ZS hA (ro:=false) (L:=L) hw.a
  rw[htx];rw[<- c4]at hl hb
  generalize Zh N t=l at *
  have hpos:∀u∈l,1<=u.bytes:=fun u hu=>(c1 u hu).1.pos.2
  repeat'(first|refine ruS Y ?_|refine isS Y ?_|refine ZX ?_|refine Zi Y ?_|(refine cm0 Y Y Y ?_ ?_<;>intro _<;>try omega)|(refine cm0 Y Y Y ?_ ?_<;>intro _<;>try omega)|refine Z5 Y Y (ZG _) ?_|refine Za Y (ZQ _) (Zg _) ?_|refine ZB Y Y Y (Qz _) ?_|refine Z1 Y (hg1 _) Y Y ?_|refine ZA Y Y (by first|rfl|(simp only[List.nil_append,List.append_nil,List.cons_append,ZH,ZC,ZE];first|done|rfl)) (hC _) ?_)
  all_goals try omega
  have hst:st=Q6 st lv ob xb ver s:=ho.same.symm
  refine Zc (α:=Nat × List Blk × Nat) (fun p=>[(3,.ptr lv wb 0 0 0),(35,.lit (l.map Tr.av)),(36,.int .i64 l.length),(37,.int .i64 p.1)])
   (fun p=>⟨(Q6 st lv ob xb p.2.2 (s++Tr.txtL N (l.take p.1))).A++[((Q6 st lv ob xb p.2.2 (s++Tr.txtL N (l.take p.1))).ro,(Q6 st lv ob xb p.2.2 (s++Tr.txtL N (l.take p.1))).L)],false,p.2.1⟩)
   (fun p=>p.1<=l.length) (fun p=>l.length-p.1) (0,[Blk.arr 7 0 [t.av]],ver) rfl ?_ (by simp) ?_
  ·simp only[List.take_zero,Tr.txtL,List.append_nil,<- hst,<- hA]
   rfl
  rintro⟨i,G,ver⟩ hi
  simp only at hi ⊢
  have hw2:=hw.put ho ver (s++Tr.txtL N (l.take i));have ho2:=ho.put ver (s++Tr.txtL N (l.take i))
  have hpp:∀v2 t2,Q6 (Q6 st lv ob xb ver (s++Tr.txtL N (l.take i))) lv ob xb v2 t2=Q6 st lv ob xb v2 t2:=fun v2 t2=>ZpX ho.ne
  generalize hs1:Q6 st lv ob xb ver (s++Tr.txtL N (l.take i))=st1 at *
  obtain⟨A1,hA1⟩:∃A1,A1=st1.A++[(st1.ro,st1.L)]:=⟨_,rfl⟩;rw[<- hA1]
  have hgw:=fun L=>ZS hA1 (ro:=false) (L:=L) hw2.w
  repeat'(first|refine ruS Y ?_|refine isS Y ?_|refine rkS Y ?_|(refine cm0 Y Y Y ?_ ?_<;>intro _<;>try omega)|refine Za Y Y Y ?_|refine QY Y Y (by omega) ZQ (fun _ _=>?_)|refine Zk Y (ZG _) ?_|refine J5 Y Y Y (Zn _ _ _) (Zx _ _) Y ?_)
  ·rename_i u hu
   have hu2:l[i]?=some u:=hu;have hum:=jM hu2
   have hsum:Tr.bytesL l=Tr.bytesL (l.take i)+(u.bytes+Tr.bytesL (l.drop (i+1))):=by
    conv=>lhs;rw[<- List.take_append_drop (i+1) l,ZU hu2,Tr.bytesL_append,Tr.bytesL_append]
    simp[Tr.bytesL];omega
   have p1:=ZK6 hN (l:=l.take i) (fun w hw=>(c1 w (List.mem_of_mem_take hw)).1)
   have p2:=Tr.bytesL_nonneg (l:=l.drop (i+1)) (fun w hw=>by have:=hpos w (List.mem_of_mem_drop hw);omega)
   have p3:=Tr.bytesL_nonneg (l:=l.take i) (fun w hw=>by have:=hpos w (List.mem_of_mem_take hw);omega)
   have hle:lv<=st1.A.length:=St.get_le ho2.blk
   have htx2:s++Tr.txtL N (l.take (i+1))=s++Tr.txtL N (l.take i)++u.txt N:=by
    rw[ZU hu2,Tr.txtL_append,List.append_assoc];simp[Tr.txtL]
   have ihu:=fun L=>ih u (c1 u hum).1 (by have:=(c1 u hum).2.1;omega) (by omega) (hw2.push hA1 (ro:=false) (L:=L)) (ho2.push hA1 (ro:=false) (L:=L)) (by rw[List.length_append];omega)
   refine Z1 Y (hgw _) Y Y ?_
   repeat'(refine Z5 Y Y (ZG _) ?_)
   refine Zb5 Y Y (wk4 _ _ _ _ Y Y Y) (ihu _) ?_
   rintro v st' ⟨rfl,v2,rfl⟩
   rw[ZnN hA1 hle,hpp,<- htx2]
   repeat'(first|refine ruS Y ?_|refine isS Y ?_|refine rkS Y ?_|(refine cm0 Y Y Y ?_ ?_<;>intro _<;>try omega)|refine ZL Y Y (by omega) ?_)
   exact⟨(i+1,_,v2),⟨rfl,rfl⟩,by simp only;omega,by simp only;omega⟩
  ·have hi':i=l.length:=by omega
   subst hi'
   rw[List.take_length]at *
   refine⟨_,_,ZO hA1 (.inr Y) Y Y Y Y Y,rfl,ver,?_⟩;exact hs1.symm
structure KRef(st:St)(lv ix ver:Nat)(ks:List Kid):Prop where
 ex:∃es,st.get lv ix=some (.arr 4 ver es)/\es.take ks.length=ks.map Kid.av
theorem KRef.push{L:List Blk}(hA:A=st.A++[(st.ro,st.L)]){lv:Nat}{ks:List Kid}(h:KRef st lv ix ver ks):KRef ⟨A,ro,L⟩ lv ix ver ks:=by
 obtain⟨es,h1,h2⟩:=h;exact⟨es,ZS hA h1,h2⟩
theorem ZGK{ks:List Kid}(h:es.take ks.length=ks.map Kid.av){k:Kid}(hk:ks[i]?=some k):es[0+((i:Nat):Int).toNat]?=some k.av:=by
 have hlt:i<ks.length:=(List.getElem?_eq_some_iff.1 hk).1
 have h1:(es.take ks.length)[i]?=some k.av:=by rw[h,jG,hk];rfl
 rw[List.getElem?_take,if_pos hlt]at h1
 rw[show 0+((i:Nat):Int).toNat=i by omega];exact h1
def ndR(h:Nat)(lv ix ver n:Nat):AV:=.agg [.int .i64 h,.str [],.ref lv ix ver 0 n]
theorem ZpY(n:Nat)(hn:n<=15)(ks:List Kid)(hk:2<=ks.length/\ks.length<=4)(hs:∀k∈ks,KidOk n k)(st:St){lv:Nat}(hr:KRef st lv ix ver ks):S Tb Xx [ndR (n+1) lv ix ver ks.length] st=some (.bool true,st):=by
 refine Zj Y (fun A hA=>?_)
 obtain⟨es,g,ge⟩:=hr
 have gA:=fun L=>ZS hA (ro:=false) (L:=L) g
 have hwi:∀L,wIs 4 ver (St.get ⟨A,false,L⟩ lv ix)=true:=fun L=>by rw[gA];simp[wIs]
 unfold ndR
 repeat'(first|refine ruS Y ?_|refine isS Y ?_|refine ZB Y Y Y Y ?_|refine ZX ?_|refine Zp Y ?_|(refine cm0 Y Y Y ?_ ?_<;>intro _<;>try omega)|(refine ZCM Y Y (fun _=>?_) (fun _=>?_)<;>try contradiction)|refine QC Y Y (by omega) ?_|refine ZJ Y Y Y ?_|refine ZA Y Y Y (ZnD n _ (by omega) (by omega) _) ?_)
 refine Zc (α:=Nat × List Blk) (fun p=>[(3,.int .i64 (leastB n)),(4,.int .i64 (mostB n)),(59,.ref lv ix ver 0 ks.length),(60,.int .i64 ks.length),(61,.int .i64 p.1)]) (fun p=>⟨A,false,p.2⟩) (fun p=>p.1<=ks.length) (fun p=>ks.length-p.1) (0,[.arr 3 0 [.agg [.int .i64 ↑(n+1),.str [],.ref lv ix ver 0 ks.length]]]) Y Y (by simp) ?_
 rintro⟨i,G⟩ hi
 simp only at hi ⊢
 repeat'(first|refine ruS Y ?_|refine isS Y ?_|refine rkS Y ?_|(refine cm0 Y Y Y ?_ ?_<;>intro _<;>try omega))
 ·rename_i hlt
  obtain⟨k,hk'⟩:∃k,ks[i]?=some k:=⟨ks[i]'(by omega),by simp[show i<ks.length by omega]⟩
  obtain⟨a1,b1,c1,d1,e1,f1,g1⟩:=hs k (jM hk')
  refine JA Y Y (by omega) (hwi _) ?_
  refine Z1 (x:=k.av) Y (gA _) (ZGK ge hk') Y ?_
  repeat'(first|refine ruS Y ?_|refine isS Y ?_|refine rkS Y ?_|refine Z5 Y Y Y ?_|(refine cm0 Y Y Y ?_ ?_<;>intro _<;>try omega)|refine ZL Y Y (by omega) ?_|refine Za Y Y Y ?_|refine J5 Y Y Y Y Y Y ?_|refine ZA Y Y Y (Zix k.at_ a1 _) ?_)
  exact⟨(i+1,_),⟨rfl,rfl⟩,by simp only;omega,by simp only;omega⟩
 ·refine ZO hA (by simp) Y Y Y Y ?_
  rfl
theorem ZwH(n:Nat)(ks:List Kid)(hk:ks.length<=4)(hs:∀k∈ks,k.m.Fit 65536)(st:St){lv:Nat}(hr:KRef st lv ix ver ks):S Tb ZBJ [ndR (n+1) lv ix ver ks.length] st=some ((QX (ks.map Kid.m)).av,st):=by
 refine Zj Y (fun A hA=>?_)
 obtain⟨es,g,ge⟩:=hr
 have gA:=fun L=>ZS hA (ro:=false) (L:=L) g
 have hwi:∀L,wIs 4 ver (St.get ⟨A,false,L⟩ lv ix)=true:=fun L=>by rw[gA];simp[wIs]
 unfold ndR
 repeat'(first|refine ruS Y ?_|refine isS Y ?_|refine ZB Y Y Y Y ?_|refine ZX ?_|refine Zp Y ?_|(refine cm0 Y Y Y ?_ ?_<;>intro _<;>try omega)|refine ZJ Y Y Y ?_|refine QN Y ?_)
 refine Zc (α:=Nat × List Blk) (fun p=>[(2,.ptr A.length 1 0 0 0),(3,.ref A.length 2 p.1 0 p.1),(13,.ref lv ix ver 0 ks.length),(14,.int .i64 ks.length),(15,.int .i64 p.1)]) (fun p=>⟨A,false,.arr 3 0 [.agg [.int .i64 ↑(n+1),.str [],.ref lv ix ver 0 ks.length]]::.arr 3 0 [.agg [.int .i64 0,.int .i64 0,.int .i64 0]]::.arr 3 p.1 ((ks.take p.1).map fun k=>k.m.av)::p.2⟩) (fun p=>p.1<=ks.length) (fun p=>ks.length-p.1) (0,[]) Y Y (by simp) ?_
 rintro⟨i,G⟩ hi
 simp only at hi ⊢
 repeat'(first|refine ruS Y ?_|refine isS Y ?_|refine rkS Y ?_|(refine cm0 Y Y Y ?_ ?_<;>intro _<;>try omega))
 ·rename_i hlt
  obtain⟨k,hk'⟩:∃k,ks[i]?=some k:=⟨ks[i]'(by omega),by simp[show i<ks.length by omega]⟩
  refine JA Y Y (by omega) (hwi _) ?_
  refine Z1 (x:=k.av) Y (gA _) (ZGK ge hk') Y ?_
  repeat'(first|refine Qp ?_|refine isS Y ?_|refine rkS Y ?_|refine Z5 Y Y Y ?_|refine ZL Y Y (by omega) ?_|refine Za Y Y Y ?_|refine J5 Y Y Y Y Y Y ?_|refine Zz Y Y Y Y ?_|refine ZDI Y Y Y (by first|rfl|(simp;done)|(simp;omega)) (by first|omega|(simp<;>omega)) (by decide) rfl rfl ?_)
  refine⟨(i+1,G++[.arr 4 0 [k.av]]),⟨rfl,?_⟩,by simp only;omega,by simp only;omega⟩
  rw[ZU hk',List.map_append];rfl
 ·have hi':ks.take i=ks:=List.take_of_length_le (by omega)
  refine ZA Y Y Y (Zws (ks.map Kid.m) (by simpa using hk) (by intro m hm;obtain⟨k,hk1,rfl⟩:=List.mem_map.1 hm;exact hs k hk1) _ A.length 2 i i (by simp;omega) (by rw[St.get_cur,hi',List.map_map];rfl)) ?_
  rw[show (QX (ks.map Kid.m)).av=.agg [.int .i64 (QX (ks.map Kid.m)).b,.int .i64 (QX (ks.map Kid.m)).r,.int .i64 (QX (ks.map Kid.m)).l] from rfl]
  repeat'(first|refine Yj Y ?_|refine rkS Y ?_|refine Q1 Y Y Y Y Y Y ?_|refine Jq ?_)
  refine JL hA (by simp) Y Y Y Y Y ?_
  rfl
theorem ZpZ(n:Nat)(hn:n<=15)(ks:List Kid)(hk:2<=ks.length/\ks.length<=4)(hs:∀k∈ks,KidOk n k)(hsum:(QX (ks.map Kid.m)).b<=65536)(st:St){lv:Nat}(hr:KRef st lv ix ver ks):S Tb ZAi [ndR (n+1) lv ix ver ks.length] st=some (.int .i64 0,st):=by
 refine Zj Y (fun A hA=>?_)
 have hf:=fun L=>ZpY n hn ks hk hs _ (hr.push hA (ro:=false) (L:=L))
 have hS:=fun L=>ZwH n ks hk.2 (fun k hk=>(hs k hk).fit) _ (hr.push hA (ro:=false) (L:=L))
 unfold Mea.av ndR at *
 repeat'(first|refine ruS Y ?_|refine isS Y ?_|refine ZB Y Y Y Y ?_|refine rkS Y ?_|refine ZOM (agg:=false) Y Y ?_|(refine cm0 Y Y Y ?_ ?_<;>intro _<;>try omega)|refine ZJ Y Y Y ?_|refine ZA Y Y Y (hf _) ?_|refine ZA Y Y Y (hS _) ?_)
 refine ZO hA (by simp) Y Y Y Y ?_
 rfl
structure AR where
 blk:List Int
 n:Nat
 ver:Nat
 states:List Int
 gens:List Int
 most:Int
 nodes:ZF
 slots:Int
 allocs:Int
 frees:Int
 stale:Int
namespace AR
def b0(r:AR):Blk:=.arr 1 0 (r.states.map (.int .u8))
def b1(r:AR):Blk:=.arr 1 r.ver (r.blk.map (.int .i64))
def b2(r:AR):Blk:=.arr 1 0 (r.gens.map (.int .u64))
def b3(r:AR)(lv b:Nat):Blk:=.arr 4 0 [.agg [.ref lv (b+1) r.ver 0 r.n,.ref lv b 0 0 r.states.length,.ref lv (b+2) 0 0 r.gens.length,.int .u64 r.most]]
def b4(r:AR):Blk:=.map (r.nodes.map nodeAV)
def b5(r:AR)(lv b:Nat):Blk:=.arr 6 0 [.agg [.int .i64 r.slots,.ptr lv (b+3) 0 0 0,.map lv (b+4),.int .i64 r.allocs,.int .i64 r.frees,.int .i64 r.stale]]
end AR
structure Has(st:St)(lv b:Nat)(r:AR):Prop where
 wr:st.wr lv
 h0:st.get lv b=some r.b0
 h1:st.get lv (b+1)=some r.b1
 h2:st.get lv (b+2)=some r.b2
 h3:st.get lv (b+3)=some (r.b3 lv b)
 h4:st.get lv (b+4)=some r.b4
 h5:st.get lv (b+5)=some (r.b5 lv b)
theorem Has.rd{lv:Nat}{r:AR}(h:Has st lv b r):Rd st lv (b+5) r.nodes:=⟨_,_,_,_,_,_,h.h5,h.h4⟩
theorem Zff{T:Tab}{f:FuncId}{body:PC}{res:List RV}{args:LV}{st2:St}(hT:T f=some (.pf ⟨false,body,res⟩))
 (h:∀A,A=st.A++[(st.ro,st.L)]->Ru (S T) body [] (fun x e st'=>Jp false res (x,e,st')=some (v,st2)) (YK 0 args) ⟨A,false,[]⟩):S T f args st=some (v,st2):=by
 obtain⟨⟨x,e',st',h1,h2⟩⟩:=h _ rfl;refine Zqr hT ?_;simp only[Jh,jB,if_false,St.push,h1,Option.bind_some];exact h2
def AR.take(r:AR)(s:Nat):AR:={ r with n:=r.n-1,states:=r.states.set s 1 }
def Qr(st:St)(lv b:Nat)(r:AR)(s:Nat):St:=(st.upd lv (b+3) ((r.take s).b3 lv b)).upd lv b (r.take s).b0
theorem ZFD{lv:Nat}{r:AR}(h:Has st lv b r)(s:Nat)(l' i':Nat):(Qr st lv b r s).get l' i'=if l'=lv/\i'=b then some (r.take s).b0 else if l'=lv/\i'=b+3 then some ((r.take s).b3 lv b) else st.get l' i':=by
 have g1:∀l' i',(st.upd lv (b+3) ((r.take s).b3 lv b)).get l' i'=if l'=lv/\i'=b+3 then some ((r.take s).b3 lv b) else st.get l' i':=fun l' i'=>St.get_upd h.h3 rfl
 have b1:(st.upd lv (b+3) ((r.take s).b3 lv b)).get lv b=some r.b0:=by rw[g1,if_neg (by omega)];exact h.h0
 rw[Qr,St.get_upd b1 rfl,g1]
theorem Has.take{lv:Nat}{r:AR}(h:Has st lv b r)(s:Nat):Has (Qr st lv b r s) lv b (r.take s):=by
 refine⟨St.wr_upd (St.wr_upd h.wr h.wr) (St.wr_upd h.wr h.wr),?_,?_,?_,?_,?_,?_⟩
 ·rw[ZFD h,if_pos ⟨rfl,rfl⟩]
 ·rw[ZFD h,if_neg (by omega),if_neg (by omega)];exact h.h1
 ·rw[ZFD h,if_neg (by omega),if_neg (by omega)];exact h.h2
 ·rw[ZFD h,if_neg (by omega),if_pos ⟨rfl,rfl⟩]
 ·rw[ZFD h,if_neg (by omega),if_neg (by omega)];exact h.h4
 ·rw[ZFD h,if_neg (by omega),if_neg (by omega)];exact h.h5
theorem Ztw{lv:Nat}{r:AR}(h:Has st lv b r){s:Nat}(hn:r.n=k+1)(hk:r.blk[k]?=some (s:Int))(hs:s<r.states.length)(hs2:s<16384)(hg:r.gens[s]?=some (g:Int))(hg1:1<=g/\g<=4294967295)(hbig:r.n<65536):
 S Tb XU [.ptr lv (b+3) 0 0 0] st=some (.tup [.int .u64 ((g*65536+s:Nat):Int),.int .i64 0],Qr st lv b r s):=by
 refine Zff Y (fun A hA=>?_)
 have g1:=fun L=>ZS hA (ro:=false) (L:=L) h.h1
 have g3:=fun L=>ZS hA (ro:=false) (L:=L) h.h3
 unfold AR.b1 at g1;unfold AR.b3 at g3;rw[hn]at g3
 have hM:=fun st=>ZwA s g hs2 hg1 st
 repeat'(first|refine ruS Y ?_|refine isS Y ?_|refine ZX ?_|refine Zp Y ?_|(refine cm0 Y Y Y ?_ ?_<;>intro _<;>try omega)|refine QC Y Y (by omega) ?_|refine QD Y Y Y Y ?_|refine Z1 Y (g3 _) Y Y ?_)
 all_goals try omega
 have hw1:∀L,wIs 1 r.ver (St.get ⟨A,false,L⟩ lv (b+1))=true:=fun L=>by rw[g1];simp[wIs]
 refine JA Y Y (by omega) (hw1 _) ?_
 refine Z1 (x:=.int .i64 s) Y (g1 _) (by rw[show 0+(((k+1:Nat):Int)-1).toNat=k by omega,jG,hk];rfl) rfl ?_
 repeat'(first|refine ruS Y ?_|refine isS Y ?_|refine ZX ?_|refine Zp Y ?_|refine QC Y Y (by omega) ?_|refine Z1 Y (g3 _) Y Y ?_)
 refine ZAF Y Y (by omega) (hw1 _) ?_
 repeat'(refine isS Y ?_)
 have hle:=St.get_le h.h3;have h3':=h.h3;unfold AR.b3 at h3';rw[hn]at h3'
 refine ZOP hA Y Y h.wr h3' Y (Qv _ (Nat.lt_succ_self _)) Y (fun A1 hA1=>?_)
 have e1:(((k+1:Nat):Int)-1).toNat=k:=by omega
 have eB:Blk.arr 4 0 ([AV.agg [.ref lv (b+1) r.ver 0 (k+1),.ref lv b 0 0 r.states.length,.ref lv (b+2) 0 0 r.gens.length,.int .u64 r.most]].set 0 (.agg [.ref lv (b+1) r.ver 0 (((k+1:Nat):Int)-1).toNat,.ref lv b 0 0 r.states.length,.ref lv (b+2) 0 0 r.gens.length,.int .u64 r.most]))=(r.take s).b3 lv b:=by
  simp[AR.b3,AR.take,hn]
 rw[eB]at hA1
 have q1:∀l' i',(st.upd lv (b+3) ((r.take s).b3 lv b)).get l' i'=if l'=lv/\i'=b+3 then some ((r.take s).b3 lv b) else st.get l' i':=fun l' i'=>St.get_upd h.h3 rfl
 have hw:=St.wr_upd (b:=(r.take s).b3 lv b) (ix:=b+3) h.wr h.wr
 have k0:(st.upd lv (b+3) ((r.take s).b3 lv b)).get lv b=some r.b0:=by rw[q1,if_neg (by omega)];exact h.h0
 have k2:(st.upd lv (b+3) ((r.take s).b3 lv b)).get lv (b+2)=some r.b2:=by rw[q1,if_neg (by omega)];exact h.h2
 have k3:(st.upd lv (b+3) ((r.take s).b3 lv b)).get lv (b+3)=some ((r.take s).b3 lv b):=by rw[q1,if_pos ⟨rfl,rfl⟩]
 have et:Qr st lv b r s=(st.upd lv (b+3) ((r.take s).b3 lv b)).upd lv b (r.take s).b0:=rfl;rw[et]
 generalize st.upd lv (b+3) ((r.take s).b3 lv b)=st1 at *
 unfold AR.b0 at k0;unfold AR.b3 AR.take at k3;simp only[List.length_set]at k3
 have m0:=fun L=>ZS hA1 (ro:=false) (L:=L) k0
 have m3:=fun L=>ZS hA1 (ro:=false) (L:=L) k3
 have hw0:∀L,wIs 1 0 (St.get ⟨A1,false,L⟩ lv b)=true:=fun L=>by rw[m0];simp[wIs]
 repeat'(first|refine ruS Y ?_|refine isS Y ?_|refine ZX ?_|refine Z1 Y (m3 _) Y Y ?_|refine JA Y Y (by omega) (hw0 _) ?_)
 refine ZOP hA1 (y:=.int .u8 (r.states[s]'hs)) Y Y hw k0 ?_ Y Y (fun A2 hA2=>?_)
 ·rw[show 0+((s:Nat):Int).toNat=s by omega,jG,jE hs];rfl
 have eS:Blk.arr 1 0 ((r.states.map (AV.int .u8)).set (0+((s:Nat):Int).toNat) (.int .u8 1))=(r.take s).b0:=by
  rw[show 0+((s:Nat):Int).toNat=s by omega]
  unfold AR.b0 AR.take;simp only[List.map_set]
 rw[eS]at hA2
 have q2:∀l' i',(st1.upd lv b (r.take s).b0).get l' i'=if l'=lv/\i'=b then some (r.take s).b0 else st1.get l' i':=fun l' i'=>St.get_upd k0 rfl
 have n2:(st1.upd lv b (r.take s).b0).get lv (b+2)=some r.b2:=by rw[q2,if_neg (by omega)];exact k2
 have n3:(st1.upd lv b (r.take s).b0).get lv (b+3)=some (.arr 4 0 [.agg [.ref lv (b+1) r.ver 0 (r.n-1),.ref lv b 0 0 r.states.length,.ref lv (b+2) 0 0 r.gens.length,.int .u64 r.most]]):=by rw[q2,if_neg (by omega)];exact k3
 generalize st1.upd lv b (r.take s).b0=st2 at *
 unfold AR.b2 at n2
 have o2:=fun L=>ZS hA2 (ro:=false) (L:=L) n2
 have o3:=fun L=>ZS hA2 (ro:=false) (L:=L) n3
 have hw2:∀L,wIs 1 0 (St.get ⟨A2,false,L⟩ lv (b+2))=true:=fun L=>by rw[o2];simp[wIs]
 have hsg:s<r.gens.length:=(List.getElem?_eq_some_iff.1 hg).1
 repeat'(first|refine ruS Y ?_|refine isS Y ?_|refine ZX ?_|refine Z1 Y (o3 _) Y Y ?_|refine JA Y Y (by omega) (hw2 _) ?_)
 refine Z1 (x:=.int .u64 g) Y (o2 _) (by rw[show 0+((s:Nat):Int).toNat=s by omega,jG,hg];rfl) rfl ?_
 repeat'(first|refine isS Y ?_|refine rkS Y ?_|refine ZA Y Y Y (hM _) ?_|refine Jq ?_)
 refine ZO hA2 (.inr Y) Y Y Y Y ?_;rfl
def ZAZ{α:Type}(l:List α)(g:Int)(i:Nat):List α:=(l.drop (ZAb l.length g i).toNat).take (Ju l.length g i).toNat
def X2(row:List Tr):List Tr:=(List.range (ZW row.length 4).toNat).map fun i=>grp (ZAZ row (ZW row.length 4) i)
def Yb:Nat->List Tr->List Tr
 | 0,row=>row
 | n+1,row=>if row.length<=1 then row else Yb n (X2 row)
noncomputable def Xt(s:B8):Tr:=grp (Yb s.length ((JC s).map Qk))
theorem ZnO(s:B8)(g:Int)(i:Nat):ZKz s g i=ZAZ s g i:=rfl
theorem Zfg{α:Type}(l:List α){g:Int}(hg:1<=g):∀k:Nat,k<=g.toNat->((List.range k).map (ZAZ l g)).flatten=l.take (ZAb l.length g k).toNat
 | 0,_=>by rw[ZC0 l.length g (by omega)];simp
 | k+1,h=>by
  rw[List.range_succ,List.map_append,List.flatten_append,Zfg l hg k (by omega),ZBN]
  have h1:=XY (n:=l.length) (g:=g) (by omega) (by omega) (i:=k) (by omega)
  have h2:=Ys (n:=l.length) (g:=g) (by omega) (by omega) k
  simp only[jC,List.map_nil,List.flatten_cons,List.flatten_nil,List.append_nil,ZAZ];rw[Int.toNat_add h1.1 h2,List.take_add]
theorem Zi8{α:Type}(l:List α){g:Int}(hg:1<=g):((List.range g.toNat).map (ZAZ l g)).flatten=l:=by
 rw[Zfg l hg g.toNat (Nat.le_refl _),ZnI l.length g (by omega)]
 simp
theorem ZQu{α:Type}(l:List α){g:Int}(hg:1<=g)(hi:i<g.toNat):((ZAZ l g i).length:Int)=Ju l.length g i:=by
 have h1:=XY (n:=l.length) (g:=g) (by omega) (by omega) (i:=i+1) (by omega)
 have h0:=XY (n:=l.length) (g:=g) (by omega) (by omega) (i:=i) (by omega)
 have h2:=Ys (n:=l.length) (g:=g) (by omega) (by omega) i
 rw[ZBN]at h1;rw[ZAZ,List.length_take,List.length_drop];omega
theorem ZQv{n m:Int}(hm:1<=m)(hn:1<=n):Ju n (ZW n m) i<=m/\n / ZW n m<=Ju n (ZW n m) i:=by
 have hg:=Jv hn hm;have e1:ZW n m*(n / ZW n m)+n % ZW n m=n:=Int.mul_ediv_add_emod n (ZW n m)
 have e2:=Int.emod_nonneg n (show ZW n m≠0 by omega)
 have e3:n<=m*ZW n m:=by
  have a1:m*((n-1) / m)+(n-1) % m=n-1:=Int.mul_ediv_add_emod (n-1) m
  have a2:=Int.emod_lt_of_pos (n-1) (show 0<m by omega)
  unfold ZW;rw[Int.mul_add];omega
 refine⟨?_,by unfold Ju;split<;>omega⟩
 have e4:n / ZW n m<=m:=by
  apply Int.ediv_le_of_le_mul (by omega)
  exact e3
 unfold Ju
 split
 ·rename_i h
  rcases Int.lt_or_le (n / ZW n m) m with q|q
  ·omega
  ·have:n / ZW n m=m:=by omega
   rw[this]at e1
   have:ZW n m*m=m*ZW n m:=Int.mul_comm _ _
   omega
 ·omega
structure Row(N:ZF)(row:List Tr)(h:Nat)(s:B8):Prop where
 val:∀t∈row,Val N t/\t.h=h
 big:2<=row.length->∀t∈row,Big t
 txt:Tr.txtL N row=s
theorem Zre(N:ZF)(ls:List (List Tr))(h:∀l∈ls,2<=l.length):Tr.txtL N (ls.map grp)=Tr.txtL N ls.flatten:=by
 induction ls with
 | nil=>rfl
 | cons a r ih =>
  rw[jC,Tr.txtL,List.flatten_cons,Tr.txtL_append,ZK3 N (h a (by simp)),ih (fun l hl=>h l (by simp[hl]))]
theorem Zfh{N:ZF}{row:List Tr}{h:Nat}(hr:Row N row h s)(h2:2<=row.length)(hh:h+1<=16):Row N (X2 row) (h+1) s/\(X2 row).length<row.length/\1<=(X2 row).length:=by
 have hg:=Jv (n:=row.length) (most:=4) (by omega) (by omega)
 have hg4:ZW row.length 4=((row.length:Int)-1) / 4+1:=rfl
 have hlen:(X2 row).length=(ZW row.length 4).toNat:=by unfold X2;simp
 have hsz:∀i,i<(ZW row.length 4).toNat->2<=(ZAZ row (ZW row.length 4) i).length/\(ZAZ row (ZW row.length 4) i).length<=4:=by
  intro i hi;have h1:=ZQu row hg.1 hi
  have h3:=ZQv (n:=row.length) (m:=4) (by omega) (by omega) (i:=i)
  have h4:2<=(row.length:Int) / ZW row.length 4:=by
   apply (Int.le_ediv_iff_mul_le (by omega)).2
   omega
  omega
 refine⟨⟨?_,?_,?_⟩,by omega,by omega⟩
 ·intro t ht
  unfold X2 at ht;obtain⟨i,hi,rfl⟩:=List.mem_map.1 ht;rw[List.mem_range]at hi;obtain⟨a,b⟩:=hsz i hi
  obtain⟨g1,g2,g3⟩:=ZCp (N:=N) (h:=h) a b hh (fun u hu=>by
   have hm:u∈row:=List.mem_of_mem_drop (List.mem_of_mem_take hu)
   exact⟨(hr.val u hm).1,(hr.val u hm).2,hr.big h2 u hm⟩)
  exact⟨g1,g2⟩
 ·intro _ t ht
  unfold X2 at ht;obtain⟨i,hi,rfl⟩:=List.mem_map.1 ht;rw[List.mem_range]at hi;obtain⟨a,b⟩:=hsz i hi;rw[ZRB a];intro q;simp[Tr.h]at q
 ·have e:X2 row=((List.range (ZW row.length 4).toNat).map (ZAZ row (ZW row.length 4))).map grp:=by unfold X2;rw[List.map_map];rfl
  rw[e,Zre N _ (fun l hl=>by
   obtain⟨i,hi,rfl⟩:=List.mem_map.1 hl;rw[List.mem_range]at hi
   exact (hsz i hi).1),Zi8 row hg.1,hr.txt]
theorem ZRE{N:ZF}(hN:GoodN N):∀(n:Nat) (row:List Tr) (h:Nat) (s:B8),Row N row h s->row.length<=n+1->s.length<=65536->∃h',Row N (Yb n row) h' s/\(Yb n row).length<=1/\(1<=row.length->1<=(Yb n row).length)
 | 0,row,h,s,hr,hl,hs=>⟨h,hr,by rw[Yb];omega,fun q=>q⟩
 | n+1,row,h,s,hr,hl,hs=>by
  rw[Yb]
  split
  ·exact⟨h,hr,by assumption,fun q=>q⟩
  ·rename_i h2
   have hh:h+1<=16:=by
    match row,h2,hr with
    | t::r,h2,hr =>
     have h1:=(hr.val t (by simp))
     have h3:=ZK2 hN h1.1
     have h4:(t.txt N).length<=s.length:=by rw[<- hr.txt,Tr.txtL,List.length_append];omega
     have:=h1.1.height hN (by omega)
     omega
    | [],h2,_=>simp at h2
   obtain⟨a,b,c⟩:=Zfh hr (by omega) hh
   obtain⟨h',d,e,f⟩:=ZRE hN n (X2 row) (h+1) s a (by omega) hs
   exact⟨h',d,e,fun _=>f c⟩
theorem ZK8{N:ZF}(s:B8):Row N ((JC s).map Qk) 0 s/\((JC s).map Qk).length<=s.length/\(s≠[]->1<=((JC s).map Qk).length):=by
 unfold JC
 split
 ·rename_i h
  have:s=[]:=List.length_eq_zero_iff.1 h
  subst this
  exact⟨⟨fun t ht=>by simp at ht,fun h=>by simp at h,rfl⟩,by simp,fun q=>absurd rfl q⟩
 ·rename_i h
  have hg:=Jv (n:=s.length) (most:=16) (by omega) (by omega)
  have hsz:∀i,i<(ZW s.length 16).toNat->1<=(ZAZ s (ZW s.length 16) i).length/\(ZAZ s (ZW s.length 16) i).length<=16/\(2<=ZW s.length 16->8<=(ZAZ s (ZW s.length 16) i).length):=by
   intro i hi;have h1:=ZQu s hg.1 hi
   have h3:=ZQv (n:=s.length) (m:=16) (by omega) (by omega) (i:=i)
   have h4:1<=(s.length:Int) / ZW s.length 16:=by
    apply (Int.le_ediv_iff_mul_le (by omega)).2
    omega
   refine⟨by omega,by omega,fun h2=>?_⟩
   have hg4:ZW s.length 16=((s.length:Int)-1) / 16+1:=rfl
   have h5:8<=(s.length:Int) / ZW s.length 16:=by
    apply (Int.le_ediv_iff_mul_le (by omega)).2
    omega
   omega
  have hlen:(((List.range (ZW s.length 16).toNat).map (ZKz s (ZW s.length 16))).map Qk).length=(ZW s.length 16).toNat:=by simp
  refine⟨⟨?_,?_,?_⟩,by omega,fun _=>by omega⟩
  ·intro t ht
   obtain⟨c,hc,rfl⟩:=List.mem_map.1 ht;obtain⟨i,hi,rfl⟩:=List.mem_map.1 hc;rw[List.mem_range]at hi
   have:=hsz i hi
   exact⟨ZIK ⟨this.1,this.2.1⟩,rfl⟩
  ·intro h2 t ht
   obtain⟨c,hc,rfl⟩:=List.mem_map.1 ht;obtain⟨i,hi,rfl⟩:=List.mem_map.1 hc;rw[List.mem_range]at hi
   have:=(hsz i hi).2.2 (by omega)
   intro _;rw[XZ,ZnO];omega
  ·have hf : ∀l : List B8, Tr.txtL N (l.map Qk) = l.flatten := by
    intro l
    induction l with
    | nil=>rfl
    | cons a l ih=>rw[jC,Tr.txtL,ih,ZWq,List.flatten_cons]
   rw[hf];exact Zi8 s hg.1
theorem ZIL{N:ZF}(hN:GoodN N)(hs:s.length<=65536):VE N (Xt s)/\(Xt s).txt N=s/\(Xt s).bytes=s.length:=by
 obtain⟨a,b,c⟩:=ZK8 (N:=N) s
 obtain⟨h',d,e,f⟩:=ZRE hN s.length _ 0 s a (by omega) hs
 unfold Xt
 generalize Yb s.length ((JC s).map Qk)=row at *
 match row,e,d with
 | [],_,d =>
  have:s=[]:=d.txt.symm
  subst this;exact⟨.inl zero_empty,rfl,rfl⟩
 | [t],_,d =>
  have h1:=(d.val t (by simp)).1
  have h2:=d.txt;simp only[Tr.txtL,List.append_nil]at h2;refine⟨.inr h1,h2,?_⟩
  have:=ZK2 hN h1
  rw[h2]at this;exact this.symm
theorem ZYw{α:Type}(G:List α)(a:α)(r:List α):(G++a::r)[G.length]?=some a:=by
 rw[List.getElem?_append_right (Nat.le_refl _)];simp
theorem Zqa{α:Type}(G:List α)(a b:α)(r:List α):(G++a::b::r)[G.length+1]?=some b:=by
 rw[List.getElem?_append_right (by omega)];simp
theorem Zqb{α:Type}(G:List α)(a b c:α)(r:List α):(G++a::b::r).set (G.length+1) c=G++a::c::r:=by
 rw[List.set_append_right _ _ (by omega)];simp
theorem ZWu{k:List Fr}{L:List Blk}{keep:List Nat}{s:Opd}{l:List Tr}(hs:ZY e s=some (.ref A.length ix ver 0 n))(hx:ZY e x=some (.lit ([t].map Tr.av)))(hg:L[ix]?=some (Blk.arr 7 ver (l.map Tr.av)))(hb:n=l.length)
 (hl:l.length+1<4294967296) (h:Is O is keep k Q ((d,.ref A.length ix (ver+1) 0 (n+1))::e) ⟨A,false,L.set ix (Blk.arr 7 (ver+1) ((l++[t]).map Tr.av))⟩):Is O (⟨some d,none,false,.app 7 80 s x⟩::is) keep k Q e ⟨A,false,L⟩:=by
 subst hb
 refine ZBM hs hg Y hx (.lit _) (by simp;omega) ?_
 simpa using h
theorem ZnP{k:List Fr}{L:List Blk}{keep:List Nat}(h:Is O is keep k Q ((d,.ref A.length L.length 0 0 0)::e) ⟨A,false,L++[Blk.arr w 0 []]⟩):Is O (⟨some d,none,false,.onil w⟩::is) keep k Q e ⟨A,false,L⟩ :=
 Zq (v:=.ref A.length L.length 0 0 0) (st':=⟨A,false,L++[Blk.arr w 0 []]⟩) (by simp only[Zd,evalPO,Option.bind_some,St.new_cur,JO]) h
theorem Zrf{N:ZF}(hN:GoodN N){k:List Fr}(hs:s.length<=65536)(B:Blk)(row:List Tr)(n:Nat)(r:List Tr)(hrow:Row N row 0 s)(hn:row.length<=n+1)(h64:row.length<=65536)(hr:Yb n row=r)
 (hex:∀(G:List Blk) (ver:Nat),Rk (S Tb) k Q (.ex 2) [(2,.ptr A.length 0 0 0 0),(4,.ref A.length (B::G).length ver 0 r.length),(31,.bool false)] ⟨A,false,B::G++[.arr 7 ver (r.map Tr.av)]⟩) (ver:Nat) (ex:Env) :
 Ru (S Tb) (.loop ZLF) k Q ((2,.ptr A.length 0 0 0 0)::(4,.ref A.length 1 ver 0 row.length)::ex) ⟨A,false,[B,.arr 7 ver (row.map Tr.av)]⟩:=by
 refine Zc (α:=List Tr × List Blk × Nat × Env) (fun p=>(2,.ptr A.length 0 0 0 0)::(4,.ref A.length (B::p.2.1).length p.2.2.1 0 p.1.length)::p.2.2.2) (fun p=>⟨A,false,B::p.2.1++[.arr 7 p.2.2.1 (p.1.map Tr.av)]⟩)
  (fun p=>p.1.length<=65536/\∃k h,p.1.length<=k+1/\Row N p.1 h s/\Yb k p.1=r) (fun p=>p.1.length) (row,[],ver,ex) rfl rfl ⟨h64,n,0,hn,hrow,hr⟩ ?_
 rintro⟨row,G,ver,ex⟩ ⟨h64,kk,h,hk,hR,hb⟩
 simp only at h64 hk hR hb ⊢
 repeat'(first|refine ruS Y ?_|refine isS Y ?_|refine rkS Y ?_|refine Zp Y ?_|(refine cm0 Y Y Y ?_ ?_<;>intro _<;>try omega))
 ·rename_i hgt
  have hgt2:2<=row.length:=by omega
  obtain⟨kk,rfl⟩:∃j,kk=j+1:=⟨kk-1,by omega⟩
  rw[Yb,if_neg (by omega)]at hb
  have hh:h+1<=16:=by
   match row,hgt2,hR with
   | t::r,_,hR =>
    have h1:=(hR.val t (by simp))
    have h3:=ZK2 hN h1.1
    have h4:(t.txt N).length<=s.length:=by rw[<- hR.txt,Tr.txtL,List.length_append];omega
    have:=h1.1.height hN (by omega)
    omega
  obtain⟨u1,u2,u3⟩:=Zfh hR hgt2 hh
  refine ZA Y Y Y (ZwF row.length 4 _ (by omega)) ?_
  have hg:=Jv (n:=row.length) (most:=4) (by omega) (by omega)
  have hget:=fun i hi=>ZK0 (n:=row.length) (m:=4) (by omega) (i:=i) hi
  have hlen:=ZK1 (n:=row.length) (m:=4) (by omega)
  have hpb:=fun (i:Nat) hi=>XY (n:=row.length) (g:=ZW row.length 4) (by omega) (by omega) (i:=i) hi
  have hps:=ZBN row.length (ZW row.length 4)
  have hp0:=ZC0 row.length (ZW row.length 4) (by omega)
  have hsn:=Ys (n:=row.length) (g:=ZW row.length 4) (by omega) (by omega)
  have hrl:(X2 row).length=(ZW row.length 4).toNat:=by unfold X2;simp
  have hrg:∀i,i<(ZW row.length 4).toNat->(X2 row)[i]?=some (grp (ZAZ row (ZW row.length 4) i)):=by
   intro i hi;unfold X2;rw[jG,List.getElem?_range hi];rfl
  have hpl:=fun i hi=>ZQu row (g:=ZW row.length 4) hg.1 (i:=i) hi
  have hpe:∀i,ZAZ row (ZW row.length 4) i=(row.drop (ZAb row.length (ZW row.length 4) i).toNat).take (Ju row.length (ZW row.length 4) i).toNat:=fun _=>rfl
  generalize XA (row.length:Int) 4=z at *
  generalize ZW (row.length:Int) 4=g at *
  generalize X2 row=up at *
  have hh2:∀u∈row,u.h<=65536:=fun u hu=>by have:=(hR.val u hu).1.h16;omega
  repeat'(first|refine ruS Y ?_|refine isS Y ?_|refine ZX ?_|refine Zi Y ?_|(refine cm0 Y Y Y ?_ ?_<;>intro _<;>try omega)|refine ZnP ?_)
  all_goals try omega
  refine Zc (α:=Nat) (fun i=>[(2,.ptr A.length 0 0 0 0),(4,.ref A.length (B::G).length ver (ZAb row.length g i).toNat (row.length-(ZAb row.length g i).toNat)),(9,.ref A.length ((B::G).length+1) i 0 i),(42,ZGI z),(43,.int .i64 z.length),(44,.int .i64 i)])
   (fun i=>⟨A,false,B::G++[.arr 7 ver (row.map Tr.av),.arr 7 i ((up.take i).map Tr.av)]⟩) (fun i=>i<=z.length) (fun i=>z.length-i) 0 ?_ ?_ (Nat.zero_le _) ?_
  ·simp[hp0]
  ·simp
  intro i hi
  repeat'(first|refine ruS Y ?_|refine isS Y ?_|refine rkS Y ?_|refine Zk Y Y ?_|refine QY Y Y (by omega) (fun _=>rfl) (fun _ _=>?_)|(refine cm0 Y Y Y ?_ ?_<;>intro _<;>try omega))
  ·rename_i hlt x hx
   have hi2:i<g.toNat:=by omega
   have hx2:z[i]?=some x:=hx;rw[hget i hi2]at hx2;have hx3:=Option.some.inj hx2;subst hx3
   have hb0:=hpb i (by omega)
   have hb1:=hpb (i+1) (by omega)
   rw[hps i]at hb1;have hs0:=hsn i;have hpl2:=hpl i hi2;have hrg2:=hrg i hi2;have hpe2:=hpe i;have hps2:=hps i
   generalize ZAb (row.length:Int) g i=p at *
   generalize Ju (row.length:Int) g i=q at *
   generalize ZAZ row g i=part at *
   have hgetL:∀b:Blk,(B::G++[.arr 7 ver (row.map Tr.av),b])[(B::G).length]?=some (.arr 7 ver (row.map Tr.av)):=fun b=>ZYw _ _ _
   have hwi:wIs 7 ver (St.get ⟨A,false,B::G++[.arr 7 ver (row.map Tr.av),.arr 7 i ((up.take i).map Tr.av)]⟩ A.length (B::G).length)=true:=by
    rw[St.get_cur,hgetL];simp[vis,wIs]
   refine ZAF Y Y (by omega) hwi ?_
   have hSl:Sl ⟨A,false,B::G++[.arr 7 ver (row.map Tr.av),.arr 7 i ((up.take i).map Tr.av)]⟩ (.ref A.length (B::G).length ver p.toNat q.toNat) part:=by
    refine .ref (es:=row.map Tr.av) (by rw[St.get_cur,hgetL];rfl) (by omega) (by rw[List.length_map];omega) ?_
    rw[hpe2,<- List.map_drop,<- List.map_take]
   refine ZA Y Y Y (ZAA (by omega) (fun u hu=>hh2 u (by rw[hpe2]at hu;exact List.mem_of_mem_drop (List.mem_of_mem_take hu))) hSl) ?_
   have hti:(up.take i).length=i:=by rw[List.length_take];omega
   refine Y4 Y ?_
   refine ZWu Y Y (Zqa _ _ _ _) hti.symm (by omega) ?_
   rw[Zqb];have htk:=ZU hrg2;rw[<- htk]
   repeat'(first|refine Qp ?_|refine isS Y ?_|refine ZX ?_)
   have hwi2:wIs 7 ver (St.get ⟨A,false,B::G++[.arr 7 ver (row.map Tr.av),.arr 7 (i+1) ((up.take (i+1)).map Tr.av)]⟩ A.length (B::G).length)=true:=by
    rw[St.get_cur,hgetL];simp[vis,wIs]
   refine ZIh Y Y (by omega) hwi2 ?_
   repeat'(first|refine Qp ?_|refine isS Y ?_|refine rkS Y ?_|refine ZL Y Y (by omega) ?_)
   refine⟨i+1,⟨?_,rfl⟩,by omega,by omega⟩
   rw[show p.toNat+q.toNat=(p+q).toNat by omega,show row.length-p.toNat-q.toNat=row.length-(p+q).toNat by omega]
   simp only[hps2];rfl
  ·have hi2:i=up.length:=by omega
   subst hi2;rw[List.take_length]
   refine⟨(up,G++[.arr 7 ver (row.map Tr.av)],up.length,[]),⟨?_,?_⟩,⟨by simp only;omega,kk,h+1,by simp only;omega,u1,hb⟩,by simp only;omega⟩
   ·simp
   ·simp
 ·have hrr : Yb kk row = row := by
   cases kk with
   | zero=>rfl
   | succ j=>rw[Yb,if_pos (by omega)]
  rw[hrr]at hb;subst hb;exact hex G ver
theorem ZZW(s:B8):(JC s).length<=s.length:=by
 have:=(ZK8 (N:=[]) s).2.1
 simpa using this
theorem ZlP{N:ZF}(hN:GoodN N)(s:B8)(hs:s.length<=65536)(st:St):S Tb ZAg [.str s] st=some (.tup [(Xt s).av,.int .i64 0],st):=by
 refine Zj Y (fun A hA=>?_)
 have hcl:=ZZW s
 have hch:=fun st=>Ztp s st (by omega)
 obtain⟨ra,rb,rc⟩:=ZK8 (N:=N) s
 obtain⟨h',rd,re,rf⟩:=ZRE hN s.length _ 0 s ra (by omega) hs
 unfold Xt
 generalize hres:Yb s.length ((JC s).map Qk)=r at *
 have hG:=fun {v:AV} {st:St} (hv:Sl st v r)=>ZAA (by omega) (fun u hu=>by have:=(rd.val u hu).1.h16;omega) hv
 have hlen:((JC s).map Qk).length=(JC s).length:=by simp
 generalize hc:JC s=c at *
 unfold ZTR at hch
 repeat'(first|refine ruS Y ?_|refine isS Y ?_|refine ZX ?_|refine Qf Y ?_|refine Zi Y ?_|(refine cm0 Y Y Y ?_ ?_<;>intro _<;>try omega)|refine ZJ Y Y Y ?_|refine QN Y ?_|refine ZA Y Y (by first|rfl|(simp only[List.nil_append,List.append_nil,List.cons_append,ZH,ZC,ZE];first|done|rfl)) (hch _) ?_)
 all_goals try omega
 refine Zc (α:=Nat) (fun i=>[(2,.ptr A.length 0 0 0 0),(4,.ref A.length 1 i 0 i),(17,.lit (c.map .str)),(18,.int .i64 c.length),(19,.int .i64 i)])
  (fun i=>⟨A,false,[.arr 7 0 [trZ],.arr 7 i ((c.take i).map fun s=>(Qk s).av)]⟩) (fun i=>i<=c.length) (fun i=>c.length-i) 0 rfl rfl (by simp) ?_
 rintro i hi
 repeat'(first|refine ruS Y ?_|refine isS Y ?_|refine rkS Y ?_|refine Zk Y Y ?_|refine QY Y Y (by omega) (fun _=>rfl) (fun _ _=>?_)|(refine cm0 Y Y Y ?_ ?_<;>intro _<;>try omega)|refine ZL Y Y (by omega) ?_|refine ZZ Y Y Y ?_|refine Zz Y Y Y Y ?_|refine X5 Y Y Y (by first|rfl|(simp;done)|(simp;omega)) (by first|omega|(simp<;>omega)) (by decide) rfl rfl rfl ?_)
 ·rename_i x hx
  have hx2:c[i]?=some x:=hx
  refine⟨i+1,⟨rfl,?_⟩,by omega,by omega⟩
  simp only[ZU hx2,List.map_append,jC,List.map_nil];rfl
 ·have hi':i=c.length:=by omega
  subst hi';rw[List.take_length]
  have:=Zrf hN hs (A:=A) (.arr 7 0 [trZ]) (c.map Qk) s.length r ra (by omega) (by omega) hres (k:=[.blk 2,.seq (.seq ZLG .ret)]) (Q:=fun x e st'=>Jp false [.c 2 true 7,.s 3] (x,e,st')=some (.tup [(grp r).av,.int .i64 0],st)) (fun G ver=>?_) c.length [(17,.lit (c.map .str)),(18,.int .i64 c.length),(19,.int .i64 c.length),(20,.bool false)]
  ·rw[List.map_map,List.length_map]at this
   exact this
  ·repeat'(first|refine ruS Y ?_|refine isS Y ?_|refine rkS Y ?_|refine Q1 Y Y Y Y (Zn _ _ _) (Zx _ _) ?_|refine ZA Y Y (by first|rfl|(simp only[List.nil_append,List.append_nil,List.cons_append,ZH,ZC,ZE];first|done|rfl)) (hG (Sl.cur (ZYw _ _ _) rfl)) ?_)
   exact ZCn hA (.inr Y) Y Y Y Y
theorem ZnQ:∀ {N:ZF} {h:Nat} {x:Nd},lk N h=none->ZOA (.int .u64 h) x.av (N.map nodeAV)=some ((N++[(h,x)]).map nodeAV)
 | [],h,x,_=>rfl
 | p::N,h,x,hn=>by
  rw[lk]at hn
  by_cases q:p.1=h
  ·rw[if_pos q]at hn;simp at hn
  ·rw[if_neg q]at hn
   rw[jC,ZOA]
   show (Option.bind (if IntKind.u64=IntKind.u64 then some ((h:Int) == (p.1:Int)) else none) fun b=>if b=true then some ((AV.int .u64 h,x.av)::N.map nodeAV) else (ZOA (.int .u64 h) x.av (N.map nodeAV)).map (nodeAV p::·))=_
   rw[if_pos rfl,Option.bind_some,if_neg (by simp;omega),ZnQ hn]
   rfl
section
variable {O:Orc}{k:List Fr}{Q:Qn}{e:Env}{A:List (Bool × List Blk)}{L:List Blk}{keep:List Nat}{is:List PI}{d:Nat}
theorem ZnR{i v:Opd}{lv h:Nat}{w:AV}{es es':List (AV × AV)}(hA:A=st.A++[(st.ro,st.L)])(hx:ZY e x=some (.map lv ix))(hi:ZY e i=some (.int .u64 h))(hv:ZY e v=some w)(hw:st.wr lv)(hg:st.get lv ix=some (.map es))
 (hs:Zb QK (lv+1) ⟨A,false,L⟩ w=some (w,⟨A,false,L⟩)) (hp:ZOA (.int .u64 h) w es=some es')
 (hh:∀A',A'=(st.upd lv ix (.map es')).A++[((st.upd lv ix (.map es')).ro,(st.upd lv ix (.map es')).L)]->Is O is keep k Q e ⟨A',false,L⟩):Is O (⟨none,none,false,.mupd 0 x i v⟩::is) keep k Q e ⟨A,false,L⟩:=by
 have hl:=St.get_le hg;refine Zq (od:=none) (v:=.undef) (st':=St.upd ⟨A,false,L⟩ lv ix (.map es')) ?_ ?_
 ·simp only[Zd,evalPO,ZD hx,ZD hi,ZD hv,ZY4,XK,if_true,hs,Option.bind_some,ZcI,ZS hA hg,ZZZ,hp,St.put_upd (ZAe hA hl hw) (ZS hA hg),ZCI]
 ·rw[YU hA hl]
  exact hh _ Y
end
theorem ZwI{lv:Nat}{ks:List Kid}(hr:KRef st lv ix ver ks)(hl:ks.length<=4):S Tb Zu [.ref lv ix ver 0 ks.length] st=some (.lit (ks.map Kid.av),st):=by
 obtain⟨es,g,ge⟩:=hr;refine ZsN (o:=ZIe 4) Y ?_
 have hle:ks.length<=es.length:=by
  have:=congrArg List.length ge
  rw[List.length_take,List.length_map]at this;omega
 have him:(ks.map Kid.av).all (imm 6)=true:=by
  rw[List.all_eq_true];intro v hv;obtain⟨k,_,rfl⟩:=List.mem_map.1 hv;rfl
 simp only[ZIe,g,ZFG,true_and,Nat.zero_add,if_pos hle,List.drop_zero,Option.bind_some,ge,Ziz,List.length_map,show ks.length<=65536 by omega,him,and_self,if_true]
def AR.alloc(r:AR)(s g:Nat)(x:Nd):AR:={ r.take s with nodes:=r.nodes++[(g*65536+s,x.copy)],allocs:=r.allocs+1 }
def ZCq(st:St)(lv b:Nat)(r:AR)(s g:Nat)(x:Nd):St:=((Qr st lv b r s).upd lv (b+4) (r.alloc s g x).b4).upd lv (b+5) ((r.alloc s g x).b5 lv b)
theorem ZC2{lv:Nat}{r:AR}(h:Has st lv b r)(s g:Nat)(x:Nd)(l' i':Nat):(ZCq st lv b r s g x).get l' i'=if l'=lv/\i'=b+5 then some ((r.alloc s g x).b5 lv b) else if l'=lv/\i'=b+4 then some (r.alloc s g x).b4 else (Qr st lv b r s).get l' i':=by
 have ht:=h.take s
 have g1:∀l' i',((Qr st lv b r s).upd lv (b+4) (r.alloc s g x).b4).get l' i'=if l'=lv/\i'=b+4 then some (r.alloc s g x).b4 else (Qr st lv b r s).get l' i':=fun l' i'=>St.get_upd ht.h4 rfl
 have b1:((Qr st lv b r s).upd lv (b+4) (r.alloc s g x).b4).get lv (b+5)=some ((r.take s).b5 lv b):=by rw[g1,if_neg (by omega)];exact ht.h5
 rw[ZCq,St.get_upd b1 rfl,g1]
theorem Has.alloc{lv:Nat}{r:AR}(h:Has st lv b r)(s g:Nat)(x:Nd):Has (ZCq st lv b r s g x) lv b (r.alloc s g x):=by
 have ht:=h.take s;refine⟨St.wr_upd (St.wr_upd ht.wr ht.wr) (St.wr_upd ht.wr ht.wr),?_,?_,?_,?_,?_,?_⟩
 ·rw[ZC2 h,if_neg (by omega),if_neg (by omega)];exact ht.h0
 ·rw[ZC2 h,if_neg (by omega),if_neg (by omega)];exact ht.h1
 ·rw[ZC2 h,if_neg (by omega),if_neg (by omega)];exact ht.h2
 ·rw[ZC2 h,if_neg (by omega),if_neg (by omega)];exact ht.h3
 ·rw[ZC2 h,if_neg (by omega),if_pos ⟨rfl,rfl⟩]
 ·rw[ZC2 h,if_pos ⟨rfl,rfl⟩]
theorem Zi9{L:List Blk}(hA:A=st.A++[(st.ro,st.L)]){lv s:Nat}{r:AR}(hl:lv<=st.A.length):
 Qr ⟨A,ro,L⟩ lv b r s=⟨(Qr st lv b r s).A++[((Qr st lv b r s).ro,(Qr st lv b r s).L)],ro,L⟩:=by
 unfold Qr;rw[YU hA hl]
 exact YU Y (by rw[St.upd_A];exact hl)
theorem Ztx(st:St)(lv b s:Nat)(r:AR):(Qr st lv b r s).A.length=st.A.length:=by
 unfold Qr;rw[St.upd_A,St.upd_A]
structure CanTake(r:AR)(k s g:Nat):Prop where
 n:r.n=k+1
 blk:r.blk[k]?=some (s:Int)
 st:s<r.states.length
 s16:s<16384
 gen:r.gens[s]?=some (g:Int)
 g1:1<=g
 g2:g<=4294967295
 big:r.n<65536
 new:lk r.nodes (g*65536+s)=none
 al:0<=r.allocs/\r.allocs<1000000
theorem ZjA{lv:Nat}{r:AR}(h:Has st lv b r){s:Nat}(hc:CanTake r k s g)(x:Nd)(v:AV)(hone:v.one=true)
 (A:List (Bool × List Blk)) (G:List Blk) (hA:A=(Qr st lv b r s).A++[((Qr st lv b r s).ro,(Qr st lv b r s).L)]) (hC:∀L,S Tb Zu [weak v] ⟨A,false,L⟩=some (.lit (x.ks.map Kid.av),⟨A,false,L⟩)) :
 Ru (S Tb) (.seq ZAp (.seq ZAq (.seq ZAr (.seq ZAs .ret)))) [] (fun x' e st' =>
  Jp false [RV.s 4,RV.s 5] (x',e,st')=some (.tup [.int .u64 ((g*65536+s:Nat):Int),.int .i64 0],ZCq st lv b r s g x))
  [(0,.ptr lv (b+5) 0 0 0),(3,.ptr A.length 0 0 0 0),(13,.int .u64 ((g*65536+s:Nat):Int)),(14,.int .i64 0),(72,.bool false)] ⟨A,false,.arr 3 0 [.agg [.int .i64 x.h,.str x.text,v]]::G⟩:=by
 have ht:=h.take s
 have g5:=fun L=>ZS hA (ro:=false) (L:=L) ht.h5
 unfold AR.b5 at g5;have hal:=hc.al;have hpv:Jn (.agg [.int .i64 x.h,.str x.text,v]) false 2 1=some v:=rfl
 repeat'(first|refine ruS Y ?_|refine ZCN Y Y ?_|refine ZB Y Y Y Y ?_)
 refine ZA Y Y Y (hC _) ?_;have hstv:(Q7 3 (.agg [.int .i64 x.h,.str x.text,v]) 2 1 (.lit (x.ks.map Kid.av))).bind YS=some x.copy.av:=rfl
 repeat'(first|refine ruS Y ?_|refine isS Y ?_|refine ZB Y Y Y Y ?_|refine ZX ?_|refine Q1 Y Y Y Y Y Y ?_|refine Z1 Y (g5 _) Y Y ?_)
 have hp:=ZnQ (N:=r.nodes) (x:=x.copy) hc.new
 refine ZnR (w:=x.copy.av) hA Y Y Y ht.wr ht.h4 Y hp (fun A1 hA1=>?_)
 have eM:Blk.map ((r.nodes++[(g*65536+s,x.copy)]).map nodeAV)=(r.alloc s g x).b4:=rfl;rw[eM]at hA1
 have q1:∀l' i',((Qr st lv b r s).upd lv (b+4) (r.alloc s g x).b4).get l' i'=if l'=lv/\i'=b+4 then some (r.alloc s g x).b4 else (Qr st lv b r s).get l' i':=fun l' i'=>St.get_upd ht.h4 rfl
 have k5:((Qr st lv b r s).upd lv (b+4) (r.alloc s g x).b4).get lv (b+5)=some ((r.take s).b5 lv b):=by rw[q1,if_neg (by omega)];exact ht.h5
 have hw1:=St.wr_upd (b:=(r.alloc s g x).b4) (ix:=b+4) ht.wr ht.wr;have eA:ZCq st lv b r s g x=((Qr st lv b r s).upd lv (b+4) (r.alloc s g x).b4).upd lv (b+5) ((r.alloc s g x).b5 lv b):=rfl;rw[eA]
 generalize (Qr st lv b r s).upd lv (b+4) (r.alloc s g x).b4=st1 at *
 unfold AR.b5 at k5
 have m5:=fun L=>ZS hA1 (ro:=false) (L:=L) k5
 have hat:(r.take s).allocs=r.allocs:=rfl;rw[hat]at k5 m5
 repeat'(first|refine ruS Y ?_|refine isS Y ?_|refine ZX ?_|refine ZL Y Y (by omega) ?_|refine Z1 Y (m5 _) Y Y ?_)
 refine ZOP hA1 Y Y hw1 k5 Y Y Y (fun A2 hA2=>?_)
 have eB:Blk.arr 6 0 ([AV.agg [.int .i64 (r.take s).slots,.ptr lv (b+3) 0 0 0,.map lv (b+4),.int .i64 r.allocs,.int .i64 (r.take s).frees,.int .i64 (r.take s).stale]].set 0 (.agg [.int .i64 (r.take s).slots,.ptr lv (b+3) 0 0 0,.map lv (b+4),.int .i64 (r.allocs+1),.int .i64 (r.take s).frees,.int .i64 (r.take s).stale]))=(r.alloc s g x).b5 lv b:=rfl;rw[eB]at hA2
 repeat'(first|refine ruS Y ?_|refine isS Y ?_|refine rkS Y ?_)
 refine ZO hA2 (.inr Y) Y Y Y Y ?_;rfl
theorem Zpa{lv:Nat}{r:AR}(h:Has st lv b r){s:Nat}(hc:CanTake r k s g)(text:B8)(ht:Xn text):
 S Tb Jj [.ptr lv (b+5) 0 0 0,.agg [.int .i64 (0:Nat),.str text,.nils]] st=some (.tup [.int .u64 ((g*65536+s:Nat):Int),.int .i64 0],ZCq st lv b r s g ⟨0,text,none⟩):=by
 refine Zff Y (fun A hA=>?_)
 have hN:=fun st=>ZnG ⟨0,text,none⟩ (.inl ⟨rfl,ht.1,ht.2,rfl⟩) st
 simp only[Nd.av,slV]at hN
 have g5:=fun L=>ZS hA (ro:=false) (L:=L) h.h5
 unfold AR.b5 at g5
 repeat'(first|refine ruS Y ?_|refine isS Y ?_|refine ZB Y Y Y Y ?_|refine rkS Y ?_|refine QG Y ?_|(refine cm0 Y Y Y ?_ ?_<;>intro _<;>try omega)|refine QD Y Y Y Y ?_|refine ZJ Y Y Y ?_|refine ZA Y Y Y (hN _) ?_|refine Zr ?_|refine Z1 Y (g5 _) Y Y ?_)
 all_goals try omega
 have hle:=St.get_le h.h3
 have hTk:=fun L=>Ztw (st:=⟨A,false,L⟩) ⟨ZAe hA hle h.wr,ZS hA h.h0,ZS hA h.h1,ZS hA h.h2,ZS hA h.h3,ZS hA h.h4,ZS hA h.h5⟩ hc.n hc.blk hc.st hc.s16 hc.gen ⟨hc.g1,hc.g2⟩ hc.big
 refine ZA Y Y Y (hTk _) ?_;rw[Zi9 hA hle];obtain⟨A1,hA1⟩:∃A1,A1=(Qr st lv b r s).A++[((Qr st lv b r s).ro,(Qr st lv b r s).L)]:=⟨_,rfl⟩;rw[<- hA1]
 have hlen:A.length=A1.length:=by rw[hA,hA1,List.length_append,List.length_append,Ztx];rfl
 rw[hlen];refine ZDH Y ?_;refine ZdA Y Y ?_;refine ZdA Y Y ?_;refine ZDH Y ?_;refine ZDH Y ?_;refine Yj Y ?_;refine ZX ?_;refine Zc8 ?_;refine Zc8 ?_;refine Qp ?_;refine ZDH Y ?_
 refine ZV Y Y (fun q=>absurd Y q) (fun _=>?_)
 refine Yj Y ?_;refine ZX ?_;refine Zjp Y ?_;refine Zb3 ?_;refine ZX ?_
 have:=ZjA h hc ⟨0,text,none⟩ .nils rfl A1 [] hA1 (fun L=>ZwB _)
 exact this
section
variable {O:Orc}{k:List Fr}{Q:Qn}{e:Env}{A:List (Bool × List Blk)}{L:List Blk}{keep:List Nat}{is:List PI}{d:Nat}
theorem Zty{x:AV}(ha:ZY e a=some (.ptr A.length L.length ver i o))(hx:es[i]?=some x)(hv:Jn x agg o n=some v)
 (h:Is O is keep k Q ((d,v)::e) ⟨A,false,L++[Blk.arr w ver es]++[c]⟩):Is O (⟨some d,none,false,.ld agg n a⟩::is) keep k Q e ⟨A,false,L++[Blk.arr w ver es]++[c]⟩ :=
 ZB (w:=w) ha (by rw[List.append_assoc];exact ZYw L _ _) hx hv h
theorem ZxT{x:AV}{c2:Blk}(ha:ZY e a=some (.ptr A.length L.length ver i o))(hx:es[i]?=some x)(hv:Jn x agg o n=some v)
 (h:Is O is keep k Q ((d,v)::e) ⟨A,false,L++[Blk.arr w ver es]++[c]++[c2]⟩):Is O (⟨some d,none,false,.ld agg n a⟩::is) keep k Q e ⟨A,false,L++[Blk.arr w ver es]++[c]++[c2]⟩ :=
 ZB (w:=w) ha (by rw[List.append_assoc,List.append_assoc];exact ZYw L _ _) hx hv h
end
def ZIM(N:ZF)(n:Nat)(ks:List Kid):Prop:=∀k∈ks,∃y,lk N k.at_=some y/\NdOk y/\y.h=n/\y.mea=k.m
theorem Ztz{lv:Nat}{r:AR}(h:Has st lv b r){s:Nat}(hc:CanTake r k s g)(n:Nat)(hn:n<=15)(ks:List Kid)(hk:2<=ks.length/\ks.length<=4)(hs:∀k∈ks,KidOk n k)(hsum:(QX (ks.map Kid.m)).b<=65536)(hL:ZIM r.nodes n ks)
 {kl kx ver:Nat} (hr:KRef st kl kx ver ks) (hne:¬ (kl=lv/\(kx=b\/kx=b+3))) :
 S Tb Jj [.ptr lv (b+5) 0 0 0,ndR (n+1) kl kx ver ks.length] st=some (.tup [.int .u64 ((g*65536+s:Nat):Int),.int .i64 0],ZCq st lv b r s g ⟨n+1,[],some ks⟩):=by
 refine Zff Y (fun A hA=>?_)
 have hN:=fun L=>ZpZ n hn ks hk hs hsum _ (hr.push hA (ro:=false) (L:=L))
 have g5:=fun L=>ZS hA (ro:=false) (L:=L) h.h5
 have g4:=fun L=>ZS hA (ro:=false) (L:=L) h.h4
 unfold AR.b5 at g5;unfold AR.b4 at g4;obtain⟨es,gk,ge⟩:=hr
 have gA:=fun L=>ZS hA (ro:=false) (L:=L) gk
 have hwi:∀L,wIs 4 ver (St.get ⟨A,false,L⟩ kl kx)=true:=fun L=>by rw[gA];simp[wIs]
 unfold ndR at *
 repeat'(first|refine ruS Y ?_|refine isS Y ?_|refine ZB Y Y Y Y ?_|refine ZX ?_|refine Zp Y ?_|(refine cm0 Y Y Y ?_ ?_<;>intro _<;>try omega)|refine QD Y Y Y Y ?_|refine ZJ Y Y Y ?_|refine ZA Y Y Y (hN _) ?_)
 all_goals try omega
 have hle:=St.get_le h.h3
 refine Zc (α:=Nat × List Blk) (fun p=>[(0,.ptr lv (b+5) 0 0 0),(3,.ptr A.length 0 0 0 0),(23,.ref kl kx ver 0 ks.length),(24,.int .i64 ks.length),(25,.int .i64 p.1)]) (fun p=>⟨A,false,.arr 3 0 [.agg [.int .i64 ((n+1:Nat):Int),.str [],.ref kl kx ver 0 ks.length]]::p.2⟩) (fun p=>p.1<=ks.length) (fun p=>ks.length-p.1) (0,[]) Y Y (by simp) ?_
 rintro⟨i,G⟩ hi
 simp only at hi ⊢
 repeat'(first|refine ruS Y ?_|refine isS Y ?_|refine rkS Y ?_|(refine cm0 Y Y Y ?_ ?_<;>intro _<;>try omega))
 ·rename_i hlt
  obtain⟨kd,hk'⟩:∃k,ks[i]?=some k:=⟨ks[i]'(by omega),by simp[show i<ks.length by omega]⟩
  obtain⟨y,y1,y2,y3,y4⟩:=hL kd (jM hk')
  have hlk:=fun L z=>Ziy (g4 L) y1 z
  have hMe:=fun st=>ZfV y y2 st
  rw[y4]at hMe
  refine JA Y Y (by omega) (hwi _) ?_
  refine Z1 (x:=kd.av) Y (gA _) (ZGK ge hk') Y ?_;obtain⟨yh,yt,yk⟩:=y
  simp only at y3
  subst y3
  cases yk
  all_goals simp only[Nd.av,slV,Mea.av]at *
  all_goals repeat'(first|refine ruS Y ?_|refine isS Y ?_|refine ZB Y Y Y Y ?_|refine rkS Y ?_|refine Z5 Y Y Y ?_|(refine cm0 Y Y Y ?_ ?_<;>intro _<;>try omega)|refine ZL Y Y (by omega) ?_|refine QC Y Y (by omega) ?_|refine Za Y Y Y ?_|refine J5 Y Y Y Y Y Y ?_|refine Z1 Y (g5 _) Y Y ?_|refine ZF3 Y Y (hlk _ _) ?_|refine ZA Y Y Y (hMe _) ?_|refine Zty Y Y Y ?_|refine ZxT Y Y Y ?_|(refine ZIg Y Y (Ztj _ _ _ _ _ _) (fun _=>?_) (fun _=>?_)))
  all_goals try omega
  all_goals first|exact⟨(i+1,G++[_]++[_]++[_]),⟨rfl,rfl⟩,by simp only;omega,by simp only;omega⟩|exact absurd ⟨rfl,rfl,rfl⟩ ‹_›
 ·refine Z1 Y (g5 _) Y Y ?_
  have hTk:=fun L=>Ztw (st:=⟨A,false,L⟩) ⟨ZAe hA hle h.wr,ZS hA h.h0,ZS hA h.h1,ZS hA h.h2,ZS hA h.h3,ZS hA h.h4,ZS hA h.h5⟩ hc.n hc.blk hc.st hc.s16 hc.gen ⟨hc.g1,hc.g2⟩ hc.big
  refine ZA Y Y Y (hTk _) ?_;rw[Zi9 hA hle];obtain⟨A1,hA1⟩:∃A1,A1=(Qr st lv b r s).A++[((Qr st lv b r s).ro,(Qr st lv b r s).L)]:=⟨_,rfl⟩;rw[<- hA1]
  have hlen:A.length=A1.length:=by rw[hA,hA1,List.length_append,List.length_append,Ztx];rfl
  rw[hlen];refine ZDH Y ?_;refine ZdA Y Y ?_;refine ZdA Y Y ?_;refine ZDH Y ?_;refine ZDH Y ?_;refine Yj Y ?_;refine ZX ?_;refine Zc8 ?_;refine Zc8 ?_;refine Qp ?_;refine ZDH Y ?_
  refine ZV Y Y (fun q=>absurd Y q) (fun _=>?_)
  refine Yj Y ?_;refine ZX ?_;refine Zjp Y ?_;refine Zb3 ?_;refine ZX ?_
  have g2:(Qr st lv b r s).get kl kx=some (.arr 4 ver es):=by
   rw[ZFD h,if_neg (fun q=>hne ⟨q.1,.inl q.2⟩),if_neg (fun q=>hne ⟨q.1,.inr q.2⟩)];exact gk
  have:=ZjA h hc ⟨n+1,[],some ks⟩ (.ref kl kx ver 0 ks.length) rfl A1 G hA1 (fun L=>ZwI ⟨es,ZS hA1 g2,ge⟩ hk.2)
  exact this
theorem ZYx{j i:Nat}:∀ {L0 T:List Blk},findH j T=some i->findH j (L0++T)=some (L0.length+i)
 | [],T,h=>by simpa using h
 | b::L0,T,h=>by
  have:=ZYx (L0:=L0) h
  unfold findH;rw[List.cons_append];simp only[this,List.length_cons]
  congr 1;omega
theorem ZWv:∀ {L0 T:List Blk} {i:Nat} {b:Blk},(L0++T).set (L0.length+i) b=L0++T.set i b
 | [],T,i,b=>by simp
 | c::L0,T,i,b=>by
  rw[List.cons_append,List.length_cons,show L0.length+1+i=(L0.length+i)+1 by omega,List.set_cons_succ,ZWv];rfl
theorem J4:∀ {L0 T:List Blk} {i:Nat},(L0++T)[L0.length+i]?=T[i]?
 | [],T,i=>by simp
 | c::L0,T,i=>by
  rw[List.cons_append,List.length_cons,show L0.length+1+i=(L0.length+i)+1 by omega,List.getElem?_cons_succ,J4]
section
variable {O:Orc}{k:List Fr}{Q:Qn}{e:Env}{A:List (Bool × List Blk)}{L L0 T T':List Blk}{keep:List Nat}{is:List PI}{d:Nat}
theorem Zqc{js:List Nat}(h:Is O is keep k Q e ⟨A,false,L++js.map Blk.hole⟩):Ru O (.regH js keep is) k Q e ⟨A,false,L⟩:=by
 obtain⟨e',st',h1,h2⟩:=h.h;refine⟨⟨.norm,X4 keep e',st',?_,h2⟩⟩;simp only[exec,Zn9,jB,if_false,Option.bind_some,h1,ZZa]
theorem ZwJ{bytes:Nat}{l c:Opd}{n:Int}(hl:ZY e l=some (.int .i64 n))(hc:ZY e c=some (.int .i64 n))(hn:0<=n/\n<4294967296)(hb:bytes<=4096)(hf:findH j T=some i)
 (hL:Jf (T.set i (Blk.arr w 0 (List.replicate n.toNat z)))=some T') (h:Is O is keep k Q ((d,.ref A.length (L0.length+i) 0 0 n.toNat)::e) ⟨A,false,L0++T'⟩):Is O (⟨some d,none,false,.w (.here j) (.mkslice w bytes z l c)⟩::is) keep k Q e ⟨A,false,L0++T⟩:=by
 rw[<- QP hL,<- ZWv]at h;refine Zq (v:=.ref A.length (L0.length+i) 0 0 n.toNat) (st':=⟨A,false,(L0++T).set (L0.length+i) (Blk.arr w 0 (List.replicate n.toNat z))⟩) ?_ h
 simp only[Zd,Zs,newOf,ZD hl,ZD hc,mkslB,if_pos (show 0<=n/\n<=n/\n<4294967296/\bytes<=4096 by omega),Option.bind_some,ZcL,Zln,and_self,if_true,ZYx hf,ZcK]
theorem QW{v':AV}{m:Nat}(hx:ZY e x=some v)(hw:v.wide=some w)(hv:YS v=some v')(hm:Zjt T=some m)(hL:Jf (T++[Blk.arr w 0 [v']])=some T')(h:Is O is keep k Q ((d,.ptr A.length (L0.length+m) 0 0 0)::e) ⟨A,false,L0++T'⟩):Is O (⟨some d,none,false,.box x⟩::is) keep k Q e ⟨A,false,L0++T⟩:=by
 rw[<- QP hL,<- ZCx hm,<- List.append_assoc,<- List.length_append]at h;exact Za hx hw hv h
theorem Zrg{m:Nat}(hm:Zjt T=some m)(hL:Jf (T++[Blk.map []])=some T')(h:Is O is keep k Q ((d,.map A.length (L0.length+m))::e) ⟨A,false,L0++T'⟩):Is O (⟨some d,none,false,.mkmap⟩::is) keep k Q e ⟨A,false,L0++T⟩:=by
 rw[<- QP hL,<- ZCx hm,<- List.append_assoc,<- List.length_append]at h
 exact Zq (v:=.map A.length (L0++T).length) (st':=⟨A,false,L0++T++[Blk.map []]⟩) (by simp only[Zd,evalPO,Option.bind_some,St.new_cur,ZUv]) h
theorem QI{x:AV}(ha:ZY e a=some (.ptr A.length (L0.length+ix) ver i o))(hg:T[ix]?=some (Blk.arr w ver es))(hx:es[i]?=some x)(hv:Jn x agg o n=some v)
 (h:Is O is keep k Q ((d,v)::e) ⟨A,false,L0++T⟩):Is O (⟨some d,none,false,.ld agg n a⟩::is) keep k Q e ⟨A,false,L0++T⟩ :=
 ZB ha (by rw[J4];exact hg) hx hv h
theorem Zqd{i:Opd}{s m:Nat}{n:Int}(hx:ZY e x=some (.ref A.length (L0.length+ix) ver s m))(hi:ZY e i=some (.int .i64 n))(hn:0<=n/\n<m)(hg:T[ix]?=some (Blk.arr w ver es))(h:Is O is keep k Q ((d,.ptr A.length (L0.length+ix) ver (s+n.toNat) 0)::e) ⟨A,false,L0++T⟩):Is O (⟨some d,none,false,.ixS w x i⟩::is) keep k Q e ⟨A,false,L0++T⟩ :=
 Xe hx hi hn (by rw[J4];exact hg) h
theorem QO{v' y:AV}(ha:ZY e a=some (.ptr A.length (L0.length+ix) ver i o))(hx:ZY e x=some v)(hg:T[ix]?=some (Blk.arr w ver es))(hy:es[i]?=some y)
 (hs:Zb QK (A.length+1) ⟨A,false,L0++T⟩ v=some (v,⟨A,false,L0++T⟩)) (hv:(Q7 w y o n v).bind YS=some v') (hL:Jf (T.set ix (Blk.arr w ver (es.set i v')))=some T') (h:Is O is keep k Q e ⟨A,false,L0++T'⟩):Is O (⟨none,none,false,.st n a x⟩::is) keep k Q e ⟨A,false,L0++T⟩:=by
 rw[<- QP hL,<- ZWv]at h
 exact Q1 (by rw[J4];exact hg) ha hx hy hs hv h
end
def JZ(n g:Nat):AR:=⟨(List.range n).map fun (j:Nat)=>(n:Int)-1-j,n,0,List.replicate n 0,List.replicate n 1,g,[],n,0,0,0⟩
theorem ZTS{k:IntKind}{f:Nat->Int}{z:Int}(hi:i<n):((List.range n).map fun j=>AV.int k (if j<i then f j else z)).set i (.int k (f i))=(List.range n).map fun j=>AV.int k (if j<i+1 then f j else z):=by
 apply List.ext_getElem
 ·simp
 ·intro j hj hj'
  simp only[List.getElem_set,List.getElem_map,List.getElem_range]
  by_cases q:i=j
  ·subst q;simp
  ·rw[if_neg q]
   have:j<i+1↔j<i:=by omega
   simp only[this]
theorem ZwK(n g:Nat)(hn:1<=n/\n<=16384)(hg:1<=g/\g<=4294967295)(A:List (Bool × List Blk))(L0:List Blk):
 S Tb ZDK [.int .i64 n,.int .u64 g] ⟨A,false,L0⟩=some (.tup [.ptr A.length (L0.length+3) 0 0 0,.int .i64 0],⟨A,false,L0++[(JZ n g).b0,(JZ n g).b1,(JZ n g).b2,(JZ n g).b3 A.length L0.length]⟩):=by
 refine ZXL Y ?_
 have hmap:∀(k:IntKind) (z:Int),List.replicate n (AV.int k z)=(List.range n).map fun (j:Nat)=>AV.int k (if j<0 then (fun (j:Nat)=>(n:Int)-1-j) j else z):=by
  intro k z;simp only[Nat.not_lt_zero,if_false,List.map_const',List.length_range]
 have hmap1:List.replicate n (AV.int .u64 0)=(List.range n).map fun j=>AV.int .u64 (if j<0 then (fun _=>(1:Int)) j else 0):=by
  simp only[Nat.not_lt_zero,if_false,List.map_const',List.length_range]
 repeat'(first|refine ruS Y ?_|refine isS Y ?_|refine ZX ?_|(refine cm0 Y Y Y ?_ ?_<;>intro _<;>try omega)|refine ZZ Y Y Y ?_|refine Za Y Y Y ?_|refine Zqc ?_|refine ZwJ Y Y (by omega) (by decide) Y Y ?_)
 simp only[List.length_append,List.length_cons,List.length_nil,List.append_assoc,List.cons_append,List.nil_append,Int.toNat_natCast,Nat.zero_add];rw[hmap .i64 0,hmap1]
 refine Zc (α:=Nat) (fun i=>[(0,.int .i64 n),(6,.ptr A.length (L0.length+3) 0 0 0),(31,.int .i64 n),(32,.int .i64 i)])
  (fun i=>⟨A,false,L0++[.arr 1 0 (List.replicate n (.int .u8 0)),.arr 1 0 ((List.range n).map fun (j:Nat)=>.int .i64 (if j<i then (fun (j:Nat)=>(n:Int)-1-j) j else 0)),.arr 1 0 ((List.range n).map fun (j:Nat)=>.int .u64 (if j<i then (fun _=>(1:Int)) j else 0)),.arr 4 0 [.agg [.ref A.length (L0.length+1) 0 0 n,.ref A.length (L0.length+0) 0 0 n,.ref A.length (L0.length+2) 0 0 n,.int .u64 g]]]⟩)
  (fun i=>i<=n) (fun i=>n-i) 0 rfl rfl (Nat.zero_le _) ?_
 intro i hi
 repeat'(first|refine ruS Y ?_|refine isS Y ?_|refine rkS Y ?_|(refine cm0 Y Y Y ?_ ?_<;>intro _<;>try omega)|refine QC Y Y (by omega) ?_|refine QI Y Y Y Y ?_|refine Zqd Y Y (by omega) Y ?_)
 ·simp only[Nat.zero_add,Int.toNat_natCast]
  refine QO (y:=.int .i64 0) Y Y Y ?_ Y Y Y ?_
  ·rw[jG,List.getElem?_range (by omega)];simp
  rw[ZTS (f:=fun (j:Nat)=>(n:Int)-1-j) (by omega)]
  repeat'(first|refine Qp ?_|refine isS Y ?_|refine ZX ?_|refine QI Y Y Y Y ?_|refine Zqd Y Y (by omega) Y ?_)
  simp only[Nat.zero_add,Int.toNat_natCast];refine QO (y:=.int .u64 0) Y Y Y ?_ Y Y Y ?_
  ·rw[jG,List.getElem?_range (by omega)];simp
  rw[ZTS (f:=fun (j:Nat)=>(1:Int)) (by omega)]
  repeat'(first|refine Qp ?_|refine isS Y ?_|refine rkS Y ?_|refine ZL Y Y (by omega) ?_)
  exact⟨i+1,⟨rfl,rfl⟩,by omega,by omega⟩
 ·obtain rfl:i=n:=by omega
  have e1:∀(k:IntKind) (f:Nat->Int),((List.range i).map fun (j:Nat)=>AV.int k (if j<i then f j else 0))=(List.range i).map fun j=>.int k (f j):=by
   intro k f
   apply List.map_congr_left
   intro j hj;rw[List.mem_range]at hj;rw[if_pos hj]
  simp only[e1,AR.b0,AR.b1,AR.b2,AR.b3,JZ,List.map_replicate,List.map_map,List.length_replicate];simp only[List.map_const',List.length_range];rfl
theorem ZwL(n g:Nat)(hn:1<=n/\n<=16384)(hg:1<=g/\g<=4294967295)(A:List (Bool × List Blk))(L0:List Blk):
 S Tb ZF5 [.int .i64 n,.int .u64 g] ⟨A,false,L0⟩=some (.tup [.ptr A.length (L0.length+5) 0 0 0,.int .i64 0],⟨A,false,L0++[(JZ n g).b0,(JZ n g).b1,(JZ n g).b2,(JZ n g).b3 A.length L0.length,(JZ n g).b4,(JZ n g).b5 A.length L0.length]⟩):=by
 refine ZXL Y ?_
 repeat'(first|refine ruS Y ?_|refine isS Y ?_|refine rkS Y ?_|(refine cm0 Y Y Y ?_ ?_<;>intro _<;>try omega)|refine ZZ Y Y Y ?_|refine Za Y Y Y ?_|refine ZA Y Y Y (ZwK n g hn hg A L0) ?_|refine Zrg Y Y ?_)
 simp only[List.length_append,List.append_assoc,List.cons_append,List.nil_append];rfl
theorem Zrh(n g:Nat)(A:List (Bool × List Blk))(L0 L1:List Blk):Has ⟨A,false,L0++([(JZ n g).b0,(JZ n g).b1,(JZ n g).b2,(JZ n g).b3 A.length L0.length,(JZ n g).b4,(JZ n g).b5 A.length L0.length]++L1)⟩ A.length L0.length (JZ n g):=by
 have h:∀i b,([(JZ n g).b0,(JZ n g).b1,(JZ n g).b2,(JZ n g).b3 A.length L0.length,(JZ n g).b4,(JZ n g).b5 A.length L0.length]++L1)[i]?=some b->vis (some b)=some b->St.get ⟨A,false,L0++([(JZ n g).b0,(JZ n g).b1,(JZ n g).b2,(JZ n g).b3 A.length L0.length,(JZ n g).b4,(JZ n g).b5 A.length L0.length]++L1)⟩ A.length (L0.length+i)=some b:=by
  intro i b hb hv;rw[St.get_cur,J4,hb,hv]
 exact⟨by simp[St.wr],h 0 _ Y Y,h 1 _ Y Y,h 2 _ Y Y,h 3 _ Y Y,h 4 _ Y Y,h 5 _ Y Y⟩
theorem ZRF(s:B8)(st:St):S Tb JM [.str s] st=some ((Qk s).av,st):=by
 refine Zj Y (fun A hA=>?_)
 repeat'(first|refine ruS Y ?_|refine isS Y ?_|refine rkS Y ?_|refine ZZ Y Y Y ?_|refine ZJ Y Y Y ?_|refine Ze Y Y Y Y Y Y ?_)
 refine JL hA (by simp) Y Y Y Y Y ?_
 rfl
theorem Xa{l:List Tr}(h2:2<=l.length)(hl:l.length<=65536)(hh:∀t∈l,t.h<=65536)(hv:Sl st v l):S Tb Qd [v] st=some ((grp l).av,st):=by
 refine Zj Y (fun A hA=>?_)
 have hv2:=fun L=>hv.push hA (ro:=false) (L:=L)
 have fin:∀ {L:List Blk} {e:Env} {h:Int} {u:Tr},l[0]?=some u->2<=l.length->h=u.h+1->JV e 2=some (.ptr A.length 0 0 0 0)->L=[.arr 7 0 [.agg [.int .u64 0,.int .i64 h,.int .i64 0,.int .i64 0,.int .i64 0,.str [],.ref A.length 1 0 0 l.length]],.arr 7 0 (l.map Tr.av)] ->
  Jp false [.c 2 true 7] (.ret,e,⟨A,false,L⟩)=some ((grp l).av,st):=by
  intro L e h u hu h2 hhu he hL;subst hL hhu
  have hval:=ZGP (e:=e) (res:=[.c 2 true 7]) (x:=.ret) (v:=.agg [.int .u64 0,.int .i64 ((u.h:Int)+1),.int .i64 0,.int .i64 0,.int .i64 0,.str [],.ref A.length 1 0 0 l.length]) hA (.inr rfl) (by
   simp only[Qo,ZC8,ZCJ,Z9 he,loadP,St.get_cur,List.getElem?_cons_zero,vis,ZGp,if_true,Option.bind_some]
   rfl) (ZfW (l:=l) (ix:=1) (L:=[.arr 7 0 [.agg [.int .u64 0,.int .i64 ((u.h:Int)+1),.int .i64 0,.int .i64 0,.int .i64 0,.str [],.ref A.length 1 0 0 l.length]],.arr 7 0 (l.map Tr.av)]) rfl rfl) rfl
  rw[hval,ZRB h2,Ztn hu,Tr.av,Tr.avO,Tr.avL_map];rfl
 cases hv with
 | lit =>
  have hvs:=fun L=>Sl.lit (st:=⟨A,false,L⟩) l
  repeat'(first|refine ruS Y ?_|refine isS Y ?_|refine ZX ?_|refine ZJ Y Y Y ?_|refine QY Y Y (by omega) ZQ (fun _ _=>?_))
  rename_i t ht
  have hth:=hh t (jM ht);refine Zk Y (Qz _) ?_
  repeat'(first|refine isS Y ?_|refine rkS Y ?_|refine ZL Y Y (by omega) ?_|refine ZZ Y Y Y ?_|refine Ze Y Y Y (ZFA _ (Nat.lt_succ_self _)) Y Y ?_|refine ZYt Y ?_|refine ZFB Y Y (hvs _) (by omega) ?_|refine Jq ?_)
  exact fin ht (by omega) Y Y Y
 | @ref lv ix ver s n _ es hg hn hlen he =>
  have hvs:=fun L=>hv2 L
  have hg2:=fun L=>ZS hA (ro:=false) (L:=L) hg
  have hget:=fun {i} {t}=>Sl.get (i:=i) (t:=t) hn he
  have hwi:∀L,wIs 7 ver (St.get ⟨A,false,L⟩ lv ix)=true:=fun L=>by rw[hg2];simp[wIs]
  repeat'(first|refine ruS Y ?_|refine isS Y ?_|refine ZX ?_|refine ZJ Y Y Y ?_|refine JA Y Y (by omega) (hwi _) ?_)
  obtain⟨t,ht⟩:∃t,l[0]?=some t:=⟨l[0]'(by omega),by simp⟩
  have hth:=hh t (jM ht)
  skip
  refine Z1 Y (hg2 _) (hget ht) (Qz t) ?_
  repeat'(first|refine isS Y ?_|refine rkS Y ?_|refine ZL Y Y (by omega) ?_|refine ZZ Y Y Y ?_|refine Ze Y Y Y (ZFA _ (Nat.lt_succ_self _)) Y Y ?_|refine ZYt Y ?_|refine ZFB Y Y (hvs _) (by omega) ?_|refine Jq ?_)
  exact fin ht (by omega) Y Y Y
theorem ZFE{l:List Tr}(hl:l.length<=65536)(hh:∀t∈l,t.h<=65536)(hv:Sl st v l):S Tb Z3 [v] st=some ((grp l).av,st):=by
 refine Zj Y (fun A hA=>?_)
 have hv2:=fun L=>hv.push hA (ro:=false) (L:=L)
 have hI:=fun (h2:2<=l.length) L=>Xa h2 hl hh (hv2 L)
 have hwk:=hv.weak
 cases hv with
 | lit =>
  repeat'(first|refine ruS Y ?_|refine isS Y ?_|refine rkS Y ?_|refine Zi Y ?_|(refine cm0 Y Y Y ?_ ?_<;>intro _<;>try omega)|refine ZZ Y Y Y ?_|refine ZJ Y Y Y ?_|refine Ze Y Y Y Y Y Y ?_|refine QY Y Y (by omega) ZQ (fun _ _=>?_)|refine Zk Y (ZG _) ?_|refine Ze Y Y Y (Zn _ _ _) (Zx _ _) Y ?_)
  ·rename_i h
   have:l=[]:=List.length_eq_zero_iff.1 (by omega)
   subst this
   refine JL hA (by simp) Y Y Y Y Y ?_
   rfl
  ·rename_i h1 t ht
   exact ZBL hA (.inr Y) Y Y (by rw[ZcA h1 ht])
  ·refine ZA Y Y (by simp only[List.nil_append,List.append_nil,List.cons_append,ZH,hwk];rfl) (hI (by omega) _) ?_
   repeat'(first|refine Yj Y ?_|refine rkS Y ?_|refine Ze Y Y Y (Zn _ _ _) (Zx _ _) Y ?_|refine Jq ?_)
   exact ZBL hA (.inr Y) Y Y Y
 | @ref lv ix ver s n _ es hg hn hlen he =>
  have hg2:=fun L=>ZS hA (ro:=false) (L:=L) hg
  have hget:=fun {i} {t}=>Sl.get (i:=i) (t:=t) hn he
  have hwi:∀L,wIs 7 ver (St.get ⟨A,false,L⟩ lv ix)=true:=fun L=>by rw[hg2];simp[wIs]
  repeat'(first|refine ruS Y ?_|refine isS Y ?_|refine rkS Y ?_|refine Zp Y ?_|(refine cm0 Y Y Y ?_ ?_<;>intro _<;>try omega)|refine ZZ Y Y Y ?_|refine ZJ Y Y Y ?_|refine Ze Y Y Y Y Y Y ?_|refine JA Y Y (by omega) (hwi _) ?_)
  ·rename_i h
   have:l=[]:=List.length_eq_zero_iff.1 (by omega)
   subst this
   refine JL hA (by simp) Y Y Y Y Y ?_
   rfl
  ·rename_i h1
   obtain⟨t,ht⟩:∃t,l[0]?=some t:=⟨l[0]'(by omega),by simp⟩
   refine Z1 Y (hg2 _) (hget ht) (ZG t) ?_
   repeat'(first|refine Yj Y ?_|refine rkS Y ?_|refine Ze Y Y Y (Zn _ _ _) (Zx _ _) Y ?_|refine Jq ?_)
   exact ZBL hA (.inr Y) Y Y (by rw[ZcA (by omega) ht])
  ·refine ZA Y Y Y (hI (by omega) _) ?_
   repeat'(first|refine Yj Y ?_|refine rkS Y ?_|refine Ze Y Y Y (Zn _ _ _) (Zx _ _) Y ?_|refine Jq ?_)
   exact ZBL hA (.inr Y) Y Y Y
theorem YJ(t:Tr)(ht:IsEmpty t)(st:St):S Tb Zy [t.av] st=some (.bool true,st):=by
 obtain⟨o,h,m,s,k⟩:=t;obtain⟨h1,h2,h3,h4,h5⟩:=ht;simp only[Tr.old,Tr.h,Tr.m,Tr.text,Tr.ks]at h1 h2 h3 h4 h5;subst h1 h2 h3 h4
 refine Zj Y (fun A hA=>?_)
 cases k with
 | none =>
  repeat'(first|refine ruS Y ?_|refine isS Y ?_|refine ZB Y Y Y Y ?_|refine rkS Y ?_|refine QG Y ?_|(refine cm0 Y Y Y ?_ ?_<;>intro _<;>try omega)|(refine Jr Y Y (fun _=>?_) (fun _=>?_)<;>try contradiction)|refine ZZ Y Y Y ?_|refine QD Y Y Y Y ?_|refine ZJ Y Y Y ?_)
  all_goals refine ZO hA (by simp) Y Y Y Y ?_
  all_goals rfl
 | some l =>
  have:l=[]:=h5
  subst this
  repeat'(first|refine ruS Y ?_|refine isS Y ?_|refine ZB Y Y Y Y ?_|refine rkS Y ?_|refine Qg Y Y ?_|(refine cm0 Y Y Y ?_ ?_<;>intro _<;>try omega)|(refine Jr Y Y (fun _=>?_) (fun _=>?_)<;>try contradiction)|refine ZZ Y Y Y ?_|refine QD Y Y Y Y ?_|refine ZJ Y Y Y ?_)
  all_goals refine ZO hA (by simp) Y Y Y Y ?_
  all_goals rfl
theorem ZK9(t:Tr)(ht:IsLeaf t)(st:St):S Tb Zy [t.av] st=some (.bool false,st):=by
 obtain⟨o,h,m,s,k⟩:=t;obtain⟨h1,h2,h3,h4,h4',h5⟩:=ht;simp only[Tr.old,Tr.h,Tr.m,Tr.text,Tr.ks]at h1 h2 h3 h4 h4' h5;subst h1 h2 h3
 have hs:s≠[]:=fun q=>by rw[q]at h4;simp at h4
 refine Zj Y (fun A hA=>?_)
 cases k with
 | none =>
  repeat'(first|refine ruS Y ?_|refine isS Y ?_|refine ZB Y Y Y Y ?_|refine rkS Y ?_|(refine cm0 Y Y Y ?_ ?_<;>intro _<;>try omega)|(refine Jr Y Y (fun _=>?_) (fun _=>?_)<;>try contradiction)|refine ZZ Y Y Y ?_|refine QD Y Y Y Y ?_|refine ZJ Y Y Y ?_)
  all_goals try contradiction
  all_goals refine ZO hA (by simp) Y Y Y Y ?_
  all_goals rfl
 | some l =>
  have:l=[]:=h5
  subst this
  repeat'(first|refine ruS Y ?_|refine isS Y ?_|refine ZB Y Y Y Y ?_|refine rkS Y ?_|(refine cm0 Y Y Y ?_ ?_<;>intro _<;>try omega)|(refine Jr Y Y (fun _=>?_) (fun _=>?_)<;>try contradiction)|refine ZZ Y Y Y ?_|refine QD Y Y Y Y ?_|refine ZJ Y Y Y ?_)
  all_goals try contradiction
  all_goals refine ZO hA (by simp) Y Y Y Y ?_
  all_goals rfl
theorem ZGm(t:Tr)(ht:IsInner t)(st:St):S Tb Zy [t.av] st=some (.bool false,st):=by
 obtain⟨o,h,m,s,k⟩:=t;obtain⟨h1,h2,h3,h4,h4',h5,h5'⟩:=ht;simp only[Tr.old,Tr.h,Tr.m,Tr.text,Tr.ks]at h1 h2 h3 h4 h4' h5 h5';subst h1 h2 h3
 refine Zj Y (fun A hA=>?_)
 cases k with
 | none=>simp at h5
 | some l =>
  simp only[Option.getD]at *
  rw[Tr.av,Tr.avO_sl];simp only[slV]
  repeat'(first|refine ruS Y ?_|refine isS Y ?_|refine ZB Y Y Y Y ?_|refine rkS Y ?_|(refine cm0 Y Y Y ?_ ?_<;>intro _<;>try omega)|refine ZJ Y Y Y ?_)
  all_goals try first|contradiction|omega
  all_goals refine ZO hA (by simp) Y Y Y Y ?_
  all_goals rfl
theorem ZQw(s:B8)(hs:s.length<4294967296)(st:St):S Tb Y8 [.str s] st=some ((ZAz s).av,st):=by
 refine Zj Y (fun A hA=>?_)
 repeat'(first|refine ruS Y ?_|refine isS Y ?_|refine ZX ?_|refine Qf Y ?_|refine ZZ Y Y Y ?_|refine ZJ Y Y Y ?_|refine Ze Y Y Y Y Y Y ?_)
 refine Zc (α:=Nat) (fun i=>[(0,.str s),(2,.ptr A.length 0 0 0 0),(3,.ptr A.length 1 0 0 0),(4,.int .i64 i)])
  (fun i=>⟨A,false,[.arr 3 0 [.agg [.int .i64 0,.int .i64 0,.int .i64 0]],.arr 3 0 [.agg [.int .i64 s.length,.int .i64 ((s.take i).countP Q0),.int .i64 ((s.take i).countP Jt)]]]⟩) (fun i=>i<=s.length) (fun i=>s.length-i) 0 rfl rfl (Nat.zero_le _) ?_
 intro i hi
 repeat'(first|refine ruS Y ?_|refine isS Y ?_|refine ZB Y Y Y Y ?_|refine rkS Y ?_|refine Qf Y ?_|(refine cm0 Y Y Y ?_ ?_<;>intro _<;>try omega)|refine Ze Y Y Y Y Y Y ?_)
 ·rename_i hlt
  obtain⟨b,hb,ht⟩:=Zv7 (s:=s) (i:=i) (by omega)
  have hc:=List.countP_le_length (p:=Q0) (l:=s.take i);have hc2:=List.countP_le_length (p:=Jt) (l:=s.take i);have hl:=List.length_take_le i s
  have hb2:s[(i:Int).toNat]?=some b:=by simpa using hb
  have e1:((s.take (i+1)).countP Q0)=(s.take i).countP Q0+(if Q0 b then 1 else 0):=by
   rw[ht,List.countP_append];simp[List.countP_cons]
  have e2:((s.take (i+1)).countP Jt)=(s.take i).countP Jt+(if Jt b then 1 else 0):=by
   rw[ht,List.countP_append];simp[List.countP_cons]
  have fin:∀x y:Int,x=((s.take (i+1)).countP Q0:Nat)->y=((s.take (i+1)).countP Jt:Nat)->∃c:Nat,([(0,AV.str s),(2,.ptr A.length 0 0 0 0),(3,.ptr A.length 1 0 0 0),(4,.int .i64 ((i:Int)+1))]=[(0,AV.str s),(2,.ptr A.length 0 0 0 0),(3,.ptr A.length 1 0 0 0),(4,.int .i64 c)] /\
   (⟨A,false,[.arr 3 0 [.agg [.int .i64 0,.int .i64 0,.int .i64 0]],.arr 3 0 [.agg [.int .i64 s.length,.int .i64 x,.int .i64 y]]]⟩:St)=⟨A,false,[.arr 3 0 [.agg [.int .i64 0,.int .i64 0,.int .i64 0]],.arr 3 0 [.agg [.int .i64 s.length,.int .i64 ((s.take c).countP Q0),.int .i64 ((s.take c).countP Jt)]]]⟩)/\c<=s.length/\s.length-c<s.length-i:=by
   intro x y hx hy;subst hx hy
   exact⟨i+1,⟨rfl,rfl⟩,by omega,by omega⟩
  have hbb:Q0 b=(decide ((b.toNat:Int)<128) || decide ((192:Int)<=b.toNat)):=by unfold Q0;rw[Bool.eq_iff_iff];simp<;>omega
  have hfb:Jt b=decide ((b.toNat:Int)=10):=by unfold Jt;rw[Bool.eq_iff_iff];simp<;>omega
  rw[hbb]at e1;rw[hfb]at e2;simp only[Bool.or_eq_true,decide_eq_true_eq]at e1 e2
  repeat'(first|refine ruS Y ?_|refine isS Y ?_|refine ZB Y Y Y Y ?_|refine rkS Y ?_|(refine cm0 Y Y Y ?_ ?_<;>intro _<;>try omega)|refine ZL Y Y (by omega) ?_|refine Ze Y Y Y Y Y Y ?_|refine ZVF Y Y (by omega) hb2 ?_)
  all_goals refine fin _ _ ?_ ?_
  all_goals first|(rw[e1];split<;>omega)|(rw[e2];split<;>omega)
 ·have hi':i=s.length:=by omega
  subst hi';rw[List.take_length]
  refine JL hA (by simp) Y Y Y Y Y ?_
  rfl
theorem Zri{N:ZF}(hN:GoodN N){k:List Fr}(hs:s.length<=65536)(B:Blk)(row:List Tr)(n:Nat)(r:List Tr)(hrow:Row N row 0 s)(hn:row.length<=n+1)(h64:row.length<=65536)(hr:Yb n row=r)
 (hex:∀(G:List Blk) (ver:Nat),Rk (S Tb) k Q (.ex 2) [(2,.ptr A.length 0 0 0 0),(3,.ref A.length (B::G).length ver 0 r.length),(27,.bool false)] ⟨A,false,B::G++[.arr 7 ver (r.map Tr.av)]⟩) (ver:Nat) (ex:Env) :
 Ru (S Tb) (.loop ZAm) k Q ((2,.ptr A.length 0 0 0 0)::(3,.ref A.length 1 ver 0 row.length)::ex) ⟨A,false,[B,.arr 7 ver (row.map Tr.av)]⟩:=by
 refine Zc (α:=List Tr × List Blk × Nat × Env) (fun p=>(2,.ptr A.length 0 0 0 0)::(3,.ref A.length (B::p.2.1).length p.2.2.1 0 p.1.length)::p.2.2.2) (fun p=>⟨A,false,B::p.2.1++[.arr 7 p.2.2.1 (p.1.map Tr.av)]⟩)
  (fun p=>p.1.length<=65536/\∃k h,p.1.length<=k+1/\Row N p.1 h s/\Yb k p.1=r) (fun p=>p.1.length) (row,[],ver,ex) rfl rfl ⟨h64,n,0,hn,hrow,hr⟩ ?_
 rintro⟨row,G,ver,ex⟩ ⟨h64,kk,h,hk,hR,hb⟩
 simp only at h64 hk hR hb ⊢
 repeat'(first|refine ruS Y ?_|refine isS Y ?_|refine rkS Y ?_|refine Zp Y ?_|(refine cm0 Y Y Y ?_ ?_<;>intro _<;>try omega)|refine ZnP ?_)
 ·rename_i hgt
  have hgt2:2<=row.length:=by omega
  obtain⟨kk,rfl⟩:∃j,kk=j+1:=⟨kk-1,by omega⟩
  rw[Yb,if_neg (by omega)]at hb
  have hh:h+1<=16:=by
   match row,hgt2,hR with
   | t::r,_,hR =>
    have h1:=(hR.val t (by simp))
    have h3:=ZK2 hN h1.1
    have h4:(t.txt N).length<=s.length:=by rw[<- hR.txt,Tr.txtL,List.length_append];omega
    have:=h1.1.height hN (by omega)
    omega
  obtain⟨u1,u2,u3⟩:=Zfh hR hgt2 hh
  refine ZA Y Y Y (ZfY row.length 4 _ (by omega) (by omega)) ?_
  have hg:=Jv (n:=row.length) (most:=4) (by omega) (by omega)
  have hg4:ZW row.length 4=((row.length:Int)-1) / 4+1:=rfl
  have hget:=fun i hi=>ZK0 (n:=row.length) (m:=4) (by omega) (i:=i) hi
  have hlen:=ZK1 (n:=row.length) (m:=4) (by omega)
  have hpb:=fun (i:Nat) hi=>XY (n:=row.length) (g:=ZW row.length 4) (by omega) (by omega) (i:=i) hi
  have hps:=ZBN row.length (ZW row.length 4)
  have hp0:=ZC0 row.length (ZW row.length 4) (by omega)
  have hsn:=Ys (n:=row.length) (g:=ZW row.length 4) (by omega) (by omega)
  have hsz:∀i,i<(ZW row.length 4).toNat->2<=(ZAZ row (ZW row.length 4) i).length:=by
   intro i hi;have h1:=ZQu row hg.1 hi
   have h2:=ZQv (n:=row.length) (m:=4) (by omega) (by omega) (i:=i)
   have h3:2<=(row.length:Int) / ZW row.length 4:=by
    rw[Int.le_ediv_iff_mul_le (by omega)];omega
   omega
  have hrl:(X2 row).length=(ZW row.length 4).toNat:=by unfold X2;simp
  have hrg:∀i,i<(ZW row.length 4).toNat->(X2 row)[i]?=some (grp (ZAZ row (ZW row.length 4) i)):=by
   intro i hi;unfold X2;rw[jG,List.getElem?_range hi];rfl
  have hpl:=fun i hi=>ZQu row (g:=ZW row.length 4) hg.1 (i:=i) hi
  have hpe:∀i,ZAZ row (ZW row.length 4) i=(row.drop (ZAb row.length (ZW row.length 4) i).toNat).take (Ju row.length (ZW row.length 4) i).toNat:=fun _=>rfl
  generalize XA (row.length:Int) 4=z at *
  generalize ZW (row.length:Int) 4=g at *
  generalize X2 row=up at *
  have hh2:∀u∈row,u.h<=65536:=fun u hu=>by have:=(hR.val u hu).1.h16;omega
  repeat'(first|refine ruS Y ?_|refine isS Y ?_|refine ZX ?_)
  all_goals try omega
  refine Zc (α:=Nat) (fun i=>[(2,.ptr A.length 0 0 0 0),(3,.ref A.length (B::G).length ver (ZAb row.length g i).toNat (row.length-(ZAb row.length g i).toNat)),(6,.ref A.length ((B::G).length+1) i 0 i),(7,ZGI z),(8,.int .i64 i)])
   (fun i=>⟨A,false,B::G++[.arr 7 ver (row.map Tr.av),.arr 7 i ((up.take i).map Tr.av)]⟩) (fun i=>i<=z.length) (fun i=>z.length-i) 0 ?_ ?_ (Nat.zero_le _) ?_
  ·simp[hp0]
  ·simp
  intro i hi
  repeat'(first|refine ruS Y ?_|refine isS Y ?_|refine rkS Y ?_|refine Zi Y ?_|refine Zk Y Y ?_|refine QY Y Y (by omega) (fun _=>rfl) (fun _ _=>?_)|(refine cm0 Y Y Y ?_ ?_<;>intro _<;>try omega))
  ·rename_i hlt x hx
   have hi2:i<g.toNat:=by omega
   have hx2:z[i]?=some x:=hx;rw[hget i hi2]at hx2;have hx3:=Option.some.inj hx2;subst hx3
   have hb0:=hpb i (by omega)
   have hb1:=hpb (i+1) (by omega)
   rw[hps i]at hb1;have hs0:=hsn i;have hpl2:=hpl i hi2;have hrg2:=hrg i hi2;have hpe2:=hpe i;have hps2:=hps i;have hsz2:=hsz i hi2
   generalize ZAb (row.length:Int) g i=p at *
   generalize Ju (row.length:Int) g i=q at *
   generalize ZAZ row g i=part at *
   have hgetL:∀b:Blk,(B::G++[.arr 7 ver (row.map Tr.av),b])[(B::G).length]?=some (.arr 7 ver (row.map Tr.av)):=fun b=>ZYw _ _ _
   have hwi:wIs 7 ver (St.get ⟨A,false,B::G++[.arr 7 ver (row.map Tr.av),.arr 7 i ((up.take i).map Tr.av)]⟩ A.length (B::G).length)=true:=by
    rw[St.get_cur,hgetL];simp[vis,wIs]
   refine ZAF Y Y (by omega) hwi ?_
   have hSl:Sl ⟨A,false,B::G++[.arr 7 ver (row.map Tr.av),.arr 7 i ((up.take i).map Tr.av)]⟩ (.ref A.length (B::G).length ver p.toNat q.toNat) part:=by
    refine .ref (es:=row.map Tr.av) (by rw[St.get_cur,hgetL];rfl) (by omega) (by rw[List.length_map];omega) ?_
    rw[hpe2,<- List.map_drop,<- List.map_take]
   refine ZA Y Y Y (Xa hsz2 (by omega) (fun u hu=>hh2 u (by rw[hpe2]at hu;exact List.mem_of_mem_drop (List.mem_of_mem_take hu))) hSl) ?_
   have hti:(up.take i).length=i:=by rw[List.length_take];omega
   refine Y4 Y ?_
   refine ZWu Y Y (Zqa _ _ _ _) hti.symm (by omega) ?_
   rw[Zqb];have htk:=ZU hrg2;rw[<- htk]
   repeat'(first|refine Qp ?_|refine isS Y ?_|refine ZX ?_|refine Zk Y Y ?_|refine QY Y Y (by omega) (fun _=>rfl) (fun _ _=>?_))
   rename_i y hy
   have hy2:z[(i:Int).toNat]?=some y:=hy;rw[hx]at hy2;have hy3:=Option.some.inj hy2;subst hy3
   have hwi2:wIs 7 ver (St.get ⟨A,false,B::G++[.arr 7 ver (row.map Tr.av),.arr 7 (i+1) ((up.take (i+1)).map Tr.av)]⟩ A.length (B::G).length)=true:=by
    rw[St.get_cur,hgetL];simp[vis,wIs]
   refine ZIh Y Y (by omega) hwi2 ?_
   repeat'(first|refine Qp ?_|refine isS Y ?_|refine rkS Y ?_|refine ZL Y Y (by omega) ?_)
   refine⟨i+1,⟨?_,rfl⟩,by omega,by omega⟩
   rw[show p.toNat+q.toNat=(p+q).toNat by omega,show row.length-p.toNat-q.toNat=row.length-(p+q).toNat by omega]
   simp only[hps2];rfl
  ·have hi2:i=up.length:=by omega
   subst hi2;rw[List.take_length]
   refine⟨(up,G++[.arr 7 ver (row.map Tr.av)],up.length,[]),⟨?_,?_⟩,⟨by simp only;omega,kk,h+1,by simp only;omega,u1,hb⟩,by simp only;omega⟩
   ·simp
   ·simp
 ·have hrr : Yb kk row = row := by
   cases kk with
   | zero=>rfl
   | succ j=>rw[Yb,if_pos (by omega)]
  rw[hrr]at hb;subst hb;exact hex G ver
theorem ZUq{N:ZF}(hN:GoodN N)(s:B8)(hs:s.length<=65536)(st:St):S Tb Ji [.str s] st=some ((Xt s).av,st):=by
 refine Zj Y (fun A hA=>?_)
 have hcl:=ZZW s
 have hch:=fun st=>ZnJ s st (by omega)
 obtain⟨ra,rb,rc⟩:=ZK8 (N:=N) s
 obtain⟨h',rd,re,rf⟩:=ZRE hN s.length _ 0 s ra (by omega) hs
 unfold Xt
 generalize hres:Yb s.length ((JC s).map Qk)=r at *
 have hG:=fun {v:AV} {st:St} (hv:Sl st v r)=>ZFE (by omega) (fun u hu=>by have:=(rd.val u hu).1.h16;omega) hv
 have hlen:((JC s).map Qk).length=(JC s).length:=by simp
 generalize hc:JC s=c at *
 unfold ZTR at hch
 repeat'(first|refine ruS Y ?_|refine isS Y ?_|refine ZX ?_|refine ZJ Y Y Y ?_|refine QN Y ?_|refine ZA Y Y (by first|rfl|(simp only[List.nil_append,List.append_nil,List.cons_append,ZH,ZC,ZE];first|done|rfl)) (hch _) ?_)
 all_goals try omega
 refine Zc (α:=Nat) (fun i=>[(2,.ptr A.length 0 0 0 0),(3,.ref A.length 1 i 0 i),(4,.lit (c.map .str)),(5,.int .i64 i)])
  (fun i=>⟨A,false,[.arr 7 0 [trZ],.arr 7 i (((c.take i).map Qk).map Tr.av)]⟩) (fun i=>i<=c.length) (fun i=>c.length-i) 0 rfl rfl (by simp) ?_
 rintro i hi
 repeat'(first|refine ruS Y ?_|refine isS Y ?_|refine rkS Y ?_|refine Zi Y ?_|refine Zk Y Y ?_|refine QY Y Y (by omega) (fun _=>rfl) (fun _ _=>?_)|(refine cm0 Y Y Y ?_ ?_<;>intro _<;>try omega))
 ·rename_i x hx
  have hx2:c[i]?=some x:=hx
  have hlen2:((c.take i).map Qk).length=i:=by rw[List.length_map,List.length_take];omega
  refine ZA Y Y Y (ZRF x _) ?_
  repeat'(first|refine Qp ?_|refine isS Y ?_|refine rkS Y ?_|refine ZL Y Y (by omega) ?_|refine Zz Y Y Y Y ?_|refine X5 Y Y Y (by first|rfl|(simp;done)|(simp;omega)) (by first|omega|(simp<;>omega)) (by decide) rfl rfl rfl ?_)
  refine⟨i+1,⟨rfl,?_⟩,by omega,by omega⟩
  simp only[ZU hx2,List.map_append,jC,List.map_nil];rfl
 ·have hi':i=c.length:=by omega
  subst hi';rw[List.take_length]
  have:=Zri hN hs (A:=A) (.arr 7 0 [trZ]) (c.map Qk) s.length r ra (by omega) (by omega) hres (k:=[.blk 2,.seq (.seq ZAn .ret)]) (Q:=fun x e st'=>Jp false [.c 2 true 7] (x,e,st')=some ((grp r).av,st)) (fun G ver=>?_) c.length [(4,.lit (c.map .str)),(5,.int .i64 c.length),(14,.bool false)]
  ·rw[List.length_map]at this
   exact this
  ·repeat'(first|refine ruS Y ?_|refine isS Y ?_|refine rkS Y ?_|refine Q1 Y Y Y Y (Zn _ _ _) (Zx _ _) ?_|refine ZA Y Y (by first|rfl|(simp only[List.nil_append,List.append_nil,List.cons_append,ZH,ZC,ZE];first|done|rfl)) (hG (Sl.cur (ZYw _ _ _) rfl)) ?_)
   exact ZBL hA (.inr Y) Y Y Y
theorem Zrj(b:UInt8)(st:St):S Tb ZAL [.int .u8 b.toNat] st=some (.bool (!Q0 b),st):=by
 refine Zj Y (fun A hA=>?_)
 repeat'(first|refine ruS Y ?_|refine isS Y ?_|refine rkS Y ?_|(refine cm0 Y Y Y ?_ ?_<;>intro _<;>try omega))
 all_goals refine ZO hA (by simp) Y Y Y Y ?_
 all_goals (unfold Q0;simp;omega)
theorem Zpb(s:B8)(hs:s.length<4294967296)(st:St):S Tb Xr [.str s] st=some (.int .i64 (s.countP Q0),st):=by
 refine Zj Y (fun A hA=>?_)
 repeat'(first|refine ruS Y ?_|refine isS Y ?_|refine ZX ?_)
 refine Zc (α:=Nat) (fun i=>[(0,.str s),(3,.int .i64 ((s.take i).countP Q0)),(4,.int .i64 i)])
  (fun i=>⟨A,false,[]⟩) (fun i=>i<=s.length) (fun i=>s.length-i) 0 rfl rfl (Nat.zero_le _) ?_
 intro i hi
 repeat'(first|refine ruS Y ?_|refine isS Y ?_|refine rkS Y ?_|refine Qf Y ?_|(refine cm0 Y Y Y ?_ ?_<;>intro _<;>try omega))
 ·rename_i hlt
  obtain⟨b,hb,ht⟩:=Zv7 (s:=s) (i:=i) (by omega)
  have hc:=List.countP_le_length (p:=Q0) (l:=s.take i);have hl:=List.length_take_le i s;have hC:=Zrj b
  refine ZVF Y Y (by omega) (by simpa using hb) ?_
  cases hp:Q0 b
  ·rw[hp]at hC
   repeat'(first|refine ruS Y ?_|refine isS Y ?_|refine rkS Y ?_|refine ZL Y Y (by omega) ?_|refine ZA Y Y Y (hC _) ?_)
   refine⟨i+1,⟨?_,rfl⟩,by omega,by omega⟩
   rw[ht,List.countP_append];simp[hp]
  ·rw[hp]at hC
   repeat'(first|refine ruS Y ?_|refine isS Y ?_|refine rkS Y ?_|refine ZL Y Y (by omega) ?_|refine ZA Y Y Y (hC _) ?_)
   refine⟨i+1,⟨?_,rfl⟩,by omega,by omega⟩
   rw[ht,List.countP_append];simp[hp]
 ·refine ZO hA (by simp) Y Y Y Y ?_
  rw[List.take_of_length_le (by omega)]
theorem ZwM(s:B8)(hs:s.length<4294967296)(st:St):S Tb ZBI [.str s] st=some ((ZAz s).av,st):=by
 refine Zj Y (fun A hA=>?_)
 have hC:=Zpb s hs
 repeat'(first|refine ruS Y ?_|refine isS Y ?_|refine ZX ?_|refine Qf Y ?_|refine ZZ Y Y Y ?_|refine ZJ Y Y Y ?_|refine Ze Y Y Y Y Y Y ?_|refine ZA Y Y Y (hC _) ?_)
 refine Zc (α:=Nat) (fun i=>[(0,.str s),(2,.ptr A.length 0 0 0 0),(3,.ptr A.length 1 0 0 0),(4,.int .i64 i)])
  (fun i=>⟨A,false,[.arr 3 0 [.agg [.int .i64 0,.int .i64 0,.int .i64 0]],.arr 3 0 [.agg [.int .i64 s.length,.int .i64 (s.countP Q0),.int .i64 ((s.take i).countP Jt)]]]⟩) (fun i=>i<=s.length) (fun i=>s.length-i) 0 rfl rfl (Nat.zero_le _) ?_
 intro i hi
 repeat'(first|refine ruS Y ?_|refine isS Y ?_|refine ZB Y Y Y Y ?_|refine rkS Y ?_|refine Qf Y ?_|(refine cm0 Y Y Y ?_ ?_<;>intro _<;>try omega)|refine Ze Y Y Y Y Y Y ?_)
 ·rename_i hlt
  obtain⟨b,hb,ht⟩:=Zv7 (s:=s) (i:=i) (by omega)
  have hc2:=List.countP_le_length (p:=Jt) (l:=s.take i);have hl:=List.length_take_le i s
  have hb2:s[(i:Int).toNat]?=some b:=by simpa using hb
  have e2:((s.take (i+1)).countP Jt)=(s.take i).countP Jt+(if Jt b then 1 else 0):=by
   rw[ht,List.countP_append];simp[List.countP_cons]
  have fin:∀y:Int,y=((s.take (i+1)).countP Jt:Nat)->∃c:Nat,([(0,AV.str s),(2,.ptr A.length 0 0 0 0),(3,.ptr A.length 1 0 0 0),(4,.int .i64 ((i:Int)+1))]=[(0,AV.str s),(2,.ptr A.length 0 0 0 0),(3,.ptr A.length 1 0 0 0),(4,.int .i64 c)] /\
   (⟨A,false,[.arr 3 0 [.agg [.int .i64 0,.int .i64 0,.int .i64 0]],.arr 3 0 [.agg [.int .i64 s.length,.int .i64 (s.countP Q0),.int .i64 y]]]⟩:St)=⟨A,false,[.arr 3 0 [.agg [.int .i64 0,.int .i64 0,.int .i64 0]],.arr 3 0 [.agg [.int .i64 s.length,.int .i64 (s.countP Q0),.int .i64 ((s.take c).countP Jt)]]]⟩)/\c<=s.length/\s.length-c<s.length-i:=by
   intro y hy;subst hy
   exact⟨i+1,⟨rfl,rfl⟩,by omega,by omega⟩
  have hfb:Jt b=decide ((b.toNat:Int)=10):=by unfold Jt;rw[Bool.eq_iff_iff];simp<;>omega
  rw[hfb]at e2;simp only[decide_eq_true_eq]at e2
  repeat'(first|refine ruS Y ?_|refine isS Y ?_|refine ZB Y Y Y Y ?_|refine rkS Y ?_|(refine cm0 Y Y Y ?_ ?_<;>intro _<;>try omega)|refine ZL Y Y (by omega) ?_|refine Ze Y Y Y Y Y Y ?_|refine ZVF Y Y (by omega) hb2 ?_)
  all_goals refine fin _ ?_
  all_goals (rw[e2];split<;>omega)
 ·have hi':i=s.length:=by omega
  subst hi';rw[List.take_length]
  refine JL hA (by simp) Y Y Y Y Y ?_
  rfl
section
variable {O:Orc}{k:List Fr}{Q:Qn}{e:Env}{st:St}{keep:List Nat}{is:List PI}{d:Nat}
theorem ZwN{y:Opd}{a:Nat}{c:Int}(hx:ZY e x=some (.int .u64 a))(hy:ZY e y=some (.int .u64 c))(hc:c=b)(hw:a*b<18446744073709551616)(h:Is O is keep k Q ((d,.int .u64 ((a*b:Nat):Int))::e) st):Is O (⟨some d,none,false,.bin .mul x y⟩::is) keep k Q e st:=by
 subst hc;refine ZGO hx hy ?_ h
 show some (AV.int .u64 (IntKind.u64.wrap ((a:Int)*(b:Int))))=_
 rw[<- Int.natCast_mul,ZGG hw]
theorem ZwO{y:Opd}{a:Nat}(hx:ZY e x=some (.int .u64 a))(hy:ZY e y=some (.int .u64 b))(hw:a+b<18446744073709551616)(h:Is O is keep k Q ((d,.int .u64 ((a+b:Nat):Int))::e) st):Is O (⟨some d,none,false,.bin .add x y⟩::is) keep k Q e st:=by
 refine ZGO hx hy ?_ h
 show some (AV.int .u64 (IntKind.u64.wrap ((a:Int)+(b:Int))))=_
 rw[<- Int.natCast_add,ZGG hw]
theorem ZwP{y:Opd}{a:Nat}{c:Int}(hx:ZY e x=some (.int .u64 a))(hy:ZY e y=some (.int .u64 c))(hc:c=b)(hw:a<18446744073709551616/\0<b)(h:Is O is keep k Q ((d,.int .u64 ((a / b:Nat):Int))::e) st):Is O (⟨some d,none,false,.bin .quo x y⟩::is) keep k Q e st:=by
 subst hc;have h1:a / b<=a:=Nat.div_le_self a b;refine ZGO hx hy ?_ h
 show (if (b:Int)=0 then none else some (AV.int .u64 (IntKind.u64.wrap ((a:Int).tdiv b))))=_
 rw[if_neg (by omega),Int.tdiv_eq_ediv_of_nonneg (by omega),<- Int.natCast_ediv,ZGG (by omega)]
theorem ZwQ{y:Opd}{a:Nat}{c:Int}(hx:ZY e x=some (.int .u64 a))(hy:ZY e y=some (.int .u64 c))(hc:c=b)(hw:0<b)(h:Is O is keep k Q ((d,.int .u64 ((a % b:Nat):Int))::e) st):Is O (⟨some d,none,false,.bin .rem x y⟩::is) keep k Q e st:=by
 subst hc;refine ZGO hx hy ?_ h
 show (if (b:Int)=0 then none else some (AV.int .u64 ((a:Int).tmod b)))=_
 rw[if_neg (by omega),Int.tmod_eq_emod_of_nonneg (by omega),<- Int.natCast_emod]
end
theorem Zrk(s g:Nat)(hs:s<16384)(hg:1<=g/\g<=4294967295)(st:St):S Tb ZAM [.int .i64 s,.int .u64 g] st=some (.tup [.int .u64 ((g*65536+s:Nat):Int),.int .i64 0],st):=by
 refine Zj Y (fun A hA=>?_)
 repeat'(first|refine ruS Y ?_|refine isS Y ?_|refine rkS Y ?_|(refine cm0 Y Y Y ?_ ?_<;>intro _<;>try omega)|refine ZwN (b:=65536) Y Y (by omega) (by omega) ?_|refine ZwO Y Y (by omega) ?_|refine ZOK Y (ZGG (by omega)) ?_)
 all_goals try omega
 all_goals refine ZO hA (by simp) Y Y Y Y ?_
 all_goals rfl
theorem ZlQ(h:Nat)(hh:X8 h)(st:St):S Tb Xs [.int .u64 h] st=some (.int .i64 0,st):=by
 refine Zj Y (fun A hA=>?_)
 have h1:=hh.1;have h2:=hh.2
 repeat'(first|refine ruS Y ?_|refine isS Y ?_|refine rkS Y ?_|(refine cm0 Y Y Y ?_ ?_<;>intro _<;>try omega)|refine ZwP (b:=65536) Y Y (by omega) (by omega) ?_|refine ZwQ (b:=65536) Y Y (by omega) (by omega) ?_)
 all_goals try omega
 all_goals refine ZO hA (by simp) Y Y Y Y ?_
 all_goals rfl
theorem ZnS(n:Nat)(hn:n<=15)(k:Kid)(hk:KidOk n k)(st:St):S Tb ZAk [.int .i64 ((n+1:Nat):Int),k.av] st=some (.bool true,st):=by
 refine Zj Y (fun A hA=>?_)
 obtain⟨a1,b1,c1,d1,e1,f1,g1⟩:=hk
 repeat'(first|refine ruS Y ?_|refine isS Y ?_|refine ZX ?_|refine ZJ Y Y Y ?_)
 refine Zc (α:=Nat) (fun i=>[(0,.int .i64 ((n+1:Nat):Int)),(3,.ptr A.length 0 0 0 0),(5,.int .i64 (leastB i)),(6,.int .i64 (mostB i)),(7,.int .i64 ((i+1:Nat):Int))]) (fun i=>⟨A,false,[.arr 4 0 [k.av]]⟩) (fun i=>i<=n) (fun i=>n-i) 0 Y Y (by omega) ?_
 intro i hi
 have hl:=ZCy (h:=i) (by omega)
 have hm:=ZQq i
 repeat'(first|refine ruS Y ?_|refine isS Y ?_|refine ZB Y Y Y Y ?_|refine rkS Y ?_|(refine cm0 Y Y Y ?_ ?_<;>intro _<;>try omega)|refine ZL Y Y (by omega) ?_|refine ZqM Y Y (by omega) ?_|refine ZJ Y Y Y ?_|refine Ze Y Y Y Y Y Y ?_|refine Zc9 Y Y ?_)
 ·refine⟨i+1,⟨?_,rfl⟩,by omega,by omega⟩
  rw[ZGH];simp only[mostB,jB,if_false]
  rw[show ((min (mostB i*4) 65536:Nat):Int)=min ((mostB i:Int)*4) 65536 by omega]
  rfl
 ·have:i=n:=by omega
  subst this
  repeat'(first|refine isS Y ?_|refine ZB Y Y Y Y ?_|refine rkS Y ?_|(refine cm0 Y Y Y ?_ ?_<;>intro _<;>try omega)|refine ZA Y Y Y (ZlQ k.at_ a1 _) ?_|refine Jq ?_)
  all_goals try omega
  all_goals refine ZO hA (by simp) Y Y Y Y ?_
  all_goals rfl
theorem Zfi(x:Nd)(h0:x.h=0)(h1:1<=x.text.length/\x.text.length<=16)(h2:x.ks=[])(st:St):S Tb JW [x.av] st=some (.bool true,st):=by
 obtain⟨h,text,kids⟩:=x
 simp only at h0 h1
 subst h0
 refine Zj Y (fun A hA=>?_)
 cases kids with
 | none =>
  simp only[Nd.av,slV]
  repeat'(first|refine ruS Y ?_|refine isS Y ?_|refine ZB Y Y Y Y ?_|refine rkS Y ?_|refine Qf Y ?_|refine QG Y ?_|(refine cm0 Y Y Y ?_ ?_<;>intro _<;>try omega)|refine ZJ Y Y Y ?_)
  all_goals try omega
  refine ZO hA (by simp) Y Y Y Y ?_
  rfl
 | some l =>
  have:l=[]:=h2
  subst this;simp only[Nd.av,slV]
  repeat'(first|refine ruS Y ?_|refine isS Y ?_|refine ZB Y Y Y Y ?_|refine rkS Y ?_|refine Qf Y ?_|refine Qg Y Y ?_|(refine cm0 Y Y Y ?_ ?_<;>intro _<;>try omega)|refine ZJ Y Y Y ?_)
  all_goals try omega
  refine ZO hA (by simp) Y Y Y Y ?_
  rfl
theorem ZlR(n:Nat)(hn:n<=15)(ks:List Kid)(hk:2<=ks.length/\ks.length<=4)(hs:∀k∈ks,KidOk n k)(st:St):S Tb JW [Nd.av ⟨n+1,[],some ks⟩] st=some (.bool true,st):=by
 refine Zj Y (fun A hA=>?_)
 simp only[Nd.av,slV]
 repeat'(first|refine ruS Y ?_|refine isS Y ?_|refine ZB Y Y Y Y ?_|refine ZX ?_|refine Zi Y ?_|(refine cm0 Y Y Y ?_ ?_<;>intro _<;>try omega)|(refine ZCM Y Y (fun _=>?_) (fun _=>?_)<;>try contradiction)|refine ZJ Y Y Y ?_)
 all_goals try omega
 refine Zc (α:=Nat) (fun i=>[(1,.ptr A.length 0 0 0 0),(3,.int .i64 i)]) (fun i=>⟨A,false,[.arr 3 0 [.agg [.int .i64 ↑(n+1),.str [],.lit (ks.map Kid.av)]]]⟩) (fun i=>i<=ks.length) (fun i=>ks.length-i) 0 Y Y (by simp) ?_
 intro i hi
 repeat'(first|refine ruS Y ?_|refine isS Y ?_|refine ZB Y Y Y Y ?_|refine rkS Y ?_|refine Zi Y ?_|refine Zk Y Y ?_|refine QY Y Y (by omega) (fun _=>rfl) (fun _ _=>?_)|(refine cm0 Y Y Y ?_ ?_<;>intro _<;>try omega))
 ·rename_i k hk'
  have hK:=fun st=>ZnS n hn k (hs k (jM hk')) st
  repeat'(first|refine ruS Y ?_|refine isS Y ?_|refine rkS Y ?_|refine ZL Y Y (by omega) ?_|refine ZA Y Y Y (hK _) ?_)
  exact⟨i+1,⟨rfl,rfl⟩,by omega,by omega⟩
 ·refine ZO hA (by simp) Y Y Y Y ?_
  rfl
theorem Zh9(n:Nat)(hn:n<=15)(ks:List Kid)(hk:2<=ks.length/\ks.length<=4)(hs:∀k∈ks,KidOk n k)(st:St){lv:Nat}(hr:KRef st lv ix ver ks):S Tb JW [ndR (n+1) lv ix ver ks.length] st=some (.bool true,st):=by
 refine Zj Y (fun A hA=>?_)
 obtain⟨es,g,ge⟩:=hr
 have gA:=fun L=>ZS hA (ro:=false) (L:=L) g
 have hwi:∀L,wIs 4 ver (St.get ⟨A,false,L⟩ lv ix)=true:=fun L=>by rw[gA];simp[wIs]
 unfold ndR
 repeat'(first|refine ruS Y ?_|refine isS Y ?_|refine ZB Y Y Y Y ?_|refine ZX ?_|refine Zp Y ?_|(refine cm0 Y Y Y ?_ ?_<;>intro _<;>try omega)|(refine ZCM Y Y (fun _=>?_) (fun _=>?_)<;>try contradiction)|refine ZJ Y Y Y ?_)
 all_goals try omega
 refine Zc (α:=Nat) (fun i=>[(1,.ptr A.length 0 0 0 0),(3,.int .i64 i)]) (fun i=>⟨A,false,[.arr 3 0 [.agg [.int .i64 ↑(n+1),.str [],.ref lv ix ver 0 ks.length]]]⟩) (fun i=>i<=ks.length) (fun i=>ks.length-i) 0 Y Y (by simp) ?_
 intro i hi
 repeat'(first|refine ruS Y ?_|refine isS Y ?_|refine ZB Y Y Y Y ?_|refine rkS Y ?_|refine Zp Y ?_|(refine cm0 Y Y Y ?_ ?_<;>intro _<;>try omega))
 ·rename_i hlt
  obtain⟨k,hk'⟩:∃k,ks[i]?=some k:=⟨ks[i]'(by omega),by simp[show i<ks.length by omega]⟩
  have hK:=fun st=>ZnS n hn k (hs k (jM hk')) st
  refine JA Y Y (by omega) (hwi _) ?_
  refine Z1 (x:=k.av) Y (gA _) (ZGK ge hk') Y ?_
  repeat'(first|refine ruS Y ?_|refine isS Y ?_|refine rkS Y ?_|refine ZL Y Y (by omega) ?_|refine ZA Y Y Y (hK _) ?_)
  exact⟨i+1,⟨rfl,rfl⟩,by omega,by omega⟩
 ·refine ZO hA (by simp) Y Y Y Y ?_
  rfl
theorem ZnT{ks:List Kid}(hs:∀k∈ks,k.m.Fit 65536)(i:Nat)(hk:ks.length<=4):(QX ((ks.take i).map Kid.m)).Fit 262144:=by
 have:=ZIJ (l:=(ks.take i).map Kid.m) (by
  intro m hm;obtain⟨k,hk1,rfl⟩:=List.mem_map.1 hm
  exact hs k (List.mem_of_mem_take hk1))
 have hl:((ks.take i).map Kid.m).length<=4:=by rw[List.length_map,List.length_take];omega
 obtain⟨a,b,c,d,e,f⟩:=this
 constructor<;>omega
theorem ZnU{ks:List Kid}{k:Kid}(h:ks[i]?=some k):QX ((ks.take (i+1)).map Kid.m)=(QX ((ks.take i).map Kid.m)).add k.m:=by
 rw[ZU h,List.map_append,ZQr];simp only[jC,List.map_nil,QX,Mea.add_zero]
theorem ZjB(n:Nat)(ks:List Kid)(hk:ks.length<=4)(hs:∀k∈ks,k.m.Fit 65536)(st:St):S Tb Jc [Nd.av ⟨n+1,[],some ks⟩,.int .i64 ks.length] st=some ((QX (ks.map Kid.m)).av,st):=by
 refine Zj Y (fun A hA=>?_)
 simp only[Nd.av,slV]
 repeat'(first|refine ruS Y ?_|refine isS Y ?_|refine ZX ?_|refine ZZ Y Y Y ?_|refine ZJ Y Y Y ?_|refine Ze Y Y Y Y Y Y ?_)
 refine Zc (α:=Nat × List Blk) (fun p=>[(1,.int .i64 ks.length),(2,.ptr A.length 0 0 0 0),(4,.ptr A.length 1 0 0 0),(5,.ptr A.length 2 0 0 0),(6,.int .i64 p.1)]) (fun p=>⟨A,false,.arr 3 0 [.agg [.int .i64 ↑(n+1),.str [],.lit (ks.map Kid.av)]]::.arr 3 0 [.agg [.int .i64 0,.int .i64 0,.int .i64 0]]::.arr 3 0 [(QX ((ks.take p.1).map Kid.m)).av]::p.2⟩) (fun p=>p.1<=ks.length) (fun p=>ks.length-p.1) (0,[]) Y Y (by simp) ?_
 rintro⟨i,G⟩ hi
 simp only at hi ⊢
 have hf:=ZnT hs i hk
 have he:=fun k hk=>ZnU (ks:=ks) (i:=i) (k:=k) hk
 generalize hsm:QX ((ks.take i).map Kid.m)=sm at *
 obtain⟨sb,sr,sl⟩:=sm;obtain⟨f1,f2,f3,f4,f5,f6⟩:=hf
 simp only[Mea.av]at *
 repeat'(first|refine ruS Y ?_|refine isS Y ?_|refine ZB Y Y Y Y ?_|refine rkS Y ?_|refine Z5 Y Y Y ?_|refine Zk Y Y ?_|refine QY Y Y (by omega) (fun _=>rfl) (fun _ _=>?_)|(refine cm0 Y Y Y ?_ ?_<;>intro _<;>try omega)|refine Za Y Y Y ?_|refine J5 Y Y Y Y Y Y ?_|refine Q1 Y Y Y Y Y Y ?_)
 ·rename_i k hk'
  have hk2:ks[i]?=some k:=hk';obtain⟨g1,g2,g3,g4,g5,g6⟩:=hs k (jM hk2)
  repeat'(first|refine Qp ?_|refine isS Y ?_|refine ZB Y Y Y Y ?_|refine rkS Y ?_|refine Z5 Y Y Y ?_|refine ZL Y Y (by omega) ?_|refine ZZ Y Y Y ?_|refine Q1 Y Y Y Y Y Y ?_)
  refine⟨(i+1,G++[.arr 3 0 [k.m.av]]),⟨rfl,?_⟩,by simp only;omega,by simp only;omega⟩
  simp only[he k hk2];rfl
 ·have hi':ks.take i=ks:=List.take_of_length_le (by omega)
  rw[hi']at hsm;rw[hsm]
  skip
  refine JL hA (by simp) Y Y Y Y Y ?_
  rfl
theorem Zpc(n:Nat)(ks:List Kid)(hk:ks.length<=4)(hs:∀k∈ks,k.m.Fit 65536)(st:St){lv:Nat}(hr:KRef st lv ix ver ks):S Tb Jc [ndR (n+1) lv ix ver ks.length,.int .i64 ks.length] st=some ((QX (ks.map Kid.m)).av,st):=by
 refine Zj Y (fun A hA=>?_)
 obtain⟨es,g,ge⟩:=hr
 have gA:=fun L=>ZS hA (ro:=false) (L:=L) g
 have hwi:∀L,wIs 4 ver (St.get ⟨A,false,L⟩ lv ix)=true:=fun L=>by rw[gA];simp[wIs]
 unfold ndR
 repeat'(first|refine ruS Y ?_|refine isS Y ?_|refine ZX ?_|refine ZZ Y Y Y ?_|refine ZJ Y Y Y ?_|refine Ze Y Y Y Y Y Y ?_)
 refine Zc (α:=Nat × List Blk) (fun p=>[(1,.int .i64 ks.length),(2,.ptr A.length 0 0 0 0),(4,.ptr A.length 1 0 0 0),(5,.ptr A.length 2 0 0 0),(6,.int .i64 p.1)]) (fun p=>⟨A,false,.arr 3 0 [.agg [.int .i64 ↑(n+1),.str [],.ref lv ix ver 0 ks.length]]::.arr 3 0 [.agg [.int .i64 0,.int .i64 0,.int .i64 0]]::.arr 3 0 [(QX ((ks.take p.1).map Kid.m)).av]::p.2⟩) (fun p=>p.1<=ks.length) (fun p=>ks.length-p.1) (0,[]) Y Y (by simp) ?_
 rintro⟨i,G⟩ hi
 simp only at hi ⊢
 have hf:=ZnT hs i hk
 have he:=fun k hk=>ZnU (ks:=ks) (i:=i) (k:=k) hk
 generalize hsm:QX ((ks.take i).map Kid.m)=sm at *
 obtain⟨sb,sr,sl⟩:=sm;obtain⟨f1,f2,f3,f4,f5,f6⟩:=hf
 simp only[Mea.av]at *
 repeat'(first|refine ruS Y ?_|refine isS Y ?_|refine ZB Y Y Y Y ?_|refine rkS Y ?_|(refine cm0 Y Y Y ?_ ?_<;>intro _<;>try omega)|refine Q1 Y Y Y Y Y Y ?_)
 ·rename_i hlt
  obtain⟨k,hk2⟩:∃k,ks[i]?=some k:=⟨ks[i]'(by omega),by simp[show i<ks.length by omega]⟩
  obtain⟨g1,g2,g3,g4,g5,g6⟩:=hs k (jM hk2)
  refine JA Y Y (by omega) (hwi _) ?_
  refine ZCN Y Y ?_;refine Z1 (x:=k.av) Y (gA _) (ZGK ge hk2) Y ?_
  repeat'(first|refine Qp ?_|refine isS Y ?_|refine ZB Y Y Y Y ?_|refine rkS Y ?_|refine Z5 Y Y Y ?_|refine ZL Y Y (by omega) ?_|refine ZZ Y Y Y ?_|refine Za Y Y Y ?_|refine J5 Y Y Y Y Y Y ?_|refine Q1 Y Y Y Y Y Y ?_)
  refine⟨(i+1,G++[.arr 3 0 [k.m.av]]),⟨rfl,?_⟩,by simp only;omega,by simp only;omega⟩
  simp only[he k hk2];rfl
 ·have hi':ks.take i=ks:=List.take_of_length_le (by omega)
  rw[hi']at hsm;rw[hsm]
  skip
  refine JL hA (by simp) Y Y Y Y Y ?_
  rfl
theorem ZnV(x:Nd)(st:St):S Tb Jc [x.av,.int .i64 0] st=some (Mea.zero.av,st):=by
 obtain⟨h,text,kids⟩:=x
 refine Zj Y (fun A hA=>?_)
 simp only[Nd.av]
 cases kids
 all_goals simp only[slV]
 all_goals repeat'(first|refine ruS Y ?_|refine isS Y ?_|refine ZB Y Y Y Y ?_|refine rkS Y ?_|(refine cm0 Y Y Y ?_ ?_<;>intro _<;>try omega)|refine ZZ Y Y Y ?_|refine ZJ Y Y Y ?_|refine Ze Y Y Y Y Y Y ?_|refine Zr ?_)
 all_goals refine JL hA (by simp) Y Y Y Y Y ?_
 all_goals rfl
theorem ZZX(x:Nd)(hx:NdOk x)(st:St):S Tb Jl [x.av] st=some (.int .i64 0,st):=by
 rcases hx with h|⟨n,ks,rfl,h1,h2,h3,h4,h5⟩
 ·have hf:=fun st=>Zfi x h.h ⟨h.lo,h.hi⟩ h.ks st
  have hS:=fun st=>ZnV x st
  have hks:=h.ks;unfold Mea.av at hS;obtain⟨h,text,kids⟩:=x
  simp only[Nd.av]at *
  refine Zj Y (fun A hA=>?_)
  cases kids with
  | none =>
   simp only[slV]at *
   repeat'(first|refine ruS Y ?_|refine isS Y ?_|refine ZB Y Y Y Y ?_|refine rkS Y ?_|refine ZOM (agg:=false) Y Y ?_|refine QG Y ?_|(refine cm0 Y Y Y ?_ ?_<;>intro _<;>try omega)|refine ZJ Y Y Y ?_|refine ZA Y Y Y (hf _) ?_|refine ZA Y Y Y (hS _) ?_)
   all_goals try (exfalso;simp[Mea.zero]at *;done)
   all_goals refine ZO hA (by simp) Y Y Y Y ?_
   all_goals rfl
  | some l =>
   have:l=[]:=hks
   subst this
   simp only[slV]at *
   repeat'(first|refine ruS Y ?_|refine isS Y ?_|refine ZB Y Y Y Y ?_|refine rkS Y ?_|refine ZOM (agg:=false) Y Y ?_|refine Qg Y Y ?_|(refine cm0 Y Y Y ?_ ?_<;>intro _<;>try omega)|refine ZJ Y Y Y ?_|refine ZA Y Y Y (hf _) ?_|refine ZA Y Y Y (hS _) ?_)
   all_goals try (exfalso;simp[Mea.zero]at *;done)
   all_goals refine ZO hA (by simp) Y Y Y Y ?_
   all_goals rfl
 ·have hf:=fun st=>ZlR n h1 ks ⟨h2,h3⟩ h4 st
  have hS:=fun st=>ZjB n ks h3 (fun k hk=>(h4 k hk).fit) st
  unfold Mea.av at hS
  simp only[Nd.av,slV]at *
  refine Zj Y (fun A hA=>?_)
  repeat'(first|refine ruS Y ?_|refine isS Y ?_|refine ZB Y Y Y Y ?_|refine rkS Y ?_|refine ZOM (agg:=false) Y Y ?_|refine Zi Y ?_|(refine cm0 Y Y Y ?_ ?_<;>intro _<;>try omega)|refine ZJ Y Y Y ?_|refine ZA Y Y Y (hf _) ?_|refine ZA Y Y Y (hS _) ?_)
  refine ZO hA (by simp) Y Y Y Y ?_
  rfl
theorem ZiA(n:Nat)(hn:n<=15)(ks:List Kid)(hk:2<=ks.length/\ks.length<=4)(hs:∀k∈ks,KidOk n k)(hsum:(QX (ks.map Kid.m)).b<=65536)(st:St){lv:Nat}(hr:KRef st lv ix ver ks):S Tb Jl [ndR (n+1) lv ix ver ks.length] st=some (.int .i64 0,st):=by
 refine Zj Y (fun A hA=>?_)
 have hf:=fun L=>Zh9 n hn ks hk hs _ (hr.push hA (ro:=false) (L:=L))
 have hS:=fun L=>Zpc n ks hk.2 (fun k hk=>(hs k hk).fit) _ (hr.push hA (ro:=false) (L:=L))
 unfold Mea.av ndR at *
 repeat'(first|refine ruS Y ?_|refine isS Y ?_|refine ZB Y Y Y Y ?_|refine rkS Y ?_|refine ZOM (agg:=false) Y Y ?_|refine Zp Y ?_|(refine cm0 Y Y Y ?_ ?_<;>intro _<;>try omega)|refine ZJ Y Y Y ?_|refine ZA Y Y Y (hf _) ?_|refine ZA Y Y Y (hS _) ?_)
 refine ZO hA (by simp) Y Y Y Y ?_
 rfl
theorem ZTT(x:Nd)(hx:NdOk x)(st:St):S Tb J3 [x.av] st=some (.tup [x.mea.av,.int .i64 0],st):=by
 have hC:=fun st=>ZZX x hx st
 rcases hx with h|⟨n,ks,rfl,h1,h2,h3,h4,h5⟩
 ·have hS:=fun st=>ZwM x.text (by have:=h.hi;omega) st
  have he:x.mea=ZAz x.text:=by unfold Nd.mea;rw[if_pos h.h]
  have h0:=h.h;rw[he]
  unfold Mea.av at *
  obtain⟨h,text,kids⟩:=x
  simp only at h0
  subst h0
  simp only[Nd.av]at *
  refine Zj Y (fun A hA=>?_)
  cases kids
  all_goals simp only[slV]at *
  all_goals repeat'(first|refine ruS Y ?_|refine isS Y ?_|refine ZB Y Y Y Y ?_|refine rkS Y ?_|(refine cm0 Y Y Y ?_ ?_<;>intro _<;>try omega)|refine ZJ Y Y Y ?_|refine Ze Y Y Y Y Y Y ?_|refine ZA Y Y Y (hC _) ?_|refine ZA Y Y Y (hS _) ?_)
  all_goals refine JL hA (by simp) Y Y Y Y Y ?_
  all_goals rfl
 ·have hS:=fun st=>ZjB n ks h3 (fun k hk=>(h4 k hk).fit) st
  have he:Nd.mea ⟨n+1,[],some ks⟩=QX (ks.map Kid.m):=rfl;rw[he]
  unfold Mea.av at *
  simp only[Nd.av,slV]at *
  refine Zj Y (fun A hA=>?_)
  repeat'(first|refine ruS Y ?_|refine isS Y ?_|refine ZB Y Y Y Y ?_|refine rkS Y ?_|refine Zi Y ?_|(refine cm0 Y Y Y ?_ ?_<;>intro _<;>try omega)|refine ZJ Y Y Y ?_|refine Ze Y Y Y Y Y Y ?_|refine ZA Y Y Y (hC _) ?_|refine ZA Y Y Y (hS _) ?_)
  all_goals try omega
  all_goals refine JL hA (by simp) Y Y Y Y Y ?_
  all_goals rfl
theorem ZnW(ks:List Kid):∀v∈ks.map Kid.av,imm 5 v=true:=by
 intro v hv;obtain⟨k,_,rfl⟩:=List.mem_map.1 hv;rfl
theorem ZlS(ks:List Kid)(hk:ks.length<=4)(st:St){lv:Nat}(hr:KRef st lv ix ver ks):S Tb JX [.ref lv ix ver 0 ks.length] st=some (.lit (ks.map Kid.av),st):=by
 refine Zj Y (fun A hA=>?_)
 obtain⟨es,g,ge⟩:=hr
 have gA:=fun L=>ZS hA (ro:=false) (L:=L) g
 have hwi:∀L,wIs 4 ver (St.get ⟨A,false,L⟩ lv ix)=true:=fun L=>by rw[gA];simp[wIs]
 repeat'(first|refine ruS Y ?_|refine isS Y ?_|refine ZX ?_|refine QN Y ?_)
 refine Zc (α:=Nat) (fun i=>[(0,.ref lv ix ver 0 ks.length),(3,.ref A.length 0 i 0 i),(4,.int .i64 i)]) (fun i=>⟨A,false,[.arr 4 i ((ks.take i).map Kid.av)]⟩) (fun i=>i<=ks.length) (fun i=>ks.length-i) 0 Y Y (by simp) ?_
 intro i hi
 have hlen:((ks.take i).map Kid.av).length=i:=by rw[List.length_map,List.length_take];omega
 repeat'(first|refine ruS Y ?_|refine isS Y ?_|refine rkS Y ?_|refine Zp Y ?_|(refine cm0 Y Y Y ?_ ?_<;>intro _<;>try omega))
 ·rename_i hlt
  obtain⟨k,hk2⟩:∃k,ks[i]?=some k:=⟨ks[i]'(by omega),by simp[show i<ks.length by omega]⟩
  refine JA Y Y (by omega) (hwi _) ?_
  refine Z1 (x:=k.av) Y (gA _) (ZGK ge hk2) Y ?_
  repeat'(first|refine Qp ?_|refine isS Y ?_|refine rkS Y ?_|refine ZL Y Y (by omega) ?_|refine Zz Y Y Y Y ?_|refine X5 Y Y Y (by first|rfl|(simp;done)|(simp;omega)) (by first|omega|(simp<;>omega)) (by decide) rfl rfl rfl ?_)
  refine⟨i+1,⟨rfl,?_⟩,by omega,by omega⟩
  rw[ZU hk2,List.map_append];rfl
 ·have hi':i=ks.length:=by omega
  subst hi';rw[List.take_length]
  skip
  refine Qu hA (.inr Y) Y Y (by simp) (ZnW _) ?_
  rfl
theorem KRef.allRo{lv:Nat}{ks:List Kid}(h:KRef st lv ix ver ks):KRef st.allRo lv ix ver ks:=by
 obtain⟨es,h1,h2⟩:=h
 exact⟨es,by rw[Qm];exact h1,h2⟩
theorem ZiB(st:St):S Tb JX [.lit []] st=some (.lit [],st):=by
 refine Zj Y (fun A hA=>?_)
 repeat'(first|refine ruS Y ?_|refine isS Y ?_|refine rkS Y ?_|refine Qg Y Y ?_|(refine cm0 Y Y Y ?_ ?_<;>intro _<;>try omega)|refine QN Y ?_|refine Zr ?_)
 refine Qu hA (by simp) Y Y (by simp) (by first|(simp[imm];done)|exact fun _ h=>absurd h (by simp)) ?_
 rfl
theorem ZiC(text:B8)(st:St):S Tb QT [.agg [.int .i64 (0:Nat),.str text,.nils]] st=some (Nd.av ⟨0,text,some []⟩,st):=by
 refine Zj Y (fun A hA=>?_)
 have hC:=fun st=>ZiB st
 repeat'(first|refine ruS Y ?_|refine isS Y ?_|refine ZB Y Y Y Y ?_|refine rkS Y ?_|refine ZZ Y Y Y ?_|refine ZJ Y Y Y ?_|refine Ze Y Y Y Y Y Y ?_|refine Zw Y Y Y (hC _) ?_)
 refine JL hA (by simp) Y Y Y Y Y ?_
 rfl
theorem ZlT(n:Nat)(ks:List Kid)(hk:ks.length<=4)(st:St){lv:Nat}(hr:KRef st lv ix ver ks):S Tb QT [ndR (n+1) lv ix ver ks.length] st=some (Nd.av ⟨n+1,[],some ks⟩,st):=by
 refine Zj Y (fun A hA=>?_)
 have hC:=fun L=>ZlS ks hk _ (hr.push hA (ro:=false) (L:=L)).allRo
 unfold ndR
 repeat'(first|refine ruS Y ?_|refine isS Y ?_|refine ZB Y Y Y Y ?_|refine rkS Y ?_|refine ZZ Y Y Y ?_|refine ZJ Y Y Y ?_|refine Ze Y Y Y Y Y Y ?_|refine Zw Y Y Y (hC _) ?_)
 refine JL hA (by simp) Y Y Y Y Y ?_
 rfl
def ZAw(p:Nat × Nd):AV:=.agg [.int .u64 p.1,.int .i64 p.2.h,.str p.2.text,.lit (p.2.ks.map Kid.av)]
inductive Its (st:St):AV->ZF->Prop
 | nil:Its st .nils []
 | ref {lv ix ver n:Nat} {N:ZF} {es:LV} (hg:st.get lv ix=some (.arr 4 ver es)) (hn:n=N.length) (he:es.take n=N.map ZAw):Its st (.ref lv ix ver 0 n) N
theorem Its.push{L:List Blk}(hA:A=st.A++[(st.ro,st.L)]){N:ZF}(h:Its st v N):Its ⟨A,ro,L⟩ v N:=by
 cases h with
 | nil=>exact .nil
 | ref hg hn he=>exact .ref (ZS hA hg) hn he
structure RRd(st:St)(lv ix:Nat)(N:ZF):Prop where
 ex:∃l v c0 c1 c2 c3 c4 c5 c6,st.get lv ix=some (.arr 9 0 [.agg [l,v,c0,c1,c2,c3,c4,c5,c6]])/\Its st v N
theorem ZWw{N:ZF}(hn:n=N.length)(h:es.take n=N.map ZAw){p:Nat × Nd}(hk:N[i]?=some p):es[0+((i:Nat):Int).toNat]?=some (ZAw p):=by
 have hlt:i<N.length:=(List.getElem?_eq_some_iff.1 hk).1
 have h1:(es.take n)[i]?=some (ZAw p):=by rw[h,jG,hk];rfl
 rw[List.getElem?_take,if_pos (by omega)]at h1
 rw[show 0+((i:Nat):Int).toNat=i by omega];exact h1
theorem Zqe:∀ {N:ZF} {h:Nat} {x:Nd},lk N h=some x->∃j:Nat,N[j]?=some (h,x)/\∀(i:Nat) (p:Nat × Nd),i<j->N[i]?=some p->p.1≠h
 | [],h,x,q=>by simp[lk]at q
 | p::N,h,x,q=>by
  rw[lk]at q
  by_cases c:p.1=h
  ·rw[if_pos c]at q
   refine⟨0,?_,fun i p hi=>by omega⟩
   obtain⟨a,b⟩:=p;simp only[Option.some.injEq]at q
   simp only at c
   subst c q;rfl
  ·rw[if_neg c]at q
   obtain⟨j,h1,h2⟩:=Zqe q
   refine⟨j+1,by simpa using h1,?_⟩
   intro i p' hi hp
   match i with
   | 0=>simp at hp;rw[<- hp];exact c
   | i+1=>exact h2 i p' (by omega) (by simpa using hp)
theorem Zt0{lv:Nat}{N:ZF}(hr:RRd st lv ix N){h:Nat}{x:Nd}(hj:N[j]?=some (h,x))(hm:∀i p,i<j->N[i]?=some p->p.1≠h)(hl:N.length<4294967296):
 S Tb JT [.ptr lv ix 0 0 0,.int .u64 h] st=some (.int .i64 j,st):=by
 obtain⟨l,v,c0,c1,c2,c3,c4,c5,c6,h1,h2⟩:=hr
 refine Zj Y (fun A hA=>?_)
 have g1:=fun L=>ZS hA (ro:=false) (L:=L) h1
 have hjl:j<N.length:=(List.getElem?_eq_some_iff.1 hj).1
 cases h2 with
 | nil=>simp at hj
 | @ref lv' ix' ver n N es hg hn he =>
  have g2:=fun L=>ZS hA (ro:=false) (L:=L) hg
  have hwi:∀L,wIs 4 ver (St.get ⟨A,false,L⟩ lv' ix')=true:=fun L=>by rw[g2];simp[wIs]
  repeat'(first|refine ruS Y ?_|refine isS Y ?_|refine ZX ?_)
  refine Zc (α:=Nat) (fun i=>[(0,.ptr lv ix 0 0 0),(1,.int .u64 h),(5,.int .i64 i)]) (fun i=>⟨A,false,[]⟩) (fun i=>i<=j) (fun i=>j-i) 0 Y Y (by omega) ?_
  intro i hi
  repeat'(first|refine ruS Y ?_|refine isS Y ?_|refine ZX ?_|refine Zp Y ?_|(refine cm0 Y Y Y ?_ ?_<;>intro _<;>try omega)|refine Z1 Y (g1 _) Y Y ?_)
  ·obtain⟨p,hp⟩:∃p,N[i]?=some p:=⟨N[i]'(by omega),by simp[show i<N.length by omega]⟩
   refine JA Y Y (by omega) (hwi _) ?_
   refine ZCN Y Y ?_;refine Z1 (x:=ZAw p) Y (g2 _) (ZWw hn he hp) Y ?_
   repeat'(first|refine ruS Y ?_|refine isS Y ?_|refine rkS Y ?_|(refine cm0 Y Y Y ?_ ?_<;>intro _<;>try omega)|refine ZL Y Y (by omega) ?_)
   ·rename_i q
    have:i=j:=by
     rcases Nat.lt_or_ge i j with w|w
     ·exact absurd (by omega) (hm i p w hp)
     ·omega
    subst this
    refine ZO hA (by simp) Y Y Y Y ?_
    rfl
   ·rename_i q
    have:i≠j:=by
     intro w;subst w;rw[hj]at hp
     have:=Option.some.inj hp
     subst this;exact q Y
    exact⟨i+1,⟨rfl,rfl⟩,by omega,by omega⟩
def Nd.lit(x:Nd):Nd:=⟨x.h,x.text,some x.ks⟩
theorem NdOk.lit{x:Nd}(h:NdOk x):NdOk x.lit:=by
 rcases h with h|⟨n,ks,h⟩
 ·exact .inl ⟨h.h,h.lo,h.hi,h.ks⟩
 ·refine .inr ⟨n,ks,?_⟩
  obtain⟨rfl,a,b,c,d,e⟩:=h;exact⟨rfl,a,b,c,d,e⟩
theorem Nd.lit_mea(x:Nd):x.lit.mea=x.mea:=rfl
theorem ZlU{lv:Nat}(text:B8):S Tb JS [.ptr lv ix 0 0 0,.agg [.int .i64 (0:Nat),.str text,.nils]] st=some (.int .i64 0,st):=by
 refine Zj Y (fun A hA=>?_)
 repeat'(first|refine ruS Y ?_|refine isS Y ?_|refine ZB Y Y Y Y ?_|refine rkS Y ?_|refine QG Y ?_|(refine cm0 Y Y Y ?_ ?_<;>intro _<;>try omega)|refine ZJ Y Y Y ?_|refine Zr ?_)
 all_goals refine ZO hA (by simp) Y Y Y Y ?_
 all_goals rfl
theorem RRd.push{L:List Blk}(hA:A=st.A++[(st.ro,st.L)]){lv:Nat}{N:ZF}(h:RRd st lv ix N):RRd ⟨A,ro,L⟩ lv ix N:=by
 obtain⟨l,v,c0,c1,c2,c3,c4,c5,c6,h1,h2⟩:=h;exact⟨l,v,c0,c1,c2,c3,c4,c5,c6,ZS hA h1,h2.push hA⟩
theorem Zpd{lv:Nat}{N:ZF}(hr:RRd st lv ix N)(hl:N.length<4294967296)(n:Nat)(hn:n<=15)(ks:List Kid)(hk:ks.length<=4)(hL:ZIM N n ks){kl kx:Nat}(hk2:KRef st kl kx ver ks):
 S Tb JS [.ptr lv ix 0 0 0,ndR (n+1) kl kx ver ks.length] st=some (.int .i64 0,st):=by
 have hr0:=hr;obtain⟨l,v,c0,c1,c2,c3,c4,c5,c6,h1,h2⟩:=hr
 refine Zj Y (fun A hA=>?_)
 have hR:=fun L=>hr0.push hA (ro:=false) (L:=L)
 have g1:=fun L=>ZS hA (ro:=false) (L:=L) h1
 obtain⟨es,gk,ge⟩:=hk2
 have gA:=fun L=>ZS hA (ro:=false) (L:=L) gk
 have hwi:∀L,wIs 4 ver (St.get ⟨A,false,L⟩ kl kx)=true:=fun L=>by rw[gA];simp[wIs]
 unfold ndR
 repeat'(first|refine ruS Y ?_|refine isS Y ?_|refine ZX ?_|refine ZJ Y Y Y ?_)
 refine Zc (α:=Nat × List Blk) (fun p=>[(0,.ptr lv ix 0 0 0),(3,.ptr A.length 0 0 0 0),(5,.int .i64 p.1)]) (fun p=>⟨A,false,.arr 3 0 [.agg [.int .i64 ((n+1:Nat):Int),.str [],.ref kl kx ver 0 ks.length]]::p.2⟩) (fun p=>p.1<=ks.length) (fun p=>ks.length-p.1) (0,[]) Y Y (by simp) ?_
 rintro⟨i,G⟩ hi
 simp only at hi ⊢
 repeat'(first|refine ruS Y ?_|refine isS Y ?_|refine ZB Y Y Y Y ?_|refine rkS Y ?_|refine Zp Y ?_|(refine cm0 Y Y Y ?_ ?_<;>intro _<;>try omega))
 ·rename_i hlt
  obtain⟨kd,hk'⟩:∃k,ks[i]?=some k:=⟨ks[i]'(by omega),by simp[show i<ks.length by omega]⟩
  obtain⟨y,y1,y2,y3,y4⟩:=hL kd (jM hk');obtain⟨j,j1,j2⟩:=Zqe y1
  have hF:=fun L=>Zt0 (hR L) j1 j2 hl
  have hMe:=fun st=>ZTT y.lit y2.lit st
  rw[Nd.lit_mea,y4]at hMe;have hjl:j<N.length:=(List.getElem?_eq_some_iff.1 j1).1;simp only[Nd.lit,Nd.av,slV,Mea.av]at hMe
  refine JA Y Y (by omega) (hwi _) ?_
  refine ZCN Y Y ?_;refine Z1 (x:=kd.av) Y (gA _) (ZGK ge hk') Y ?_
  cases h2 with
  | nil=>simp at j1
  | @ref lv' ix' ver' m N es' hg hm he =>
   have g2:=fun L=>ZS hA (ro:=false) (L:=L) hg
   have hwi':∀L,wIs 4 ver' (St.get ⟨A,false,L⟩ lv' ix')=true:=fun L=>by rw[g2];simp[wIs]
   have hit:=ZWw hm he j1;subst y3
   repeat'(first|refine ruS Y ?_|refine isS Y ?_|refine ZX ?_|(refine cm0 Y Y Y ?_ ?_<;>intro _<;>try omega)|refine ZA Y Y Y (hF _) ?_|refine Z1 Y (g1 _) Y Y ?_)
   refine JA Y Y (by omega) (hwi' _) ?_
   refine ZCN Y Y ?_;refine Z1 (x:=ZAw (kd.at_,y)) Y (g2 _) hit Y ?_
   repeat'(first|refine ruS Y ?_|refine isS Y ?_|refine ZB Y Y Y Y ?_|refine rkS Y ?_|refine Z5 Y Y Y ?_|(refine cm0 Y Y Y ?_ ?_<;>intro _<;>try omega)|refine QC Y Y (by omega) ?_|refine Za Y Y Y ?_|refine J5 Y Y Y Y Y Y ?_|refine ZA Y Y Y (hMe _) ?_|refine Zty Y Y Y ?_)
   ·rename_i q
    exact absurd (show (y.h:Int)=((y.h+1:Nat):Int)-1 by omega) q
   ·refine JA Y Y (by omega) (hwi _) ?_
    refine ZtR Y ?_;refine ZCN Y Y ?_;refine ZtR Y ?_;refine Z1 (x:=kd.av) Y (gA _) (ZGK ge hk') Y ?_
    repeat'(first|refine ruS Y ?_|refine isS Y ?_|refine rkS Y ?_|refine ZL Y Y (by omega) ?_|(refine ZIg Y Y (Ztj _ _ _ _ _ _) (fun _=>?_) (fun _=>?_)))
    ·exact⟨(i+1,G++[_]++[_]),⟨rfl,rfl⟩,by simp only;omega,by simp only;omega⟩
    ·rename_i q
     exact (q ⟨rfl,rfl,rfl⟩).elim
 ·refine ZO hA (by simp) Y Y Y Y ?_
  rfl
noncomputable def ZCH(N:ZF)(t:Tr)(a n:Int)(s:B8):Tr :=
 if n=0/\s=[] then t
 else JY N (JY N (Jg N t.h t a).1 (Xt s)) (Jg N (Jg N t.h t a).2.h (Jg N t.h t a).2 n).2
structure ReplOk(N:ZF)(t:Tr)(a n:Int)(s:B8)(r:Tr):Prop where
 ve:VE N r
 txt:r.txt N=(t.txt N).take a.toNat++s++(t.txt N).drop (a+n).toNat
 bytes:r.bytes=t.bytes-n+s.length
theorem ZnX{N:ZF}(hN:GoodN N)(ht:VE N t){a n:Int}(h0:0<=a)(h1:0<=n)(h2:a+n<=t.bytes)(hb:t.bytes<=65536)(hs:t.bytes-n+s.length<=65536):ReplOk N t a n s (ZCH N t a n s):=by
 unfold ZCH
 split
 ·rename_i h
  obtain⟨rfl,rfl⟩:=h
  exact⟨ht,by simp,by simp⟩
 ·have c1:=ZBU hN t.h t a ht rfl h0 (by omega) hb
  generalize Jg N t.h t a=q at *
  obtain⟨l,m⟩:=q
  simp only at *
  have hm:=c1.rb;have hl:=c1.lb
  simp only at hm hl
  have c2:=ZBU hN m.h m n c1.r rfl h1 (by omega) (by omega)
  generalize Jg N m.h m n=q at *
  obtain⟨d,r⟩:=q
  simp only at *
  have hr:=c2.rb
  simp only at hr
  obtain⟨b1,b2,b3⟩:=ZIL hN (s:=s) (by omega)
  have k1:=X1 hN c1.l b1 (by rw[b3];simp only;omega)
  have k2:=X1 hN k1.ve c2.r (by rw[k1.bytes,b3];simp only;omega)
  refine⟨k2.ve,?_,by rw[k2.bytes,k1.bytes,b3];simp only;omega⟩
  rw[k2.txt,k1.txt,b2];have e1:=c1.lt;have e2:=c1.rt;have e3:=c2.rt
  simp only at e1 e2 e3 ⊢
  rw[e1,e3,e2,List.drop_drop,show a.toNat+n.toNat=(a+n).toNat by omega]
theorem Zrl{N:ZF}(hN:GoodN N){lv:Nat}(hr:Rd st lv ix N)(ht:VE N t){a n:Int}(h0:0<=a)(h1:0<=n)(h2:a+n<=t.bytes)(hb:t.bytes<=65536)(hs:t.bytes-n+s.length<=65536):
 S Tb ZDJ [.ptr lv ix 0 0 0,t.av,.int .i64 a,.int .i64 n,.str s] st=some (.tup [(ZCH N t a n s).own.av,.int .i64 0],st):=by
 refine Zj Y (fun A hA=>?_)
 have hrp:=fun L=>hr.push hA (ro:=false) (L:=L)
 have hC:=fun L=>ZBn (hrp L) ht hb
 have hB:=fun st=>X9 t ht.pos.1 (by omega) st
 have hpos:=ht.pos.2
 by_cases hz:n=0/\s=[]
 ·have he:ZCH N t a n s=t:=by unfold ZCH;rw[if_pos hz]
  rw[he];obtain⟨rfl,rfl⟩:=hz
  have hO:=fun st=>Zi1 t ht.pos.1 st
  generalize t.own=o at *
  repeat'(first|refine ruS Y ?_|refine isS Y ?_|refine rkS Y ?_|refine ZVM Y Y ?_|(refine cm0 Y Y Y ?_ ?_<;>intro _<;>try omega)|(refine cm0 Y Y Y ?_ ?_<;>intro _<;>try omega)|(refine cm0 Y Y Y ?_ ?_<;>intro _<;>try omega)|(refine cm0 Y Y Y ?_ ?_<;>intro _<;>try omega)|(refine Jr Y Y (fun _=>?_) (fun _=>?_)<;>try contradiction)|refine QC Y Y (by omega) ?_|refine ZZ Y Y Y ?_|refine ZJ Y Y Y ?_|refine Ze Y Y Y Y Y Y ?_|refine ZB Y Y Y (ZG _) ?_|refine Ze Y Y Y (Zn _ _ _) (Zx _ _) Y ?_|refine Za Y (ZQ _) (Zg _) ?_|refine ZA Y Y (by first|rfl|(simp only[List.nil_append,List.append_nil,List.cons_append,ZH,ZC,ZE];first|done|rfl)) (hC _) ?_|refine ZA Y Y (by first|rfl|(simp only[List.nil_append,List.append_nil,List.cons_append,ZH,ZC,ZE];first|done|rfl)) (hB _) ?_|refine ZA Y Y (by first|rfl|(simp only[List.nil_append,List.append_nil,List.cons_append,ZH,ZC,ZE];first|done|rfl)) (hO _) ?_|refine Zc9 Y Y ?_)
  all_goals try (simp only[jB,if_false]at *)
  all_goals try omega
  all_goals first|(exact ZCn hA (.inr Y) Y Y Y Y)|(exact absurd ⟨by assumption,by assumption⟩ hz)
 ·have hK1:=fun L=>Ztt hN t.h (hrp L) ht rfl a h0 (by omega) hb
  have c1:=ZBU hN t.h t a ht rfl h0 (by omega) hb
  have hrm:ZCH N t a n s=JY N (JY N (Jg N t.h t a).1 (Xt s)) (Jg N (Jg N t.h t a).2.h (Jg N t.h t a).2 n).2:=by unfold ZCH;rw[if_neg hz]
  have hO0:=(ZnX hN ht h0 h1 h2 hb hs).ve.pos.1
  generalize Jg N t.h t a=q at *
  obtain⟨l,m⟩:=q
  simp only at *
  have hm:=c1.rb;have hl:=c1.lb;have vl:=c1.l;have vm:=c1.r
  simp only at hm hl vl vm
  have hK2:=fun L=>Ztt hN m.h (hrp L) vm rfl n h1 (by omega) (by omega)
  have c2:=ZBU hN m.h m n vm rfl h1 (by omega) (by omega)
  generalize Jg N m.h m n=q at *
  obtain⟨d,r⟩:=q
  simp only at *
  have vr:=c2.r;have hrb:=c2.rb
  simp only at vr hrb
  obtain⟨b1,b2,b3⟩:=ZIL hN (s:=s) (by omega)
  have hBu:=fun st=>ZlP hN s (by omega) st
  generalize Xt s=b at *
  have hc1:=fun L=>ZQs hN (hrp L) vl b1
  have k1:=(X1 hN vl b1 (by omega)).ve
  generalize JY N l b=z1 at *
  have hc2:=fun L=>ZQs hN (hrp L) k1 vr
  generalize JY N z1 r=z2 at *
  rw[hrm]at hO0 ⊢
  have hO:=fun st=>Zi1 z2 hO0 st
  generalize z2.own=zo at *
  have hmin:∀x:Int,min x 65536<=x/\min x 65536<=65536/\(min x 65536=x\/min x 65536=65536):=fun x=>by omega
  have hmin2:=hmin s.length
  repeat'(first|refine ruS Y ?_|refine isS Y ?_|refine rkS Y ?_|refine Qf Y ?_|(refine cm0 Y Y Y ?_ ?_<;>intro _<;>try omega)|(refine cm0 Y Y Y ?_ ?_<;>intro _<;>try omega)|(refine cm0 Y Y Y ?_ ?_<;>intro _<;>try omega)|(refine cm0 Y Y Y ?_ ?_<;>intro _<;>try omega)|(refine Jr Y Y (fun _=>?_) (fun _=>?_)<;>try contradiction)|refine QC Y Y (by omega) ?_|refine ZZ Y Y Y ?_|refine ZJ Y Y Y ?_|refine Ze Y Y Y Y Y Y ?_|refine ZB Y Y Y (ZG _) ?_|refine Ze Y Y Y (Zn _ _ _) (Zx _ _) Y ?_|refine Za Y (ZQ _) (Zg _) ?_|refine ZA Y Y (by first|rfl|(simp only[List.nil_append,List.append_nil,List.cons_append,ZH,ZC,ZE];first|done|rfl)) (hC _) ?_|refine ZA Y Y (by first|rfl|(simp only[List.nil_append,List.append_nil,List.cons_append,ZH,ZC,ZE];first|done|rfl)) (hB _) ?_|refine ZA Y Y (by first|rfl|(simp only[List.nil_append,List.append_nil,List.cons_append,ZH,ZC,ZE];first|done|rfl)) (hK1 _) ?_|refine ZA Y Y (by first|rfl|(simp only[List.nil_append,List.append_nil,List.cons_append,ZH,ZC,ZE];first|done|rfl)) (hK2 _) ?_|refine ZA Y Y (by first|rfl|(simp only[List.nil_append,List.append_nil,List.cons_append,ZH,ZC,ZE];first|done|rfl)) (hBu _) ?_|refine ZA Y Y (by first|rfl|(simp only[List.nil_append,List.append_nil,List.cons_append,ZH,ZC,ZE];first|done|rfl)) (hc1 _) ?_|refine ZA Y Y (by first|rfl|(simp only[List.nil_append,List.append_nil,List.cons_append,ZH,ZC,ZE];first|done|rfl)) (hc2 _) ?_|refine ZA Y Y (by first|rfl|(simp only[List.nil_append,List.append_nil,List.cons_append,ZH,ZC,ZE];first|done|rfl)) (hO _) ?_|refine Zc9 Y Y ?_)
  all_goals try (simp only[jB,if_false]at *)
  all_goals try omega
  all_goals first|(exact ZCn hA (.inr Y) Y Y Y Y)|(exact absurd ⟨by assumption,by assumption⟩ hz)
def hd(N:ZF):Nat:=1*65536+N.length
def Ord(N:ZF):Prop:=∀i p,N[i]?=some p->p.1=1*65536+i
theorem Zqf:∀ {N:ZF} {o:Nat},(∀p∈N,p.1≠o)->lk N o=none
 | [],o,_=>rfl
 | p::N,o,h=>by
  rw[lk,if_neg (h p (by simp))]
  exact Zqf (fun q hq=>h q (by simp[hq]))
theorem ZYy:∀ {N M:ZF} {o:Nat},lk (N++M) o=(lk N o).or (lk M o)
 | [],M,o=>by simp[lk]
 | p::N,M,o=>by
  rw[List.cons_append,lk,lk]
  by_cases c:p.1=o
  ·rw[if_pos c,if_pos c];rfl
  ·rw[if_neg c,if_neg c,ZYy]
theorem ZcB{N M:ZF}{x:Nd}(h:lk N o=some x):lk (N++M) o=some x:=by rw[ZYy,h];rfl
theorem Ord.fresh{N:ZF}(h:Ord N):lk N (hd N)=none:=by
 refine Zqf (fun p hp=>?_)
 obtain⟨i,hi⟩:=List.mem_iff_getElem?.1 hp;have h1:=h i p hi;have h2:=(List.getElem?_eq_some_iff.1 hi).1;unfold hd;omega
theorem Ord.snoc{N:ZF}(h:Ord N)(x:Nd):Ord (N++[(hd N,x)]):=by
 intro i p hp
 rcases Nat.lt_trichotomy i N.length with q|q|q
 ·rw[jL q]at hp;exact h i p hp
 ·subst q
  rw[List.getElem?_append_right (Nat.le_refl _)]at hp
  simp at hp
  rw[<- hp];rfl
 ·have:=(List.getElem?_eq_some_iff.1 hp).1
  simp at this;omega
theorem Zqg{N:ZF}(h:Ord N)(x:Nd):lk (N++[(hd N,x)]) (hd N)=some x:=by
 rw[ZYy,h.fresh,lk,if_pos rfl];rfl
theorem lk_snoc_inv{N:ZF}{x y:Nd}(h:lk (N++[(hd N,x)]) o=some y):lk N o=some y\/(o=hd N/\y=x):=by
 rw[ZYy]at h
 cases q:lk N o with
 | some z=>rw[q]at h;exact .inl h
 | none =>
  rw[q]at h;simp only[Option.none_or,lk]at h
  by_cases c:hd N=o
  ·rw[if_pos c]at h;exact .inr ⟨c.symm,(Option.some.inj h).symm⟩
  ·rw[if_neg c]at h;simp at h
theorem GoodN.snoc{N:ZF}(hN:GoodN N){x:Nd}(hx:NdOk x)(hk:∀k∈x.ks,k.at_≠0/\∃y,lk N k.at_=some y/\y.h+1=x.h/\y.mea=k.m):GoodN (N++[(hd N,x)]):=by
 intro o y hy
 rcases lk_snoc_inv hy with q|⟨_,rfl⟩
 ·refine⟨(hN o y q).1,fun k hk=>?_⟩
  obtain⟨h0,z,h1,h2⟩:=(hN o y q).2 k hk;exact⟨h0,z,ZcB h1,h2⟩
 ·refine⟨hx,fun k hk'=>?_⟩
  obtain⟨h0,z,h1,h2⟩:=hk k hk';exact⟨h0,z,ZcB h1,h2⟩
theorem ZWx:GoodN []:=fun o x h=>by simp[lk]at h
theorem ZwR:Ord []:=fun i p h=>by simp at h
def Zfj(P:ZF->Tr->ZF->Kid->Prop):ZF->List Tr->ZF->List Kid->Prop
 | N,[],N',l=>N'=N/\l=[]
 | N,t::ts,N',l=>∃N1 k l1,P N t N1 k/\Zfj P N1 ts N' l1/\l=k::l1
def WrH:Nat->ZF->Tr->ZF->Kid->Prop
 | 0,N,t,N',k=>∃s ks,t=.mk 0 0 .zero s ks/\ks.getD []=[]/\Xn s/\N'=N++[(hd N,⟨0,s,some []⟩)]/\k=⟨hd N,ZAz s⟩
 | n + 1, N, t, N', k => ∃ts N1 l, t = .mk 0 (n + 1) .zero [] (some ts) /\ (2 <= ts.length /\ ts.length <= 4) /\ n <= 15 /\ Zfj (WrH n) N ts N1 l /\ l.length = ts.length /\ (∀k ∈ l, KidOk n k) /\ (QX (l.map Kid.m)).b <= 65536 /\ ZIM N1 n l /\
     N'=N1++[(hd N1,⟨n+1,[],some l⟩)]/\k=⟨hd N1,QX (l.map Kid.m)⟩
theorem ZlV(s:B8):s.countP Jt<=s.countP Q0:=by
 refine List.countP_mono_left (fun b _ h=>?_)
 unfold Jt at h;unfold Q0
 simp at h ⊢
 omega
theorem NdOk.kid{y:Nd}(h:NdOk y)(hl:(leastB y.h:Int)<=y.mea.b){a:Nat}(ha:X8 a):KidOk y.h ⟨a,y.mea⟩:=by
 rcases h with h|⟨n,ks,h⟩
 ·have hm:y.mea=ZAz y.text:=by unfold Nd.mea;rw[if_pos h.h]
  have h1:=h.hi;have h2:=ZlV y.text;have h3:=List.countP_le_length (p:=Q0) (l:=y.text);refine⟨ha,hl,?_,?_,?_,?_,?_⟩
  all_goals simp only[hm,ZAz,h.h,mostB]
  all_goals omega
 ·have e:=h.eq
  subst e;have hms:Nd.mea ⟨n+1,[],some ks⟩=QX (ks.map Kid.m):=rfl;have hs:=h.sum;have hhi:=h.hi;have hk:=h.kid
  have key:∀(l:List Kid),(∀k∈l,KidOk n k)->(QX (l.map Kid.m)).b<=l.length*(mostB n:Int)/\0<=(QX (l.map Kid.m)).r/\(QX (l.map Kid.m)).r<=(QX (l.map Kid.m)).b/\0<=(QX (l.map Kid.m)).l/\(QX (l.map Kid.m)).l<=(QX (l.map Kid.m)).r:=by
   intro l
   induction l with
   | nil=>intro _;simp[QX,Mea.zero]
   | cons k l ih =>
    intro hk
    obtain⟨i1,i2,i3,i4,i5⟩:=ih (fun k hk'=>hk k (by simp[hk']))
    have hk1:=hk k (by simp)
    have a1:=hk1.hi;have a2:=hk1.r0;have a3:=hk1.rb;have a4:=hk1.l0;have a5:=hk1.lr;simp only[jC,QX,Mea.add,List.length_cons]
    have:((l.length+1:Nat):Int)*(mostB n:Int)=l.length*(mostB n:Int)+mostB n:=by
     rw[Int.natCast_add,Int.add_mul];simp
    refine⟨?_,?_,?_,?_,?_⟩<;>omega
  obtain⟨k1,k2,k3,k4,k5⟩:=key ks hk
  have h4:(ks.length:Int)*(mostB n:Int)<=4*(mostB n:Int):=Int.mul_le_mul_of_nonneg_right (by omega) (by omega)
  have hm:=ZQq n;refine⟨ha,hl,?_,?_,?_,?_,?_⟩
  all_goals simp only[hms,mostB]
  all_goals omega
structure Wrote(n:Nat)(N:ZF)(t:Tr)(N':ZF)(k:Kid)(T:ZF):Prop where
 wr:WrH n N t N' k
 app:N'=N++T
 good:GoodN N'
 ord:Ord N'
 live:∃y,lk N' k.at_=some y/\NdOk y/\y.h=n/\y.mea=k.m
 hnd:X8 k.at_
 bytes:k.m.b=t.bytes
 few:4*(T.length:Int)<=t.bytes+4
 big:Big t->4*(T.length:Int)+4<=t.bytes
theorem Zt1(hn:n<=15)(ih:∀t,Val [] t->t.h=n->∀N,GoodN N->Ord N->4*(N.length:Int)+t.bytes<=65000->∃N' k T,Wrote n N t N' k T):
 ∀ts:List Tr,(∀t∈ts,Val [] t/\t.h=n/\Big t)->∀N,GoodN N->Ord N->4*(N.length:Int)+Tr.bytesL ts<=65000 ->
  ∃N' l T,Zfj (WrH n) N ts N' l/\N'=N++T/\GoodN N'/\Ord N'/\l.length=ts.length/\(∀k∈l,KidOk n k)/\ZIM N' n l/\(QX (l.map Kid.m)).b=Tr.bytesL ts/\4*(T.length:Int)+4*ts.length<=Tr.bytesL ts/\(∀k∈l,k.at_≠0):=by
 intro ts
 induction ts with
 | nil=>intro _ N g o _;exact⟨N,[],[],⟨rfl,rfl⟩,by simp,g,o,rfl,by simp,fun k hk=>by simp at hk,rfl,by simp[Tr.bytesL],by simp⟩
 | cons t ts iht =>
  intro h N g o hb
  obtain⟨v,hh,big⟩:=h t (by simp)
  rw[Tr.bytesL]at hb
  have hp:=Tr.bytesL_nonneg (l:=ts) (fun u hu=>(h u (by simp[hu])).1.pos.1.nonneg)
  obtain⟨N1,k,T1,w⟩:=ih t v hh N g o (by omega)
  have w1:=w.big big;have wa:=w.app
  have hlen:N1.length=N.length+T1.length:=by rw[wa,List.length_append]
  obtain⟨N',l,T,c1,c2,c3,c4,c5,c6,c7,c8,c9,c10⟩:=iht (fun u hu=>h u (by simp[hu])) N1 w.good w.ord (by omega)
  obtain⟨y,y1,y2,y3,y4⟩:=w.live
  have hk:KidOk n k:=by
   have hs:=v.size ZWx big
   have:=y2.kid (a:=k.at_) (by rw[y3,y4,w.bytes,<- hh];exact hs) w.hnd
   rw[y3,y4]at this;exact this
  refine⟨N',k::l,T1++T,⟨N1,k,l,w.wr,c1,rfl⟩,by rw[c2,wa,List.append_assoc],c3,c4,by simp[c5],?_,?_,?_,?_,?_⟩
  ·intro k' hk'
   rcases List.mem_cons.1 hk' with rfl|q
   ·exact hk
   ·exact c6 k' q
  ·intro k' hk'
   rcases List.mem_cons.1 hk' with rfl|q
   ·exact⟨y,by rw[c2];exact ZcB y1,y2,y3,y4⟩
   ·exact c7 k' q
  ·simp only[jC,QX,Mea.add,Tr.bytesL,c8,w.bytes]
  ·simp only[List.length_append,List.length_cons,Tr.bytesL];omega
  ·intro k' hk'
   rcases List.mem_cons.1 hk' with rfl|q
   ·intro q;exact absurd w.hnd.2.1 (by rw[q];decide)
   ·exact c10 k' q
theorem Zxw:∀n t,Val [] t->t.h=n->∀N,GoodN N->Ord N->4*(N.length:Int)+t.bytes<=65000->∃N' k T,Wrote n N t N' k T:=by
 intro n
 have hnd:∀N:ZF,4*(N.length:Int)<=65000->X8 (hd N):=by
  intro N h
  unfold hd;constructor<;>omega
 induction n with
 | zero =>
  intro t v hh N g o hb
  cases v with
  | kept h0 hx=>simp[lk]at hx
  | @leaf s k h1 h2 hk =>
   have hx:NdOk ⟨0,s,some []⟩:=.inl ⟨rfl,h1,h2,rfl⟩
   have e:(Tr.mk 0 0 .zero s k).bytes=s.length:=by rw[Tr.bytes,Tr.bytesO_getD,hk];simp[Tr.bytesL,Mea.zero]
   rw[e]at hb
   refine⟨_,_,[(hd N,⟨0,s,some []⟩)],⟨⟨s,k,rfl,hk,⟨h1,h2⟩,rfl,rfl⟩,rfl,g.snoc hx (fun k hk=>by simp[Nd.ks]at hk),o.snoc _,⟨_,Zqg o _,hx,rfl,rfl⟩,hnd N (by omega),?_,?_,?_⟩⟩
   ·simp only[ZAz,e]
   ·rw[e];simp;omega
   ·intro hb;have:=hb rfl;simp;omega
  | inner hh=>simp[Tr.h]at *
 | succ n ih =>
  intro t v hh N g o hb
  cases v with
  | kept h0 hx=>simp[lk]at hx
  | leaf=>simp[Tr.h]at hh
  | @inner h ts h16 h2 h4 hl hb8 hv =>
   obtain rfl:h=n:=by simpa [Tr.h] using hh
   have e:(Tr.mk 0 (h+1) .zero [] (some ts)).bytes=Tr.bytesL ts:=by rw[Tr.bytes,Tr.bytesO];simp[Mea.zero]
   rw[e]at hb
   obtain⟨N1,l,T,c1,c2,c3,c4,c5,c6,c7,c8,c9,c10⟩:=Zt1 (n:=h) (by omega) ih ts (fun t ht=>⟨hv t ht,hl t ht,fun q=>hb8 t ht (by rw[<- hl t ht];exact q)⟩) N g o hb
   have hx:NdOk ⟨h+1,[],some l⟩:=.inr ⟨h,l,rfl,by omega,by omega,by omega,c6,by rw[c8];omega⟩
   have hlen:N1.length=N.length+T.length:=by rw[c2,List.length_append]
   refine⟨_,_,T++[(hd N1,⟨h+1,[],some l⟩)],⟨⟨ts,N1,l,rfl,⟨h2,h4⟩,by omega,c1,c5,c6,by rw[c8];omega,c7,rfl,rfl⟩,?_,c3.snoc hx ?_,c4.snoc _,⟨_,Zqg c4 _,hx,rfl,rfl⟩,hnd N1 (by omega),?_,?_,?_⟩⟩
   ·rw[<- List.append_assoc,<- c2]
   ·intro k hk
    obtain⟨y,y1,y2,y3,y4⟩:=c7 k hk
    exact⟨c10 k hk,y,y1,by rw[y3],y4⟩
   ·simp only[c8,e]
   ·rw[e];simp only[List.length_append,List.length_singleton];omega
   ·intro _;rw[e];simp only[List.length_append,List.length_singleton];omega
theorem ZUr{P:ZF->Tr->ZF->Kid->Prop}(hP:∀N t N' k,P N t N' k->N.length<N'.length):∀ts N N' l,Zfj P N ts N' l->N.length<=N'.length
 | [],N,N',l,h=>by rw[h.1];exact Nat.le_refl _
 | t::ts,N,N',l,⟨N1,k,l1,h1,h2,_⟩=>by
  have:=hP _ _ _ _ h1
  have:=ZUr hP ts N1 N' l1 h2
  omega
theorem Zqh:∀n N t N' k,WrH n N t N' k->N.length<N'.length
 | 0,N,t,N',k,⟨s,ks,_,_,_,h,_⟩=>by rw[h];simp
 | n+1,N,t,N',k,⟨ts,N1,l,_,_,_,h,_,_,_,_,h2,_⟩=>by
  have:=ZUr (Zqh n) ts N N1 l h
  rw[h2];simp;omega
def Xb(N:ZF):AR:={ JZ 700 3 with n:=700-N.length,states:=(List.range 700).map fun (j:Nat)=>if j<N.length then (1:Int) else 0,nodes:=N,allocs:=N.length }
theorem Zt2:Xb []=JZ 700 3:=by
 unfold Xb JZ
 congr 1
theorem Zfk(h:k<n):((List.range n).map fun (j:Nat)=>if j<k then (1:Int) else 0).set k 1=(List.range n).map fun (j:Nat)=>if j<k+1 then (1:Int) else 0:=by
 apply List.ext_getElem
 ·simp
 ·intro j hj hj'
  simp only[List.getElem_set,List.getElem_map,List.getElem_range]
  by_cases q:k=j
  ·subst q;simp
  ·rw[if_neg q]
   have:j<k+1↔j<k:=by omega
   simp only[this]
theorem Zpe(N:ZF)(x:Nd)(hl:N.length<700):(Xb N).alloc N.length 1 x=Xb (N++[(hd N,x.copy)]):=by
 unfold AR.alloc AR.take Xb;simp only[List.length_append,List.length_singleton,Zfk hl];rfl
theorem ZnY{N:ZF}(ho:Ord N)(hl:N.length<700):CanTake (Xb N) (699-N.length) N.length 1 where
 n:=by simp only[Xb];omega
 blk:=by
  simp only[Xb,JZ]
  rw[jG,List.getElem?_range (by omega)]
  simp only[Option.map_some]
  congr 1;omega
 st:=by simp[Xb];omega
 s16:=by omega
 gen:=by
  simp only[Xb,JZ];rw[List.getElem?_replicate,if_pos hl];rfl
 g1:=by omega
 g2:=by omega
 big:=by simp only[Xb];omega
 new:=by simp only[Xb];exact ho.fresh
 al:=by simp only[Xb];omega
section
variable {st:St}{lv b:Nat}{r:AR}
end
theorem Z6{k:List Fr}{keep:List Nat}{α:Type}{f:α->AV}{l:List α}{i:Opd}{n:Int}{a:α}(hx:ZY e x=some (.lit (l.map f)))(hi:ZY e i=some (.int .i64 n))(ha:0<=n/\l[n.toNat]?=some a)(hw:∀a,(f a).wide=some w)
 (h:Is O is keep k Q ((d,.lptr (f a) 0)::e) st):Is O (⟨some d,none,false,.ixS w x i⟩::is) keep k Q e st:=by
 have hlt:=(List.getElem?_eq_some_iff.1 ha.2).1
 refine QY hx hi (by omega) hw (fun b hb=>?_)
 rw[ha.2]at hb;rw[<- Option.some.inj hb];exact h
structure AROk(r:AR):Prop where
 nb:r.n<=r.blk.length
 n16:r.states.length<=16384
 nn:r.n<=r.states.length
 gl:r.gens.length=r.states.length
 stk:∀i,i<r.n->∃s:Nat,r.blk[i]?=some (s:Int)/\s<r.states.length/\r.states[s]?=some 0
 nd:∀i j,i<r.n->j<r.n->r.blk[i]?=r.blk[j]?->i=j
 gen:∀s,s<r.states.length->∃g:Nat,r.gens[s]?=some (g:Int)/\1<=g/\(g:Int)<=r.most
 most:r.most<=4294967295
 key:∀h x,lk r.nodes h=some x->∃s g:Nat,h=g*65536+s/\s<r.states.length/\r.states[s]?=some 1/\r.gens[s]?=some (g:Int)
 al:0<=r.allocs/\r.allocs+r.n<=r.frees+r.slots
 fr:0<=r.frees/\r.frees<=900000
 sl:r.slots<=16384
end Go.Q15
namespace Go.QAbs
variable {v z:AV}{c:Blk}{agg ro:Bool}{e:Env}{A:List (Bool × List Blk)}{es ys:LV}{is:List PI}{s:B8}{b d g i ix j jb jx k n o pl px ver w:Nat}{a x:Opd}{O:Orc}{Q:Qn}{st:St}
theorem ZBo:∀l:List Blk,Jf l=some l
 | []=>rfl
 | b::l=>by rw[Jf,ZBo l]
theorem ZQx:∀l:LV,ZE l=some l
 | []=>rfl
 | b::l=>by rw[ZE,ZQx l]
theorem Zrm{k:IntKind}{α:Type}(f:α->Int)(l:List α):JH 1 (l.map fun a=>AV.int k (f a))=true:=by
 induction l with
 | nil=>rfl
 | cons b s ih=>rw[jC,JH,List.all_cons];exact Bool.and_eq_true_iff.2 ⟨rfl,ih⟩
theorem Zrn{k:IntKind}{α:Type}(f:α->Int)(n b:Nat)(st:St)(l:List α):mapSt (Zb (n+1) b) st (l.map fun a=>AV.int k (f a))=some (l.map fun a=>AV.int k (f a),st):=by
 induction l with
 | nil=>rfl
 | cons x s ih =>
  rw[jC,mapSt]
  show ((some (AV.int k (f x),st)).bind fun r=>(mapSt (Zb (n+1) b) r.2 (s.map fun a=>AV.int k (f a))).bind (ZBv r.1))=_
  rw[Option.bind_some,ih];rfl
section
variable {O:Orc}{k:List Fr}{Q:Qn}{e:Env}{A:List (Bool × List Blk)}{L:List Blk}{keep:List Nat}{is:List PI}{d:Nat}
theorem ZRG{bytes:Nat}{s:Opd}(hs:ZY e s=some (.ref A.length ix ver 0 n))(hx:ZY e x=some (.lit ys))(hg:L[ix]?=some (Blk.arr w ver es))(hn:n=es.length)(hw:JH w ys=true)
 (hm:mapSt (Zb QK (A.length+1)) ⟨A,false,L⟩ ys=some (ys,⟨A,false,L⟩)) (hl:es.length+ys.length<4294967296) (hb:bytes<=4096)
 (h:Is O is keep k Q ((d,.ref A.length ix (ver+1) 0 (n+ys.length))::e) ⟨A,false,L.set ix (.arr w (ver+1) (es++ys))⟩):Is O (⟨some d,none,false,.app w bytes s x⟩::is) keep k Q e ⟨A,false,L⟩ :=
 ZqP hs hx hg rfl hn hl hb hw hm (ZBo _) h
theorem ZwS{t:Opd}{vx:AV}(ht:ZY e t=some (.ref A.length ix ver 0 n))(hx:ZY e x=some vx)(hy:elems ⟨A,false,L⟩ vx=some ys)(hg:L[ix]?=some (Blk.arr w ver es))(hn:n=es.length)(hl:ys.length=n)(hw:JH w ys=true)
 (hm:mapSt (Zb QK (A.length+1)) ⟨A,false,L⟩ ys=some (ys,⟨A,false,L⟩))
 (h:Is O is keep k Q ((d,.int .i64 ys.length)::e) ⟨A,false,L.set ix (.arr w ver ys)⟩):Is O (⟨some d,none,false,.cpy w t x⟩::is) keep k Q e ⟨A,false,L⟩:=by
 have hlt:ix<L.length:=(List.getElem?_eq_some_iff.1 hg).1;refine Zq (v:=.int .i64 ys.length) (st':=⟨A,false,L.set ix (.arr w ver ys)⟩) ?_ h
 have e1:es.take 0++ys++es.drop (0+ys.length)=ys:=by rw[List.drop_of_length_le (by omega)];simp
 simp only[Zd,evalPO,ZD ht,ZD hx,hy,Option.bind_some,Zn7,hw,if_true,hm,St.get_cur,hg,vis,ZjN,true_and,if_pos (show 0+n<=es.length/\ys.length<=n by omega),e1]
 simp only[St.put,if_true,jB,if_false,if_pos hlt,Option.bind_some]
theorem Zro{lv:Nat}{es:List (AV × AV)}(hx:ZY e x=some (.map lv ix))(hg:st.get lv ix=some (.map es))(h:Is O is keep k Q ((d,.int .i64 es.length)::e) st):Is O (⟨some d,none,false,.len 2 x⟩::is) keep k Q e st:=by
 refine Zq (v:=.int .i64 es.length) (st':=st) ?_ h;simp only[Zd,evalPO,ZD hx,lenOf,hg,ZcG,Option.bind_some]
end
section
variable {O:Orc}{k:List Fr}{Q:Qn}{e:Env}{A:List (Bool × List Blk)}{L:List Blk}{keep:List Nat}{is:List PI}{d:Nat}{st:St}
theorem ZwT{od:Option Nat}{op op':PO}(he:Zd O e st op=Zd O e st op')(h:Is O (⟨od,none,false,op'⟩::is) keep k Q e st):Is O (⟨od,none,false,op⟩::is) keep k Q e st:=by
 obtain⟨⟨e',st2,h1,h2⟩⟩:=h;refine⟨⟨e',st2,?_,h2⟩⟩;rw[ZAD]at h1 ⊢
 have e1:Qs O e st ⟨od,none,false,op⟩=Qs O e st ⟨od,none,false,op'⟩:=by simp only[Qs,jB,if_false];exact he
 have e2:wantedV e none=some true:=rfl;simp only[e2,Option.bind_some,ZiJ,e1]at h1 ⊢;exact h1
theorem ZlX{o:Opd}(ho:ZY e o=some v)(hw:v.wide=some w)(h:Is O is keep k Q ((d,.ref A.length L.length 0 0 1)::e) ⟨A,false,L++[Blk.arr w 0 [v]]⟩):Is O (⟨some d,none,false,.bslice true w [z] [(0,o)]⟩::is) keep k Q e ⟨A,false,L⟩:=by
 refine Zmf (qs:=[(0,v)]) (es:=[v]) (es':=[v]) ?_ ?_ (ZQx _) (ZBo _) h
 ·simp only[ZF2,ho]
 ·simp only[fillE,hw,List.length_singleton,true_and,Nat.lt_one_iff,if_true,List.set_cons_zero]
theorem Zfl(h:Is O is keep k Q ((d,.ptr A.length (L.length+1) 0 0 0)::e) ⟨A,false,L++[Blk.arr w 0 [],Blk.arr 1 0 [.ref A.length L.length 0 0 0]]⟩):Is O (⟨some d,none,false,.boxnil w⟩::is) keep k Q e ⟨A,false,L⟩ :=
 ZQ8 (by rw[List.append_assoc];exact ZBo _) h
end
def OwnR(T:Tab)(A:List (Bool × List Blk))(g:FuncId)(ws:LV)(w:Nat)(es:LV):Prop :=
 ∃L1 ix ver,S T g ws ⟨A,false,[]⟩=some (.ref A.length ix ver 0 es.length,⟨A,false,L1⟩)/\L1[ix]?=some (Blk.arr w ver es)
section
variable {T:Tab}{g:FuncId}{ws es:LV}{w:Nat}
theorem OwnR.inner(h:OwnR T (st.A++[(st.ro,st.L)]) g ws w es)(hi:∀v,v∈es->imm 5 v=true):Z4 (S T) .inner g ws st=some (.lit es,st):=by
 obtain⟨L1,ix,ver,h1,h2⟩:=h;exact ZGx h1 (ZdC h2 Y hi)
theorem OwnR.move{A0:List (Bool × List Blk)}{L0:List Blk}(h:OwnR T (A0++[(false,L0)]) g ws w es)(hi:es.all (imm 6)=true):Z4 (S T) .move g ws ⟨A0,false,L0⟩=some (.ref A0.length L0.length 0 0 es.length,⟨A0,false,L0++[.arr w 0 es]⟩):=by
 obtain⟨L1,ix,ver,h1,h2⟩:=h;exact ZtW h1 h2 hi
theorem OwnR.give{A0:List (Bool × List Blk)}{L0:List Blk}(h:OwnR T ((⟨A0,false,L0⟩:St).allRo.push).A g ws w es)(hn:n<=L0.length)(hi:es.all (imm 6)=true):Z4 (S T) (.give n) g ws ⟨A0,false,L0⟩=some (.ref A0.length L0.length 0 0 es.length,⟨A0,false,L0++[.arr w 0 es]⟩):=by
 obtain⟨L1,ix,ver,h1,h2⟩:=h
 have hl:((⟨A0,false,L0⟩:St).allRo.push).A.length=A0.length+1:=by simp[St.allRo,St.push]
 rw[hl]at h1;have e0:(⟨A0,false,L0⟩:St).allRo.push=⟨((⟨A0,false,L0⟩:St).allRo.push).A,false,[]⟩:=rfl;simp only[Z4,if_pos hn];rw[e0,h1]
 have hl2:(A0++[(false,L0)]).length=A0.length+1:=by simp
 simp only[Option.bind_some,ZiH,ZAC,XL,hl2,if_true,h2,ZTW,Yd,ZTV,jB,false_or,List.drop_zero,List.take_length,hi]
 simp
variable {keep:List Nat}{is:List PI}{k:List Fr}{Q:Qn}{e:Env}{d:Nat}
theorem Zt3{st':St}{f:Opd}{args:List Opd}{first cap vs:LV}(hf:ZY e f=some (.func (.func g) first cap))(ha:ZF0 e args=some vs)(hw:ZE (ZH (first++vs++cap))=some ws)
 (hc:Z4 (S T) (.give n) g ws st=some (v,st')) (h:Is (S T) is keep k Q ((d,v)::e) st'):Is (S T) (⟨some d,none,false,.call (.give n) f args⟩::is) keep k Q e st:=by
 refine Zq (v:=v) (st':=st') ?_ h;simp only[Zd,ZD hf,YG ha,Xj,Qt hw,hc]
variable {O:Orc}{A:List (Bool × List Blk)}{L:List Blk}
theorem ZnZ{m:Nat}{w:Nat}{es:LV}{x:AV}(ha:ZY e a=some (.ptr A.length ix ver i o))(hi:ix<m)(hg:L[ix]?=some (Blk.arr w ver es))(hx:es[i]?=some x)(hv:Jn x agg o n=some v)
 (h:Is O is keep k Q ((d,v)::e) ⟨A,false,L⟩):Is O (⟨some d,none,false,.w (.first a m) (.ld agg n a)⟩::is) keep k Q e ⟨A,false,L⟩:=by
 refine Zq (v:=v) (st':=⟨A,false,L⟩) ?_ h
 have hgt:(St.hide (fun lv ix=>!YQ lv ix (a.get e)) ⟨A,false,L⟩).get A.length ix=some (Blk.arr w ver es):=by
  rw[XO,St.get_cur,hg,ZD ha]
  simp[YQ,vis]
 have hr:(PO.ld agg n a).reads=true/\Zuh m (.ptr A.length ix ver i o)=true:=⟨rfl,decide_eq_true hi⟩;rw[ZD ha]at hgt;simp only[Zd,Zs,ZD ha,if_pos hr,evalPO,loadP,hgt,ZGp,hx,hv,if_true,Option.bind_some,Qe,Z8]
theorem Zt4{w bytes:Nat}{s:Opd}{vx:AV}(hs:ZY e s=some .nils)(hn:n<=L.length)(hx:ZY e x=some vx)(hy:elems ⟨A,false,L⟩ vx=some ys)(hl:ys.length<4294967296)(hb:bytes<=4096)(hw:JH w ys=true)
 (h:Is O is keep k Q ((d,.ref A.length L.length 0 0 ys.length)::e) ⟨A,false,L++[Blk.arr w 0 ys]⟩):Is O (⟨some d,none,false,.w (.app0n n) (.app w bytes s x)⟩::is) keep k Q e ⟨A,false,L⟩:=by
 refine Zq (od:=some d) (v:=.ref A.length L.length 0 0 ys.length) (st':=⟨A,false,L++[Blk.arr w 0 ys]⟩) ?_ h;simp only[Zd,Zs,if_pos hn,ZLC,ZD hs,Xo,if_true,evalPO,ZD hx,hy,Option.bind_some,Q4,hl,hb,hw,and_self,St.new_cur,JO]
end
end Go.QAbs
namespace Go.Q15
open Go Go.QAbs
variable {v z:AV}{c:Blk}{agg ro:Bool}{e:Env}{A:List (Bool × List Blk)}{es ys:LV}{is:List PI}{s:B8}{b d g i ix j jb jx k n o pl px ver w:Nat}{a x:Opd}{O:Orc}{Q:Qn}{st:St}{t:Tr}
theorem ZjC{lv:Nat}{N:ZF}(hr:RRd st lv ix N){h:Nat}{x:Nd}(hx:lk N h=some x)(hl:N.length<4294967296):
 S Tb Yn [.ptr lv ix 0 0 0,.int .u64 h] st=some (.agg [.int .i64 x.h,.str x.text,.lit (x.ks.map Kid.av)],st):=by
 obtain⟨j,hj,hm⟩:=Zqe hx;obtain⟨l,v,c0,c1,c2,c3,c4,c5,c6,h1,h2⟩:=hr
 refine Zj Y (fun A hA=>?_)
 have g1:=fun L=>ZS hA (ro:=false) (L:=L) h1
 have hjl:j<N.length:=(List.getElem?_eq_some_iff.1 hj).1
 cases h2 with
 | nil=>simp at hj
 | @ref lv' ix' ver n N es hg hn he =>
  have g2:=fun L=>ZS hA (ro:=false) (L:=L) hg
  have hwi:∀L,wIs 4 ver (St.get ⟨A,false,L⟩ lv' ix')=true:=fun L=>by rw[g2];simp[wIs]
  repeat'(first|refine ruS Y ?_|refine isS Y ?_|refine ZX ?_|refine ZJ Y Y Y ?_)
  refine Zc (α:=Nat) (fun i=>[(0,.ptr lv ix 0 0 0),(1,.int .u64 h),(4,.ptr A.length 0 0 0 0),(5,.int .i64 i)]) (fun i=>⟨A,false,[.arr 3 0 [.agg [.int .i64 0,.str [],.nils]]]⟩) (fun i=>i<=j) (fun i=>j-i) 0 Y Y (by omega) ?_
  intro i hi
  obtain⟨p,hp⟩:∃p,N[i]?=some p:=⟨N[i]'(by omega),by simp[show i<N.length by omega]⟩
  have hpe:=ZWw hn he hp
  rcases Nat.lt_or_ge i j with hlt|hge
  ·have hne:=hm i p hlt hp
   unfold ZAw at hpe;obtain⟨po,px⟩:=p
   simp only at hpe hne
   repeat'(first|refine ruS Y ?_|refine isS Y ?_|refine rkS Y ?_|refine Zp Y ?_|(refine cm0 Y Y Y ?_ ?_<;>intro _<;>try omega)|refine ZL Y Y (by omega) ?_|refine Z1 Y (g1 _) Y Y ?_|refine JA Y Y (by omega) (hwi _) ?_|refine Z1 Y (g2 _) hpe Y ?_)
   all_goals try omega
   exact⟨i+1,⟨rfl,rfl⟩,by omega,by omega⟩
  ·obtain rfl:i=j:=by omega
   rw[hj]at hp;obtain rfl:=Option.some.inj hp;unfold ZAw at hpe
   simp only at hpe
   repeat'(first|refine ruS Y ?_|refine isS Y ?_|refine rkS Y ?_|refine Zp Y ?_|(refine cm0 Y Y Y ?_ ?_<;>intro _<;>try omega)|refine Ze Y Y Y Y Y Y ?_|refine Z1 Y (g1 _) Y Y ?_|refine JA Y Y (by omega) (hwi _) ?_|refine Z1 Y (g2 _) hpe Y ?_)
   all_goals try omega
   all_goals try exact absurd Y ‹_›
   all_goals refine JL hA (by simp) Y Y Y Y Y ?_
   all_goals rfl
theorem ZcC{T:Tab}{g:FuncId}{ws:LV}{body:PC}{res:List RV}(hT:T g=some (.pf ⟨true,body,res⟩))
 (h:Ru (S T) body [] (fun x e st'=>∃L1 ix ver,Jp true res (x,e,st')=some (.ref A.length ix ver 0 es.length,⟨A,false,L1⟩)/\L1[ix]?=some (Blk.arr w ver es)) (YK 0 ws) ⟨A,false,[]⟩):OwnR T A g ws w es:=by
 obtain⟨⟨x,e',st',h1,L1,ix,ver,h2,h3⟩⟩:=h
 exact⟨L1,ix,ver,Zqr hT (by simp only[Jh,if_true,h1,Option.bind_some];exact h2),h3⟩
theorem ZjD{lv:Nat}{N:ZF}(hr:RRd st lv ix N)(hl:N.length<4294967296)(hv:Val N t)(hge:1<=t.h)(hA:A=st.A++[(st.ro,st.L)]):OwnR Tb A QA [.ptr lv ix 0 0 0,t.av] 7 ((Zh N t).map Tr.av):=by
 refine ZcC Y ?_
 cases hv with
 | kept h0 hx hok hh hm hk =>
  rename_i o h m k x
  have hin:∃n ks,InnerOk x n ks:=by
   rcases hok with q|q
   ·have:=q.h
    simp only[Tr.h]at hge;omega
   ·exact q
  obtain⟨n,ks,hin⟩:=hin;have hx0:=hin.eq;subst hx0
  have hG:=fun L=>ZjC (hr.push hA (ro:=false) (L:=L)) hx hl
  have hc:Zh N (.mk o h m [] k)=ks.map (YD n):=by simp only[Zh,if_neg h0,hx];rfl
  have hks:=hin.hi;have hks2:=hin.lo;have hn:=hin.n15;have hh':h=n+1:=hh.symm;subst hh';rw[hc];simp only[Nd.ks,Option.getD]at hG
  have key:∀k Q (kv:AV) (B0 B2:Blk) (hb0:B0=.arr 7 0 [.agg [.int .u64 o,.int .i64 ((n+1:Nat):Int),.int .i64 m.b,.int .i64 m.r,.int .i64 m.l,.str [],kv]]) (hb2:B2=.arr 3 0 [.agg [.int .i64 ((n+1:Nat):Int),.str [],.lit (ks.map Kid.av)]]),
   Rk (S Tb) k Q .norm [(3,.ptr A.length 0 0 0 0),(5,.ref A.length 1 ks.length 0 ks.length),(6,.ptr A.length 2 0 0 0),(7,.int .i64 ks.length),(23,.bool false)] ⟨A,false,[B0,.arr 7 ks.length ((ks.map (YD n)).map Tr.av),B2]⟩ ->
   Ru (S Tb) (.loop ZBd) (.blk 0::k) Q [(3,.ptr A.length 0 0 0 0),(5,.ref A.length 1 0 0 0),(6,.ptr A.length 2 0 0 0),(7,.int .i64 0)] ⟨A,false,[B0,.arr 7 0 [],B2]⟩:=by
   rintro k Q kv B0 B2 rfl rfl hex
   refine Zc (α:=Nat) (fun p=>[(3,.ptr A.length 0 0 0 0),(5,.ref A.length 1 p 0 p),(6,.ptr A.length 2 0 0 0),(7,.int .i64 p)])
    (fun p=>⟨A,false,[.arr 7 0 [.agg [.int .u64 o,.int .i64 ((n+1:Nat):Int),.int .i64 m.b,.int .i64 m.r,.int .i64 m.l,.str [],kv]],.arr 7 p ((ks.take p).map fun k=>(YD n k).av),.arr 3 0 [.agg [.int .i64 ((n+1:Nat):Int),.str [],.lit (ks.map Kid.av)]]]⟩) (fun p=>p<=ks.length) (fun p=>ks.length-p) 0 rfl rfl (by simp) ?_
   intro i hi
   rcases Nat.lt_or_ge i ks.length with hlt|hge'
   ·obtain⟨kd,hkd⟩:∃kd,ks[i]?=some kd:=⟨ks[i]'hlt,jE _⟩
    have q:0<=((i:Nat):Int)/\ks[((i:Nat):Int).toNat]?=some kd:=⟨by omega,by rw[show ((i:Nat):Int).toNat=i by omega];exact hkd⟩
    have ht:=ZU hkd
    have hln:((ks.take i).map fun k=>(YD n k).av).length=i:=by simp;omega
    all_goals repeat'(first|refine Z6 (f:=Kid.av) Y Y q (fun _=>rfl) ?_|refine ruS Y ?_|refine isS Y ?_|refine ZB Y Y Y Y ?_|refine rkS Y ?_|refine Zi Y ?_|refine Zk Y Y ?_|(refine cm0 Y Y Y ?_ ?_<;>intro _<;>try omega)|refine ZL Y Y (by omega) ?_|refine QC Y Y (by omega) ?_|refine ZZ Y Y Y ?_|refine Zz Y Y Y Y ?_|refine X5 Y Y Y (by first|rfl|(simp;done)|(simp;omega)) (by first|omega|(simp<;>omega)) (by decide) rfl rfl rfl ?_)
    all_goals try omega
    all_goals refine⟨i+1,⟨rfl,?_⟩,by omega,by omega⟩
    all_goals simp only[ht,List.map_append,jC,List.map_nil]
    all_goals rw[show ((n+1:Nat):Int)-1=(n:Int) by omega]
    all_goals rfl
   ·obtain rfl:i=ks.length:=by omega
    rw[List.take_length]
    all_goals repeat'(first|refine ruS Y ?_|refine isS Y ?_|refine ZB Y Y Y Y ?_|refine rkS Y ?_|refine Zi Y ?_|(refine cm0 Y Y Y ?_ ?_<;>intro _<;>try omega))
    all_goals try omega
    all_goals (rw[List.map_map]at hex;exact hex)
  cases k
  all_goals simp only[Tr.av,Tr.avO,Tr.avL_map]at *
  all_goals repeat'(first|refine ruS Y ?_|refine isS Y ?_|refine ZB Y Y Y Y ?_|refine ZX ?_|(refine cm0 Y Y Y ?_ ?_<;>intro _<;>try omega)|refine ZJ Y Y Y ?_|refine Ze Y Y Y Y Y Y ?_|refine QN Y ?_|refine ZA Y Y (by first|rfl|(simp only[List.nil_append,List.append_nil,List.cons_append,ZH,ZC,ZE];first|done|rfl)) (hG _) ?_)
  all_goals try omega
  all_goals refine key _ _ _ _ _ Y Y ?_
  all_goals repeat'(first|refine ruS Y ?_|refine isS Y ?_|refine rkS Y ?_)
  all_goals exact⟨_,1,ks.length,YA (.inr Y) Y Y Y (by simp),rfl⟩
 | leaf h1 h2 hk=>simp[Tr.h]at hge
 | inner hh h2 h4 hl' hb hv =>
  rename_i h l
  have hc:Zh N (.mk 0 (h+1) .zero [] (some l))=l:=rfl;rw[hc]
  simp only[Tr.av,Tr.avO,Tr.avL_map]at *
  repeat'(first|refine ruS Y ?_|refine isS Y ?_|refine ZB Y Y Y Y ?_|refine ZX ?_|(refine cm0 Y Y Y ?_ ?_<;>intro _<;>try omega)|refine ZJ Y Y Y ?_|refine Zz Y Y Y Y ?_)
  all_goals try omega
  refine ZYu Y Y (.lit l) (by omega) ?_
  repeat'(first|refine isS Y ?_|refine rkS Y ?_|refine Jq ?_)
  exact⟨_,1,0,YA (.inr Y) Y Y Y (by simp),rfl⟩
theorem ZC3{lv:Nat}{N:ZF}(hr:RRd st lv ix N)(hl:N.length<4294967296)(hv:Val N t)(hge:1<=t.h):Z4 (S Tb) .inner QA [.ptr lv ix 0 0 0,t.av] st=some (.lit ((Zh N t).map Tr.av),st) :=
 (ZjD hr hl hv hge rfl).inner (ZRC _)
theorem ZiD(lv ix:Nat)(t:Tr):ZE (ZH ([]++[AV.ptr lv ix 0 0 0,t.av]++[]))=some [.ptr lv ix 0 0 0,t.av]:=by
 have h:weak (AV.ptr lv ix 0 0 0)=.ptr lv ix 0 0 0:=rfl;simp only[List.nil_append,List.append_nil,List.cons_append,ZH,ZC,h,ZE]
theorem ZFF{N:ZF}:∀(n:Nat) (t:Tr),Val N t->t.h=n->t.bytes<=65536->∀st,S Tb Zl [t.av] st=some (.int .i64 t.bytes,st):=by
 intro n
 induction n with
 | zero =>
  intro t hv hn hb st
  refine Zj Y (fun A hA=>?_)
  cases hv with
  | kept h0 hx hok hh hm hk =>
   rename_i o h m k x
   have e:(Tr.mk o h m [] k).bytes=m.b:=by rw[Tr.bytes,Tr.bytesO_getD,hk];simp[Tr.bytesL]
   rw[e]
   cases k
   all_goals simp only[Tr.av,Tr.avO,Tr.avL_map]at *
   all_goals repeat'(first|refine ruS Y ?_|refine isS Y ?_|refine ZB Y Y Y Y ?_|refine rkS Y ?_|(refine cm0 Y Y Y ?_ ?_<;>intro _<;>try omega)|refine ZJ Y Y Y ?_)
   all_goals try omega
   all_goals refine ZO hA (by simp) Y Y Y Y ?_
   all_goals rfl
  | leaf h1 h2 hk =>
   rename_i s k
   have e:(Tr.mk 0 0 .zero s k).bytes=s.length:=by rw[Tr.bytes,Tr.bytesO_getD,hk];simp[Tr.bytesL,Mea.zero]
   rw[e]
   cases k with
   | none =>
    simp only[Tr.av,Tr.avO]at *
    repeat'(first|refine ruS Y ?_|refine isS Y ?_|refine ZB Y Y Y Y ?_|refine rkS Y ?_|refine Qf Y ?_|refine QG Y ?_|(refine cm0 Y Y Y ?_ ?_<;>intro _<;>try omega)|refine ZJ Y Y Y ?_|refine Zr ?_)
    all_goals try omega
    all_goals refine ZO hA (by simp) Y Y Y Y ?_
    all_goals rfl
   | some l =>
    simp only[Option.getD]at hk;subst hk
    simp only[Tr.av,Tr.avO,Tr.avL_map,List.map_nil]at *
    repeat'(first|refine ruS Y ?_|refine isS Y ?_|refine ZB Y Y Y Y ?_|refine rkS Y ?_|refine Qf Y ?_|refine Qg Y Y ?_|(refine cm0 Y Y Y ?_ ?_<;>intro _<;>try omega)|refine ZJ Y Y Y ?_|refine Zr ?_)
    all_goals try omega
    all_goals refine ZO hA (by simp) Y Y Y Y ?_
    all_goals rfl
  | inner hh h2 h4 hl hb' hv=>simp[Tr.h]at hn
 | succ n ih =>
  intro t hv hn hb st
  refine Zj Y (fun A hA=>?_)
  cases hv with
  | kept h0 hx hok hh hm hk =>
   rename_i o h m k x
   have e:(Tr.mk o h m [] k).bytes=m.b:=by rw[Tr.bytes,Tr.bytesO_getD,hk];simp[Tr.bytesL]
   rw[e]
   cases k
   all_goals simp only[Tr.av,Tr.avO,Tr.avL_map]at *
   all_goals repeat'(first|refine ruS Y ?_|refine isS Y ?_|refine ZB Y Y Y Y ?_|refine rkS Y ?_|(refine cm0 Y Y Y ?_ ?_<;>intro _<;>try omega)|refine ZJ Y Y Y ?_)
   all_goals try omega
   all_goals refine ZO hA (by simp) Y Y Y Y ?_
   all_goals rfl
  | leaf h1 h2 hk=>simp[Tr.h]at hn
  | inner hh h2 h4 hl hbg hv =>
   rename_i h l
   have e:(Tr.mk 0 (h+1) .zero [] (some l)).bytes=Tr.bytesL l:=by rw[Tr.bytes,Tr.bytesO_getD];simp[Mea.zero]
   rw[e]at hb ⊢
   have hnn:∀t∈l,0<=t.bytes:=fun t ht=>(hv t ht).pos.1.nonneg
   have h0:=Tr.bytesL_nonneg hnn
   simp only[Tr.av,Tr.avO,Tr.avL_map]at *
   repeat'(first|refine ruS Y ?_|refine isS Y ?_|refine ZB Y Y Y Y ?_|refine ZX ?_|refine ZVM Y Y ?_|(refine cm0 Y Y Y ?_ ?_<;>intro _<;>try omega)|refine ZJ Y Y Y ?_)
   all_goals try omega
   refine Zc (α:=Nat) (fun p=>[(1,.ptr A.length 0 0 0 0),(3,.int .i64 (Tr.bytesL (l.take p))),(4,.int .i64 p)]) (fun p=>⟨A,false,_⟩) (fun p=>p<=l.length) (fun p=>l.length-p) 0 (by simp[Tr.bytesL]) Y (by simp) ?_
   intro i hi
   rcases Nat.lt_or_ge i l.length with hlt|hge
   ·obtain⟨t,ht⟩:∃t,l[i]?=some t:=⟨l[i]'hlt,jE _⟩
    have q:0<=((i:Nat):Int)/\l[((i:Nat):Int).toNat]?=some t:=⟨by omega,by rw[show ((i:Nat):Int).toNat=i by omega];exact ht⟩
    have hm:=jM ht
    have h3:Tr.bytesL l=Tr.bytesL (l.take i)+(t.bytes+Tr.bytesL (l.drop (i+1))):=by
     conv=>lhs;rw[<- List.take_append_drop (i+1) l,ZU ht,Tr.bytesL_append,Tr.bytesL_append]
     simp[Tr.bytesL];omega
    have h1:=hnn t hm
    have h2':0<=Tr.bytesL (l.take i):=Tr.bytesL_nonneg (fun u hu=>hnn u (List.mem_of_mem_take hu))
    have h4':0<=Tr.bytesL (l.drop (i+1)):=Tr.bytesL_nonneg (fun u hu=>hnn u (List.mem_of_mem_drop hu))
    have hth:=hl t hm;simp only[Tr.h]at hn
    have h5:=ih t (hv t hm) (by omega) (by omega)
    have hts:Tr.bytesL (l.take (i+1))=Tr.bytesL (l.take i)+t.bytes:=by rw[ZU ht,Tr.bytesL_append];simp[Tr.bytesL]
    repeat'(first|refine Z6 (f:=Tr.av) Y Y q ZQ ?_|refine ruS Y ?_|refine isS Y ?_|refine ZB Y Y Y Y ?_|refine rkS Y ?_|refine Zi Y ?_|(refine cm0 Y Y Y ?_ ?_<;>intro _<;>try omega)|refine ZL Y Y (by omega) ?_|refine Zk Y (ZG _) ?_|refine ZA Y Y (by first|rfl|(simp only[List.nil_append,List.append_nil,List.cons_append,ZH,ZC,ZE];first|done|rfl)) (h5 _) ?_)
    all_goals try omega
    refine⟨i+1,⟨by rw[hts];rfl,rfl⟩,by omega,by omega⟩
   ·obtain rfl:i=l.length:=by omega
    rw[List.take_length]
    repeat'(first|refine ruS Y ?_|refine isS Y ?_|refine ZB Y Y Y Y ?_|refine rkS Y ?_|refine Zi Y ?_|(refine cm0 Y Y Y ?_ ?_<;>intro _<;>try omega))
    all_goals try omega
    refine ZO hA (by simp) Y Y Y Y ?_
    rfl
theorem Q3{N:ZF}(h:VE N t)(hb:t.bytes<=65536)(st:St):S Tb Zl [t.av] st=some (.int .i64 t.bytes,st):=by
 rcases h with h|h
 ·have e0:t.bytes=0:=h.bytes
  rw[e0];obtain⟨o,hh,m,s,k⟩:=t;obtain⟨h1,h2,h3,h4,h5⟩:=h;simp only[Tr.old,Tr.h,Tr.m,Tr.text,Tr.ks]at h1 h2 h3 h4 h5;subst h1 h2 h3 h4
  refine Zj Y (fun A hA=>?_)
  cases k with
  | none =>
   repeat'(first|refine ruS Y ?_|refine isS Y ?_|refine ZB Y Y Y Y ?_|refine rkS Y ?_|refine ZVM Y Y ?_|refine QG Y ?_|(refine cm0 Y Y Y ?_ ?_<;>intro _<;>try omega)|refine ZJ Y Y Y ?_|refine Zr ?_)
   all_goals try omega
   all_goals refine ZO hA (by simp) Y Y Y Y ?_
   all_goals rfl
  | some l =>
   have:l=[]:=h5
   subst this
   repeat'(first|refine ruS Y ?_|refine isS Y ?_|refine ZB Y Y Y Y ?_|refine rkS Y ?_|refine ZVM Y Y ?_|refine Qg Y Y ?_|(refine cm0 Y Y Y ?_ ?_<;>intro _<;>try omega)|refine ZJ Y Y Y ?_|refine Zr ?_)
   all_goals try omega
   all_goals refine ZO hA (by simp) Y Y Y Y ?_
   all_goals rfl
 ·exact ZFF _ t h Y hb st
theorem ZCr{l:List Tr}(hnn:∀t∈l,0<=t.bytes){u:Tr}(hu:u∈l):u.bytes<=Tr.bytesL l:=by
 induction l with
 | nil=>simp at hu
 | cons a l ih =>
  have h1:=hnn a (by simp)
  have h2:=Tr.bytesL_nonneg (l:=l) (fun t ht=>hnn t (by simp[ht]))
  rw[Tr.bytesL]
  rcases List.mem_cons.1 hu with rfl|hu
  ·omega
  ·have:=ih (fun t ht=>hnn t (by simp[ht])) hu
   omega
theorem ZLA{N:ZF}(hN:GoodN N)(hl:N.length<4294967296):∀(n:Nat) (t:Tr),Val N t->t.h=n->t.bytes<=65536->∀ {st:St} {lv ix:Nat},RRd st lv ix N->S Tb Qc [.ptr lv ix 0 0 0,t.av] st=some (.str (t.txt N),st):=by
 intro n
 induction n with
 | zero =>
  intro t hv hn hb st lv ix hr
  refine Zj Y (fun A hA=>?_)
  rw[ZAv hv hn]
  cases hv with
  | kept h0 hx hok hh hm hk =>
   rename_i o h m k x
   have hG:=fun L=>ZjC (hr.push hA (ro:=false) (L:=L)) hx hl
   have hc:QB N (.mk o h m [] k)=x.text:=by simp only[QB,if_neg h0,hx,Option.map_some,Option.getD_some]
   rw[hc];simp only[Tr.h]at hn;subst hn
   cases k
   all_goals simp only[Tr.av,Tr.avO,Tr.avL_map]at *
   all_goals repeat'(first|refine ruS Y ?_|refine isS Y ?_|refine ZB Y Y Y Y ?_|refine rkS Y ?_|refine ZOM (agg:=false) Y Y ?_|(refine cm0 Y Y Y ?_ ?_<;>intro _<;>try omega)|(refine cm0 Y Y Y ?_ ?_<;>intro _<;>try omega)|refine ZJ Y Y Y ?_|refine ZA Y Y (by first|rfl|(simp only[List.nil_append,List.append_nil,List.cons_append,ZH,ZC,ZE];first|done|rfl)) (hG _) ?_)
   all_goals try omega
   all_goals refine ZO hA (by simp) Y Y Y Y ?_
   all_goals rfl
  | leaf h1 h2 hk =>
   rename_i s k
   have hc:QB N (.mk 0 0 .zero s k)=s:=rfl;rw[hc]
   cases k
   all_goals simp only[Tr.av,Tr.avO,Tr.avL_map]at *
   all_goals repeat'(first|refine ruS Y ?_|refine isS Y ?_|refine ZB Y Y Y Y ?_|refine rkS Y ?_|(refine cm0 Y Y Y ?_ ?_<;>intro _<;>try omega)|refine ZJ Y Y Y ?_)
   all_goals try omega
   all_goals refine ZO hA (by simp) Y Y Y Y ?_
   all_goals rfl
  | inner hh h2 h4 hl' hb' hv=>simp[Tr.h]at hn
 | succ n ih =>
  intro t hv hn hb st lv ix hr
  refine Zj Y (fun A hA=>?_)
  obtain⟨c1,c2,c3,c4⟩:=QR hN hv (by omega)
  have hK:=fun L=>ZC3 (hr.push hA (ro:=false) (L:=L)) hl hv (by omega)
  have hW:=fun L u hu=>ih u (c1 u hu).1 (by have:=(c1 u hu).2.1;omega) (by
   have:=ZCr (fun t ht=>(c1 t ht).1.pos.1.nonneg) hu
   omega) (hr.push hA (ro:=false) (L:=L))
  rw[ZAO hN hv (by omega)]
  have hnn:∀u∈Zh N t,0<=u.bytes:=fun u hu=>(c1 u hu).1.pos.1.nonneg
  have hlen:∀i,((Tr.txtL N ((Zh N t).take i)).length:Int)=Tr.bytesL ((Zh N t).take i):=fun i=>ZK6 hN fun u hu=>(c1 u (List.mem_of_mem_take hu)).1
  have hle:∀i,Tr.bytesL ((Zh N t).take i)<=Tr.bytesL (Zh N t):=fun i=>by
   conv=>rhs;rw[<- List.take_append_drop i (Zh N t),Tr.bytesL_append]
   have:=Tr.bytesL_nonneg (l:=(Zh N t).drop i) (fun u hu=>hnn u (List.mem_of_mem_drop hu))
   omega
  have h0:=Qz t
  have hth:(t.h:Int)=((n+1:Nat):Int):=by omega
  rw[hth]at h0
  generalize Zh N t=l at *
  repeat'(first|refine ruS Y ?_|refine isS Y ?_|refine ZX ?_|(refine cm0 Y Y Y ?_ ?_<;>intro _<;>try omega)|refine Z5 Y Y (ZG _) ?_|refine Za Y (ZQ _) (Zg _) ?_|refine ZB Y Y Y h0 ?_|refine YT Y Y (ZiD _ _ _) (hK _) ?_)
  all_goals try omega
  refine Zc (α:=Nat) (fun p=>[(0,.ptr lv ix 0 0 0),(5,.str (Tr.txtL N (l.take p))),(6,.lit (l.map Tr.av)),(7,.int .i64 p)]) (fun p=>⟨A,false,_⟩) (fun p=>p<=l.length) (fun p=>l.length-p) 0 (by simp[Tr.txtL]) Y (by simp) ?_
  intro i hi
  rcases Nat.lt_or_ge i l.length with hlt|hge
  ·obtain⟨u,hu⟩:∃u,l[i]?=some u:=⟨l[i]'hlt,jE _⟩
   have q:0<=((i:Nat):Int)/\l[((i:Nat):Int).toNat]?=some u:=⟨by omega,by rw[show ((i:Nat):Int).toNat=i by omega];exact hu⟩
   have hts:Tr.txtL N (l.take i)++u.txt N=Tr.txtL N (l.take (i+1)):=by rw[ZU hu,Tr.txtL_append];simp[Tr.txtL]
   have e1:=hlen (i+1);have e2:=hle (i+1);rw[<- hts,List.length_append]at e1
   have hWu:=fun L=>hW L u (jM hu)
   have hcat:(Tr.txtL N (l.take i)).length+(u.txt N).length<4611686018427387904:=by omega
   repeat'(first|refine Z6 (f:=Tr.av) Y Y q ZQ ?_|refine ruS Y ?_|refine isS Y ?_|refine rkS Y ?_|refine Zi Y ?_|(refine cm0 Y Y Y ?_ ?_<;>intro _<;>try omega)|refine ZL Y Y (by omega) ?_|refine Zon Y Y (by omega) ?_|refine Zk Y (ZG _) ?_|refine ZA Y Y (by first|rfl|(simp only[List.nil_append,List.append_nil,List.cons_append,ZH,ZC,ZE];first|done|rfl)) (hWu _) ?_)
   all_goals try omega
   refine⟨i+1,⟨by rw[<- hts];rfl,rfl⟩,by omega,by omega⟩
  ·obtain rfl:i=l.length:=by omega
   rw[List.take_length]
   repeat'(first|refine ruS Y ?_|refine isS Y ?_|refine rkS Y ?_|refine Zi Y ?_|(refine cm0 Y Y Y ?_ ?_<;>intro _<;>try omega))
   all_goals try omega
   refine ZO hA (by simp) Y Y Y Y ?_
   rfl
theorem Zpf(s:B8)(st:St):S Tb J1 [.str s] st=some (.bool (decide (Xn s)),st):=by
 refine Zj Y (fun A hA=>?_)
 repeat'(first|refine ruS Y ?_|refine isS Y ?_|refine rkS Y ?_|refine Qf Y ?_|(refine cm0 Y Y Y ?_ ?_<;>intro _<;>try omega))
 all_goals refine ZAd hA (by simp) Y Y ?_
 all_goals (simp;omega)
theorem Zpg(a b:B8)(st:St)(ha:Xn a)(hb:Xn b):S Tb ZAN [.str a,.str b] st=some (.tup [ZTR (XH a b),.int .i64 0],st):=by
 have hab:((a++b).length:Int)=a.length+b.length:=by rw[List.length_append];omega
 refine Zj Y (fun A hA=>?_)
 repeat'(first|refine ruS Y ?_|refine isS Y ?_|refine rkS Y ?_|refine Qf Y ?_|(refine cm0 Y Y Y ?_ ?_<;>intro _<;>try omega)|refine ZL Y Y (by omega) ?_|refine ZBS Y Y (by omega) ?_|refine Zon Y Y (by omega) ?_|refine ZBF Y Y (by omega) ?_|refine ZBG Y Y (by omega) ?_|refine Zz Y Y Y Y ?_|(refine ZON Y Y Y (Zpf a _) (fun _=>?_) (fun _=>?_))|(refine ZON Y Y Y (Zpf b _) (fun _=>?_) (fun _=>?_)))
 all_goals try contradiction
 all_goals refine ZO hA (by simp) Y Y Y Y ?_
 ·rw[Zi3 (by omega)];rfl
 ·rw[Zi4 (by omega) (by omega)];rfl
 all_goals rw[ZfZ (by omega) (by omega),ZqY];rfl
section
variable {O:Orc}{k:List Fr}{Q:Qn}{e:Env}{A:List (Bool × List Blk)}{L:List Blk}{keep:List Nat}{is:List PI}{d:Nat}
theorem ZcD{z' u:AV}{o p:Opd}(ho:ZY e o=some v)(hp:ZY e p=some u)(hv:v.wide=some w)(hu:u.wide=some w)(h:Is O is keep k Q ((d,.ref A.length L.length 0 0 2)::e) ⟨A,false,L++[Blk.arr w 0 [v,u]]⟩):Is O (⟨some d,none,false,.bslice true w [z,z'] [(0,o),(1,p)]⟩::is) keep k Q e ⟨A,false,L⟩:=by
 refine Zmf (qs:=[(0,v),(1,u)]) (es:=[v,u]) (es':=[v,u]) ?_ ?_ (ZQx _) (ZBo _) h
 ·simp only[ZF2,ho,hp]
 ·simp[fillE,hv,hu]
end
theorem Zph{l:List Tr}(h2:2<=l.length)(hl:l.length<=8)(hh:∀t∈l,t.h<=65536)(hv:Sl st v l)(hA:A=st.A++[(st.ro,st.L)]):OwnR Tb A Jm [v] 7 ((ZA6 l).map Tr.av):=by
 refine ZcC Y ?_
 have hv2:=fun L=>hv.push hA (ro:=false) (L:=L)
 have hwv:=hv.weak
 have hG:=fun L=>Xa h2 (by omega) hh (hv2 L)
 have hk:(((l.length:Int)+1) / 2).toNat=(l.length+1) / 2:=by omega
 have h1:∀t∈l.take ((l.length+1) / 2),t.h<=65536:=fun t ht=>hh t (List.mem_of_mem_take ht)
 have h3:∀t∈l.drop ((l.length+1) / 2),t.h<=65536:=fun t ht=>hh t (List.mem_of_mem_drop ht)
 have hr:ZA6 l=if l.length<=4 then [grp l] else [grp (l.take ((l.length+1) / 2)),grp (l.drop ((l.length+1) / 2))]:=rfl
 generalize ZA6 l=r at *
 cases hv with
 | lit =>
  have hGa:=fun (h4:4<l.length) (L:List Blk)=>Xa (l:=l.take ((l.length+1) / 2)) (v:=.lit ((l.map Tr.av).take (((l.length:Int)+1) / 2).toNat)) (by rw[List.length_take];omega) (by rw[List.length_take];omega) h1 (st:=St.allRo ⟨A,false,L⟩) (by rw[hk,<- List.map_take];exact .lit _)
  have hGb:=fun (h4:4<l.length) (L:List Blk)=>Xa (l:=l.drop ((l.length+1) / 2)) (v:=.lit ((l.map Tr.av).drop (((l.length:Int)+1) / 2).toNat)) (by rw[List.length_drop];omega) (by rw[List.length_drop];omega) h3 (st:=⟨A,false,L⟩) (by rw[hk,<- List.map_drop];exact .lit _)
  have hlm:(l.map Tr.av).length=l.length:=by simp
  repeat'(first|refine ruS Y ?_|refine isS Y ?_|refine rkS Y ?_|refine Zi Y ?_|(refine cm0 Y Y Y ?_ ?_<;>intro _<;>try omega)|refine ZL Y Y (by omega) ?_|refine ZBS Y Y (by omega) ?_|refine ZA Y Y (by first|rfl|(simp only[List.nil_append,List.append_nil,List.cons_append,ZH,ZC,ZE];first|done|rfl)) (hG _) ?_|refine ZlX Y (ZQ _) ?_)
  ·rw[hr,if_pos (by omega)]
   exact⟨_,0,0,YA (.inr Y) Y Y Y Y,rfl⟩
  ·refine XP Y Y (by omega) (JB _) ?_
   refine Zw Y Y Y (hGa (by omega) _) ?_
   repeat'(refine ZDH Y ?_)
   refine ZBH Y Y (by omega) (JB _) ?_
   repeat'(first|refine isS Y ?_|refine rkS Y ?_|refine ZA Y Y Y (hGb (by omega) _) ?_|refine ZcD Y Y (ZQ _) (ZQ _) ?_|refine Jq ?_)
   rw[hr,if_neg (by omega)]
   exact⟨_,0,0,YA (.inr Y) Y Y Y Y,rfl⟩
 | @ref lv ix ver s n _ es hg hn hlen he =>
  subst hn
  have hg2:=fun L=>ZS hA (ro:=false) (L:=L) hg
  have hwi:∀L,wIs 7 ver (St.get ⟨A,false,L⟩ lv ix)=true:=fun L=>by rw[hg2];simp[wIs]
  have hSa:∀L,Sl ⟨A,false,L⟩ (.ref lv ix ver s (((l.length:Int)+1) / 2).toNat) (l.take ((l.length+1) / 2)):=by
   intro L
   refine .ref (hg2 L) ?_ (by omega) ?_
   ·rw[hk,List.length_take];omega
   ·rw[hk,List.map_take,<- he,List.take_take]
    congr 1;omega
  have hSb:∀L,Sl ⟨A,false,L⟩ (.ref lv ix ver (s+(((l.length:Int)+1) / 2).toNat) (l.length-(((l.length:Int)+1) / 2).toNat)) (l.drop ((l.length+1) / 2)):=by
   intro L
   refine .ref (hg2 L) ?_ (by omega) ?_
   ·rw[hk,List.length_drop]
   ·rw[hk,List.map_drop,<- he,<- List.drop_drop,List.drop_take]
  have hGa:=fun (h4:4<l.length) (L:List Blk)=>Xa (by rw[List.length_take];omega) (by rw[List.length_take];omega) h1 (hSa L).allRo
  have hGb:=fun (h4:4<l.length) (L:List Blk)=>Xa (by rw[List.length_drop];omega) (by rw[List.length_drop];omega) h3 (hSb L)
  repeat'(first|refine ruS Y ?_|refine isS Y ?_|refine rkS Y ?_|refine Zp Y ?_|(refine cm0 Y Y Y ?_ ?_<;>intro _<;>try omega)|refine ZL Y Y (by omega) ?_|refine ZBS Y Y (by omega) ?_|refine ZA Y Y (by first|rfl|(simp only[List.nil_append,List.append_nil,List.cons_append,ZH,ZC,ZE];first|done|rfl)) (hG _) ?_|refine ZlX Y (ZQ _) ?_)
  ·rw[hr,if_pos (by omega)]
   exact⟨_,0,0,YA (.inr Y) Y Y Y Y,rfl⟩
  ·refine ZAF Y Y (by omega) (hwi _) ?_
   refine Zw Y Y Y (hGa (by omega) _) ?_
   repeat'(refine ZDH Y ?_)
   refine ZIh Y Y (by omega) (hwi _) ?_
   repeat'(first|refine isS Y ?_|refine rkS Y ?_|refine ZA Y Y Y (hGb (by omega) _) ?_|refine ZcD Y Y (ZQ _) (ZQ _) ?_|refine Jq ?_)
   rw[hr,if_neg (by omega)]
   exact⟨_,0,0,YA (.inr Y) Y Y Y Y,rfl⟩
end Go.Q15
