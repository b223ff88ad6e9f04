/- A part of the proof: M52, RFm, RB, RD, RH, RN, RO, W8, SA, SC, RFn, RFo, RFp, RFq, RFr, RFs, RS, PO, RW, RX, SK, SSa, SSb, SSc, PDa, RGa, M45, RGb, M43, M44, M46, RGc0, RGc1, RGc2, RGc3, RGc4, RGc5, RGc6. No condition. -/
import Derived.Test.YtnbialakgbcbfaaGreatPlT9
set_option linter.unusedVariables false
set_option linter.unusedSimpArgs false
set_option maxHeartbeats 16000000
set_option maxRecDepth 100000
namespace Go.Q15
open Go Go.QAbs
variable {rv v:AV}{ro:Bool}{e:Env}{g:FuncId}{A:List (Bool × List Blk)}{caps es ws:LV}{k:List Fr}{l:List Nat}{b i ix ixa ixb kl kx la lb lm m2 mb mx n o ob ox s2 v2 ver vr w wb:Nat}{x:Opd}{Q:Qn}{s st:St}{t:Tr}
theorem Zq0{lv:Nat}(st:St)(h:lv<b):Zb QK b st (.map lv ix)=some (.map lv ix,st):=by
 simp only[Zb,QK,if_pos h]
def Yh(l:List Nat):List (AV × AV):=l.map fun (h:Nat)=>(AV.int .u64 h,AV.bool true)
theorem Zl4(o:Nat):∀l:List Nat,ZBV (.int .u64 o) (Yh l)=some (if o∈l then some (.bool true) else none)
 | []=>rfl
 | p::l=>by
  rw[Yh,jC,ZBV]
  show (Option.bind (if IntKind.u64=IntKind.u64 then some ((o:Int) == (p:Int)) else none) fun b=>if b=true then some (some (AV.bool true)) else ZBV (.int .u64 o) (Yh l))=_
  rw[if_pos rfl,Option.bind_some,Zl4 o l]
  by_cases q:o=p
  ·subst q;simp
  ·rw[if_neg (by simp;omega)]
   simp[q]
theorem Zjb(o:Nat):∀l:List Nat,o∉l->ZOA (.int .u64 o) (.bool true) (Yh l)=some (Yh (l++[o]))
 | [],_=>rfl
 | p::l,h=>by
  simp only[List.mem_cons,not_or]at h;rw[Yh,jC,ZOA]
  show (Option.bind (if IntKind.u64=IntKind.u64 then some ((o:Int) == (p:Int)) else none) fun b=>if b=true then some ((AV.int .u64 o,AV.bool true)::Yh l) else (ZOA (.int .u64 o) (.bool true) (Yh l)).map ((AV.int .u64 p,AV.bool true)::·))=_
  rw[if_pos rfl,Option.bind_some,if_neg (by simp;omega),Zjb o l h.2]
  rfl
theorem ZU3{lv:Nat}(hg:st.get lv mx=some (.map (Yh l)))(o:Nat):lookV st 0 (.bool false) false (.int .u64 o) (.map lv mx)=some (.bool (decide (o∈l))):=by
 simp only[lookV,Zlm,hg,ZZZ,Option.bind_some,XK,if_true,Zl4]
 by_cases q:o∈l
 ·simp[q,ZiG]
 ·simp[q,ZiG]
def Z7(h:Nat):AV:=.int .u64 h
theorem Zpw(l:List Nat):JH 1 (l.map Z7)=true:=by
 induction l with
 | nil=>rfl
 | cons b s ih=>rw[jC,JH,List.all_cons];exact Bool.and_eq_true_iff.2 ⟨rfl,ih⟩
section
variable {O:Orc}{k:List Fr}{Q:Qn}{e:Env}{A:List (Bool × List Blk)}{L:List Blk}{keep:List Nat}{is:List QAbs.PI}{d:Nat}
theorem Zuv{s:Opd}{lv jx bytes:Nat}{ys:LV}(hA:A=st.A++[(st.ro,st.L)])(hwr:st.wr lv)(hg:st.get lv jx=some (.arr w ver es))(hs:ZY e s=some (.ref lv jx ver 0 es.length))(hx:ZY e x=some (.lit ys))
 (hw:JH w ys=true) (hsl:mapSt (Zb QK (lv+1)) ⟨A,false,L⟩ ys=some (ys,⟨A,false,L⟩)) (hl:es.length+ys.length<4294967296) (hb:bytes<=4096)
 (h:∀A',A'=(st.upd lv jx (.arr w (ver+1) (es++ys))).A++[((st.upd lv jx (.arr w (ver+1) (es++ys))).ro,(st.upd lv jx (.arr w (ver+1) (es++ys))).L)]->Is O is keep k Q ((d,.ref lv jx (ver+1) 0 (es.length+ys.length))::e) ⟨A',false,L⟩) :
 Is O (⟨some d,none,false,.app w bytes s x⟩::is) keep k Q e ⟨A,false,L⟩:=by
 have hlv:=St.get_le hg;refine Zq (v:=.ref lv jx (ver+1) 0 (es.length+ys.length)) (st':=St.upd ⟨A,false,L⟩ lv jx (.arr w (ver+1) (es++ys))) ?_ ?_
 ·have hg':=ZS hA (ro:=false) (L:=L) hg
  have hw':=ZAe hA hlv hwr (ro:=false) (L:=L)
  simp only[Zd,evalPO,ZD hs,ZD hx,elems,Option.bind_some,Q4,hw,if_true,hsl,Zf4,hg',ZRL,true_and,if_pos (show 0+es.length<=es.length/\es.length+ys.length<4294967296/\bytes<=4096 by omega),List.drop_zero]
  rw[List.take_of_length_le (by omega),St.put_upd hw' hg']
  rfl
 ·rw[YU hA hlv]
  exact h _ Y
end
namespace Tr
mutual
def kwT:Tr->List Nat->List Nat
 | .mk o _ _ _ k,out=>kwO k (if o≠0/\o∉out then out++[o] else out)
def kwO:Option (List Tr)->List Nat->List Nat
 | none,out=>out
 | some l,out=>kwL l out
def kwL:List Tr->List Nat->List Nat
 | [],out=>out
 | t::l,out=>kwL l (kwT t out)
end
mutual
def siz:Tr->Nat
 | .mk _ _ _ _ k=>1+sizO k
def sizO:Option (List Tr)->Nat
 | none=>0
 | some l=>sizL l
def sizL:List Tr->Nat
 | []=>0
 | t::l=>siz t+sizL l
end
theorem kwL_append:∀(a b:List Tr) (out:List Nat),kwL (a++b) out=kwL b (kwL a out)
 | [],b,out=>rfl
 | t::a,b,out=>by rw[List.cons_append,kwL,kwL,kwL_append a b]
theorem sizL_append:∀a b,sizL (a++b)=sizL a+sizL b
 | [],b=>by simp[sizL]
 | t::a,b=>by rw[List.cons_append,sizL,sizL,sizL_append a b];omega
theorem kwO_getD(k:Option (List Tr))(out:List Nat):kwO k out=kwL (k.getD []) out:=by cases k<;>rfl
theorem sizO_getD(k:Option (List Tr)):sizO k=sizL (k.getD []):=by cases k<;>rfl
theorem kwT_len(t:Tr):∀out,(kwT t out).length<=out.length+t.siz:=by
 induction t using Tr.ind with
 | step o h m s k ih =>
  intro out;rw[kwT,siz,kwO_getD,sizO_getD]
  have key:∀(l:List Tr),(∀t∈l,∀out,(kwT t out).length<=out.length+t.siz)->∀out,(kwL l out).length<=out.length+sizL l:=by
   intro l
   induction l with
   | nil=>intro _ out;simp[kwL,sizL]
   | cons a l ih2 =>
    intro hl out;rw[kwL,sizL]
    have h1:=ih2 (fun t ht=>hl t (by simp[ht])) (kwT a out)
    have h2:=hl a (by simp) out
    omega
  have:=key (k.getD []) ih (if o≠0/\o∉out then out++[o] else out)
  split at this
  ·rename_i q;rw[if_pos q];rw[List.length_append,List.length_singleton]at this;omega
  ·rename_i q;rw[if_neg q];omega
theorem kwL_len:∀(l:List Tr) (out:List Nat),(kwL l out).length<=out.length+sizL l
 | [],out=>by simp[kwL,sizL]
 | t::l,out=>by
  rw[kwL,sizL];have h1:=kwL_len l (kwT t out);have h2:=kwT_len t out;omega
end Tr
structure KS(st:St)(lv mb mx ob ox wb ver:Nat)(out:List Nat):Prop where
 wr:st.wr lv
 hm:st.get lv mb=some (.arr 1 0 [.map lv mx])
 hmx:st.get lv mx=some (.map (Yh out))
 ho:st.get lv ob=some (.arr 1 0 [.ref lv ox ver 0 out.length])
 hox:st.get lv ox=some (.arr 1 ver (out.map Z7))
 hw:st.get lv wb=some (.arr 1 0 [.func (.func Y3) [] [.ptr lv mb 0 0 0,.ptr lv ob 0 0 0,.ptr lv wb 0 0 0]])
 n1:mx≠ox
 n2:mx≠ob
 n3:ox≠ob
 n4:mb≠mx/\mb≠ox/\mb≠ob
 n5:wb≠mx/\wb≠ox/\wb≠ob
def Ja(st:St)(lv mx ob ox ver:Nat)(out:List Nat):St:=((st.upd lv mx (.map (Yh out))).upd lv ox (.arr 1 ver (out.map Z7))).upd lv ob (.arr 1 0 [.ref lv ox ver 0 out.length])
theorem KS.get{st:St}{lv mb mx ob ox wb ver:Nat}{out:List Nat}(h:KS st lv mb mx ob ox wb ver out)(v:Nat)(t:List Nat)(l' i':Nat):
 (Ja st lv mx ob ox v t).get l' i'=if l'=lv/\i'=ob then some (.arr 1 0 [.ref lv ox v 0 t.length]) else if l'=lv/\i'=ox then some (.arr 1 v (t.map Z7)) else if l'=lv/\i'=mx then some (.map (Yh t)) else st.get l' i':=by
 have g1:∀l' i',(st.upd lv mx (.map (Yh t))).get l' i'=if l'=lv/\i'=mx then some (.map (Yh t)) else st.get l' i':=fun l' i'=>St.get_upd h.hmx rfl
 have b1:(st.upd lv mx (.map (Yh t))).get lv ox=some (.arr 1 ver (out.map Z7)):=by rw[g1,if_neg (fun q=>h.n1 q.2.symm)];exact h.hox
 have g2:∀l' i',((st.upd lv mx (.map (Yh t))).upd lv ox (.arr 1 v (t.map Z7))).get l' i'=if l'=lv/\i'=ox then some (.arr 1 v (t.map Z7)) else (st.upd lv mx (.map (Yh t))).get l' i':=fun l' i'=>St.get_upd b1 rfl
 have b2:((st.upd lv mx (.map (Yh t))).upd lv ox (.arr 1 v (t.map Z7))).get lv ob=some (.arr 1 0 [.ref lv ox ver 0 out.length]):=by rw[g2,if_neg (fun q=>h.n3 q.2.symm),g1,if_neg (fun q=>h.n2 q.2.symm)];exact h.ho
 rw[Ja,St.get_upd b2 rfl,g2,g1]
theorem KS.put{st:St}{lv mb mx ob ox wb ver:Nat}{out:List Nat}(h:KS st lv mb mx ob ox wb ver out)(v:Nat)(t:List Nat):KS (Ja st lv mx ob ox v t) lv mb mx ob ox wb v t:=by
 refine⟨St.wr_upd (St.wr_upd (St.wr_upd h.wr h.wr) (St.wr_upd h.wr h.wr)) (St.wr_upd (St.wr_upd h.wr h.wr) (St.wr_upd h.wr h.wr)),?_,?_,?_,?_,?_,h.n1,h.n2,h.n3,h.n4,h.n5⟩
 ·rw[h.get,if_neg (fun q=>h.n4.2.2 q.2),if_neg (fun q=>h.n4.2.1 q.2),if_neg (fun q=>h.n4.1 q.2)];exact h.hm
 ·rw[h.get,if_neg (fun q=>h.n2 q.2),if_neg (fun q=>h.n1 q.2),if_pos ⟨rfl,rfl⟩]
 ·rw[h.get,if_pos ⟨rfl,rfl⟩]
 ·rw[h.get,if_neg (fun q=>h.n3 q.2),if_pos ⟨rfl,rfl⟩]
 ·rw[h.get,if_neg (fun q=>h.n5.2.2 q.2),if_neg (fun q=>h.n5.2.1 q.2),if_neg (fun q=>h.n5.1 q.2)];exact h.hw
theorem KS.same{st:St}{lv mb mx ob ox wb ver:Nat}{out:List Nat}(h:KS st lv mb mx ob ox wb ver out):Ja st lv mx ob ox ver out=st:=by
 rw[Ja,upd_same h.hmx,upd_same h.hox,upd_same h.ho]
theorem Zq1{st:St}{lv mx ob ox v1 v2:Nat}{s t:List Nat}(h1:mx≠ox)(h2:mx≠ob)(h3:ox≠ob):Ja (Ja st lv mx ob ox v1 s) lv mx ob ox v2 t=Ja st lv mx ob ox v2 t:=by
 unfold Ja;generalize Blk.map (Yh s)=a1;generalize Blk.map (Yh t)=a2;generalize Blk.arr 1 v1 (s.map Z7)=b1;generalize Blk.arr 1 v2 (t.map Z7)=b2;generalize Blk.arr 1 0 [AV.ref lv ox v1 0 s.length]=c1;generalize Blk.arr 1 0 [AV.ref lv ox v2 0 t.length]=c2
 rw[ZWt (st:=(st.upd lv mx a1).upd lv ox b1) (fun q=>h2 q.symm),ZWt (st:=st.upd lv mx a1) (fun q=>h1 q.symm),ZWs,ZWt (st:=(st.upd lv mx a2).upd lv ox b1) (fun q=>h3 q.symm),ZWs,ZWs]
theorem ZoG{st:St}{A:List (Bool × List Blk)}{ro:Bool}{L:List Blk}(hA:A=st.A++[(st.ro,st.L)]){lv mx ob ox ver:Nat}{t:List Nat}(hl:lv<=st.A.length):
 Ja ⟨A,ro,L⟩ lv mx ob ox ver t=⟨(Ja st lv mx ob ox ver t).A++[((Ja st lv mx ob ox ver t).ro,(Ja st lv mx ob ox ver t).L)],ro,L⟩:=by
 unfold Ja;rw[YU hA hl]
 have e2:=fun (b:Blk)=>YU (st:=st.upd lv mx (.map (Yh t))) (A:=(st.upd lv mx (.map (Yh t))).A++[((st.upd lv mx (.map (Yh t))).ro,(st.upd lv mx (.map (Yh t))).L)]) (ro:=ro) (L:=L) (lv:=lv) (ix:=ox) (b:=b) rfl (by rw[St.upd_A];exact hl)
 rw[e2]
 exact YU Y (by rw[St.upd_A,St.upd_A];exact hl)
theorem KS.push{st:St}{A:List (Bool × List Blk)}{ro:Bool}{L:List Blk}(hA:A=st.A++[(st.ro,st.L)]){lv mb mx ob ox wb ver:Nat}{out:List Nat}(h:KS st lv mb mx ob ox wb ver out):KS ⟨A,ro,L⟩ lv mb mx ob ox wb ver out :=
 ⟨ZAe hA (St.get_le h.hm) h.wr,ZS hA h.hm,ZS hA h.hmx,ZS hA h.ho,ZS hA h.hox,ZS hA h.hw,h.n1,h.n2,h.n3,h.n4,h.n5⟩
theorem Zuw(st:St)(lv mx ob ox ver:Nat)(out:List Nat):(Ja st lv mx ob ox ver out).A.length=st.A.length:=by
 unfold Ja;rw[St.upd_A,St.upd_A,St.upd_A]
theorem Zux(t:Tr):t.Pos->∀ {st:St} {lv mb mx ob ox wb ver:Nat} {out:List Nat},KS st lv mb mx ob ox wb ver out->out.length+t.siz<4294967296 ->
 Sp Tb Y3 [t.av,.ptr lv mb 0 0 0,.ptr lv ob 0 0 0,.ptr lv wb 0 0 0] st fun v st'=>v=.tup []/\∃ver',st'=Ja st lv mx ob ox ver' (t.kwT out):=by
 induction t using Tr.ind with
 | step o h m s k ih =>
  intro hp st lv mb mx ob ox wb ver out hs hl
  cases hp with
  | mk h0 h4 hk2 =>
  have e1:(Tr.mk o h m s k).kwT out=Tr.kwL (k.getD []) (if o≠0/\o∉out then out++[o] else out):=by rw[Tr.kwT,Tr.kwO_getD]
  have e2:(Tr.mk o h m s k).siz=1+Tr.sizL (k.getD []):=by rw[Tr.siz,Tr.sizO_getD]
  rw[e1];rw[e2]at hl;refine ZqQ Y ?_;obtain⟨A,hA⟩:∃A,A=st.A++[(st.ro,st.L)]:=⟨_,rfl⟩;rw[<- hA];have hlv:=St.get_le hs.hm
  have hav:(Tr.mk o h m s k).av=.agg [.int .u64 o,.int .i64 h,.int .i64 m.b,.int .i64 m.r,.int .i64 m.l,.str s,slV Tr.av k]:=by rw[Tr.av,Tr.avO_sl]
  -- the loop over the children
  have key:∀(ver1:Nat) (out1:List Nat) (A1:List (Bool × List Blk)),A1=(Ja st lv mx ob ox ver1 out1).A++[((Ja st lv mx ob ox ver1 out1).ro,(Ja st lv mx ob ox ver1 out1).L)]->out1.length<=out.length+1->∀e:Env,e=[(3,.ptr lv wb 0 0 0),(4,.ptr A.length 0 0 0 0)]\/e=[(1,.ptr lv mb 0 0 0),(2,.ptr lv ob 0 0 0),(3,.ptr lv wb 0 0 0),(4,.ptr A.length 0 0 0 0),(16,.bool false)] ->
   Ru (S Tb) (.seq ZLI (.block 0 (.loop ZBu))) [] (fun x e st''=>∃v st',Jp false ([]:List RV) (x,e,st'')=some (v,st')/\v=.tup []/\∃ver',st'=Ja st lv mx ob ox ver' (Tr.kwL (k.getD []) out1)) e ⟨A1,false,[.arr 7 0 [(Tr.mk o h m s k).av]]⟩:=by
   intro ver1 out1 A1 hA1 hl1 e he
   have hAl:A.length=A1.length:=by rw[hA,hA1];simp[Zuw]
   rw[hAl]at he;rw[hav]
   cases k with
   | none =>
    simp only[slV]
    rcases he with rfl|rfl
    all_goals repeat'(first|refine ruS Y ?_|refine isS Y ?_|refine ZB Y Y Y Y ?_|refine rkS Y ?_|refine QG Y ?_|(refine cm0 Y Y Y ?_ ?_<;>intro _<;>try omega)|refine Zr ?_)
    all_goals try omega
    all_goals exact⟨_,_,ZO hA1 (.inl Y) Y Y Y Y Y,rfl,ver1,rfl⟩
   | some l =>
    simp only[Option.getD]at h4 hk2 ih hl ⊢;simp only[slV]
    have hloop:Ru (S Tb) (.loop ZBu) [.blk 0] (fun x e st''=>∃v st',Jp false ([]:List RV) (x,e,st'')=some (v,st')/\v=.tup []/\∃ver',st'=Ja st lv mx ob ox ver' (Tr.kwL l out1)) [(3,.ptr lv wb 0 0 0),(26,.lit (l.map Tr.av)),(27,.int .i64 l.length),(28,.int .i64 0)] ⟨A1,false,[.arr 7 0 [.agg [.int .u64 o,.int .i64 h,.int .i64 m.b,.int .i64 m.r,.int .i64 m.l,.str s,.lit (l.map Tr.av)]]]⟩:=by
     refine Zc (α:=Nat × List Blk × Nat) (fun p=>[(3,.ptr lv wb 0 0 0),(26,.lit (l.map Tr.av)),(27,.int .i64 l.length),(28,.int .i64 p.1)])
      (fun p=>⟨(Ja st lv mx ob ox p.2.2 (Tr.kwL (l.take p.1) out1)).A++[((Ja st lv mx ob ox p.2.2 (Tr.kwL (l.take p.1) out1)).ro,(Ja st lv mx ob ox p.2.2 (Tr.kwL (l.take p.1) out1)).L)],false,.arr 7 0 [.agg [.int .u64 o,.int .i64 h,.int .i64 m.b,.int .i64 m.r,.int .i64 m.l,.str s,.lit (l.map Tr.av)]]::p.2.1⟩)
      (fun p=>p.1<=l.length) (fun p=>l.length-p.1) (0,[],ver1) rfl ?_ (by simp) ?_
     ·simp only[List.take_zero,Tr.kwL,<- hA1]
     rintro⟨i,G,ver2⟩ hi
     simp only at hi ⊢
     have hk3:=hs.put ver2 (Tr.kwL (l.take i) out1)
     have hpp:∀v3 t3,Ja (Ja st lv mx ob ox ver2 (Tr.kwL (l.take i) out1)) lv mx ob ox v3 t3=Ja st lv mx ob ox v3 t3:=fun v3 t3=>Zq1 hs.n1 hs.n2 hs.n3
     generalize hs1:Ja st lv mx ob ox ver2 (Tr.kwL (l.take i) out1)=st1 at *
     obtain⟨A2,hA2⟩:∃A2,A2=st1.A++[(st1.ro,st1.L)]:=⟨_,rfl⟩;rw[<- hA2]
     have hgw:=fun L=>ZS hA2 (ro:=false) (L:=L) hk3.hw
     repeat'(first|refine ruS Y ?_|refine Yj Y ?_|refine rkS Y ?_|(refine cm0 Y Y Y ?_ ?_<;>intro _<;>try omega)|refine Za Y Y Y ?_|refine QY Y Y (by omega) ZQ (fun _ _=>?_)|refine Zk Y (ZG _) ?_|refine J5 Y Y Y (Zn _ _ _) (Zx _ _) Y ?_)
     ·rename_i u hu
      have hu2:l[i]?=some u:=hu;have hum:=jM hu2;have hle:lv<=st1.A.length:=St.get_le hk3.hm
      have hsum:Tr.sizL l=Tr.sizL (l.take i)+(u.siz+Tr.sizL (l.drop (i+1))):=by
       conv=>lhs;rw[<- List.take_append_drop (i+1) l,ZU hu2,Tr.sizL_append,Tr.sizL_append]
       simp[Tr.sizL];omega
      have hlen:=Tr.kwL_len (l.take i) out1
      have ihu:=fun L=>ih u hum (hk2 u hum) (hk3.push hA2 (ro:=false) (L:=L)) (by omega)
      have hkw:Tr.kwL (l.take (i+1)) out1=u.kwT (Tr.kwL (l.take i) out1):=by
       rw[ZU hu2,Tr.kwL_append];rfl
      refine Z1 Y (hgw _) Y Y ?_
      repeat'(refine Z5 Y Y (ZG _) ?_)
      refine Zb5 Y Y (wk4 _ _ _ _ Y Y Y) (ihu _) ?_
      rintro v st' ⟨rfl,v3,rfl⟩
      rw[ZoG hA2 hle,hpp,<- hkw]
      repeat'(first|refine Qp ?_|refine isS Y ?_|refine rkS Y ?_|refine ZL Y Y (by omega) ?_)
      exact⟨(i+1,_,v3),⟨rfl,rfl⟩,by simp only;omega,by simp only;omega⟩
     ·have hi':i=l.length:=by omega
      subst hi'
      rw[List.take_length]at *
      exact⟨_,_,ZO hA2 (.inl Y) Y Y Y Y Y,rfl,ver2,hs1.symm⟩
    rcases he with rfl|rfl
    all_goals repeat'(first|exact hloop|refine ruS Y ?_|refine isS Y ?_|refine ZB Y Y Y Y ?_|refine ZX ?_|refine Zi Y ?_)
  have hg1:=fun L=>ZS hA (ro:=false) (L:=L) hs.hm
  have hg2:=fun L=>ZS hA (ro:=false) (L:=L) hs.hmx
  have hlk:=fun L=>ZU3 (hg2 L) o
  have hkey0:=key ver out A (by rw[hs.same];exact hA) (by omega) _ (.inr Y)
  have hwide:=ZQ (Tr.mk o h m s k);have hforce:=Zg (Tr.mk o h m s k);rw[hav]at hwide hforce
  by_cases ho:o=0
  ·subst ho
   rw[if_neg (by simp)]
   rw[hav]at hkey0 ⊢
   repeat'(first|refine Za Y hwide hforce ?_|exact hkey0|refine ruS Y ?_|refine isS Y ?_|refine ZB Y Y Y Y ?_|refine ZX ?_|(refine cm0 Y Y Y ?_ ?_<;>intro _<;>try omega))
   all_goals contradiction
  ·by_cases hm:o∈out
   ·rw[if_neg (by simp[hm])]
    rw[hav]at hkey0 ⊢;rw[decide_eq_true hm]at hlk
    repeat'(first|refine Za Y hwide hforce ?_|exact hkey0|refine ruS Y ?_|refine isS Y ?_|refine ZB Y Y Y Y ?_|refine ZX ?_|(refine cm0 Y Y Y ?_ ?_<;>intro _<;>try omega)|refine Z1 Y (hg1 _) Y Y ?_|refine ZF3 Y Y (hlk _) ?_)
    all_goals contradiction
   ·rw[if_pos ⟨ho,hm⟩]
    have hkey:=key (ver+1) (out++[o]);rw[hav]at hkey ⊢;rw[decide_eq_false hm]at hlk
    repeat'(first|refine Za Y hwide hforce ?_|refine ruS Y ?_|refine isS Y ?_|refine ZB Y Y Y Y ?_|refine ZX ?_|(refine cm0 Y Y Y ?_ ?_<;>intro _<;>try omega)|refine Z1 Y (hg1 _) Y Y ?_|refine ZF3 Y Y (hlk _) ?_)
    all_goals try contradiction
    refine ZnR hA Y Y Y hs.wr hs.hmx Y (Zjb o out hm) (fun A' hA'=>?_)
    have q1:∀l' i',(st.upd lv mx (.map (Yh (out++[o])))).get l' i'=if l'=lv/\i'=mx then some (.map (Yh (out++[o]))) else st.get l' i':=fun l' i'=>St.get_upd hs.hmx rfl
    have ka:(st.upd lv mx (.map (Yh (out++[o])))).get lv ob=some (.arr 1 0 [.ref lv ox ver 0 out.length]):=by rw[q1,if_neg (fun q=>hs.n2 q.2.symm)];exact hs.ho
    have kb:(st.upd lv mx (.map (Yh (out++[o])))).get lv ox=some (.arr 1 ver (out.map Z7)):=by rw[q1,if_neg (fun q=>hs.n1 q.2.symm)];exact hs.hox
    have hw1:=St.wr_upd (b:=.map (Yh (out++[o]))) (ix:=mx) hs.wr hs.wr
    have hAl:A.length=A'.length:=by rw[hA,hA'];simp[St.upd_A]
    rw[hAl]at hkey ⊢
    have hput:Ja st lv mx ob ox (ver+1) (out++[o])=((st.upd lv mx (.map (Yh (out++[o])))).upd lv ox (.arr 1 (ver+1) (out.map Z7++[.int .u64 o]))).upd lv ob (.arr 1 0 [.ref lv ox (ver+1) 0 (out.length+1)]):=by
     unfold Ja;rw[List.map_append,List.length_append];rfl
    rw[hput]at hkey;clear hput q1
    generalize st.upd lv mx (.map (Yh (out++[o])))=st1 at *
    have hg3:=fun L=>ZS hA' (ro:=false) (L:=L) ka
    repeat'(first|refine Qp ?_|refine isS Y ?_|refine ZB Y Y Y Y ?_|refine ZX ?_|refine Zz Y Y Y Y ?_|refine Z1 Y (hg3 _) Y Y ?_)
    refine Zuv hA' hw1 kb (by rw[List.length_map];rfl) rfl rfl rfl (by simp;omega) (by decide) (fun A2 hA2=>?_)
    have q2:∀l' i',(st1.upd lv ox (.arr 1 (ver+1) (out.map Z7++[.int .u64 o]))).get l' i'=if l'=lv/\i'=ox then some (.arr 1 (ver+1) (out.map Z7++[.int .u64 o])) else st1.get l' i':=fun l' i'=>St.get_upd kb rfl
    have kc:(st1.upd lv ox (.arr 1 (ver+1) (out.map Z7++[.int .u64 o]))).get lv ob=some (.arr 1 0 [.ref lv ox ver 0 out.length]):=by rw[q2,if_neg (fun q=>hs.n3 q.2.symm)];exact ka
    have hw2:=St.wr_upd (b:=.arr 1 (ver+1) (out.map Z7++[.int .u64 o])) (ix:=ox) hw1 hw1
    have hAl2:A'.length=A2.length:=by rw[hA',hA2];simp[St.upd_A]
    rw[hAl2]at hkey ⊢
    generalize st1.upd lv ox (.arr 1 (ver+1) (out.map Z7++[.int .u64 o]))=st2 at *
    refine ZOP hA2 Y Y hw2 kc Y (Qv _ (Nat.lt_succ_self _)) Y (fun A3 hA3=>?_)
    have hAl3:A2.length=A3.length:=by rw[hA2,hA3];simp[St.upd_A]
    rw[hAl3]at hkey ⊢
    have hk:=hkey A3 (by rw[hA3];simp) (by simp) _ (.inl rfl)
    repeat'(first|exact hk|refine Yj Y ?_|refine ZX ?_)
theorem ZsY{t:Tr}(hp:t.Pos)(hsz:t.siz<4294967296)(st:St):S Tb ZF4 [t.av] st=some (.lit ((t.kwT []).map Z7),st):=by
 refine Zj Y (fun A hA=>?_)
 have hW:∀L,L=[.arr 7 0 [t.av],.arr 1 0 [],.arr 1 0 [.ref A.length 1 0 0 0],.map [],.arr 1 0 [.map A.length 3],.arr 1 0 [.func (.func Y3) [] [.ptr A.length 4 0 0 0,.ptr A.length 2 0 0 0,.ptr A.length 5 0 0 0]]] ->
  Sp Tb Y3 [t.av,.ptr A.length 4 0 0 0,.ptr A.length 2 0 0 0,.ptr A.length 5 0 0 0] ⟨A,false,L⟩ fun v st'=>v=.tup []/\∃ver',st'=Ja ⟨A,false,L⟩ A.length 3 2 1 ver' (t.kwT []):=by
  rintro L rfl
  refine Zux t hp (ver:=0) (mb:=4) (mx:=3) (ob:=2) (ox:=1) (wb:=5) ⟨by simp[St.wr],by rw[St.get_cur];rfl,by rw[St.get_cur];rfl,by rw[St.get_cur];rfl,by rw[St.get_cur];rfl,by rw[St.get_cur];rfl,by decide,by decide,by decide,by decide,by decide⟩ (by simp;omega)
 repeat'(first|refine ruS Y ?_|refine isS Y ?_|refine ZB Y Y Y Y ?_|refine ZX ?_|refine ZOL Y Y ?_|refine ZJ Y Y Y ?_|refine ZQ8 Y ?_|refine ZVG Y ?_|refine ZB Y Y Y (ZG _) ?_|refine Za Y (ZQ _) (Zg _) ?_|refine Ze Y Y Y (Zq0 _ (Nat.lt_succ_self _)) Y Y ?_|refine Ze Y Y Y (Zfw _ (Nat.lt_succ_self _)) Y Y ?_)
 refine Zb5 Y Y (wk4 _ _ _ _ Y Y Y) (hW _ Y) ?_
 rintro v st' ⟨rfl,v2,rfl⟩
 have hpc:∀b0 b1 b2 b3 b4 b5 w,Ja ⟨A,false,[b0,b1,b2,b3,b4,b5]⟩ A.length 3 2 1 v2 w=⟨A,false,[b0,.arr 1 v2 (w.map Z7),.arr 1 0 [.ref A.length 1 v2 0 w.length],.map (Yh w),b4,b5]⟩:=by
  intro b0 b1 b2 b3 b4 b5 w
  simp[Ja,St.upd]
 rw[hpc]
 generalize t.kwT []=w at *
 repeat'(first|refine ruS Y ?_|refine isS Y ?_|refine ZB Y Y Y Y ?_|refine rkS Y ?_)
 refine Qu (es:=w.map Z7) hA (by simp) Y Y (by simp) (by intro v hv;obtain⟨x,_,rfl⟩:=List.mem_map.1 hv;rfl) ?_
 rfl
def XI(N:ZF):Nat->Tr->List Nat
 | 0,t=>if t.old=0 then [] else [t.old]
 | n+1,t=>(if t.old=0 then [] else [t.old])++(Zh N t).flatMap (XI N n)
theorem ZoH{f:Tr->List Nat}{c:Nat}:∀ {l:List Tr},(∀t∈l,3*(f t).length+1<=c)->3*(l.flatMap f).length+l.length<=l.length*c
 | [],_=>by simp
 | t::l,h=>by
  have h1:=h t (by simp)
  have h2:=ZoH (l:=l) fun u hu=>h u (by simp[hu])
  rw[List.flatMap_cons,List.length_append,List.length_cons,Nat.add_mul,Nat.one_mul];omega
theorem Zpx{N:ZF}(hN:GoodN N):∀n t,Val N t->t.h=n->3*(XI N n t).length+1<=4 ^ (n+1):=by
 intro n
 induction n with
 | zero=>intro t hv hn;unfold XI;split<;>simp
 | succ n ih =>
  intro t hv hn
  obtain⟨c1,c2,c3,c4⟩:=QR hN hv (by omega)
  have hf:=ZoH (f:=XI N n) (c:=4 ^ (n+1)) (l:=Zh N t) fun u hu=>ih u (c1 u hu).1 (by have:=(c1 u hu).2.1;omega)
  have hp:4 ^ (n+1+1)=4 ^ (n+1)*4:=Nat.pow_succ ..
  have hc:1<=4 ^ (n+1):=Nat.one_le_pow _ _ (by omega)
  rw[XI,List.length_append,hp]
  have h1:(if t.old=0 then ([]:List Nat) else [t.old]).length<=1:=by split<;>simp
  generalize 4 ^ (n+1)=c at *
  generalize ((Zh N t).flatMap (XI N n)).length=m at *
  have hk:(Zh N t).length=2\/(Zh N t).length=3\/(Zh N t).length=4:=by omega
  rcases hk with q|q|q<;>rw[q]at hf<;>omega
theorem Zjc(m:Nat)(l:List Nat):∀v,v∈l.map Z7->imm (m+1) v=true:=by
 intro v hv;obtain⟨h,_,rfl⟩:=List.mem_map.1 hv;rfl
theorem Zl5(b:Nat)(st:St)(l:List Nat):mapSt (Zb QK b) st (l.map Z7)=some (l.map Z7,st):=Yw fun v hv=>ZDE (Zjc 5 l v hv)
theorem ZoI{N:ZF}(hN:GoodN N)(hl:N.length<4294967296):∀(n:Nat) (t:Tr),Val N t->t.h=n->n<=13->∀ {st:St} {lv ix:Nat},RRd st lv ix N->S Tb JG [.ptr lv ix 0 0 0,t.av] st=some (.lit ((XI N n t).map Z7),st):=by
 intro n
 induction n with
 | zero =>
  intro t hv hn h13 st lv ix hr
  refine Zj Y (fun A hA=>?_)
  obtain⟨o,h,m,s,k⟩:=t;simp only[Tr.h]at hn;subst hn;have hh:=Qz (.mk o 0 m s k)
  by_cases ho:o=0
  ·subst ho
   rw[show XI N 0 (.mk 0 0 m s k)=[] from rfl]
   cases k
   all_goals simp only[Tr.av,Tr.avO,Tr.avL_map]at *
   all_goals repeat'(first|refine ruS Y ?_|refine isS Y ?_|refine ZB Y Y Y Y ?_|refine rkS Y ?_|(refine cm0 Y Y Y ?_ ?_<;>intro _<;>try omega)|refine ZJ Y Y Y ?_|refine QN Y ?_)
   all_goals try first|contradiction|omega
   all_goals refine Qu hA (.inr Y) Y Y (by simp) (by intro v hv;simp at hv) rfl
  ·have ho':((o:Nat):Int)≠0:=by omega
   rw[show XI N 0 (.mk o 0 m s k)=[o] from if_neg ho]
   cases k
   all_goals simp only[Tr.av,Tr.avO,Tr.avL_map]at *
   all_goals repeat'(first|refine ruS Y ?_|refine isS Y ?_|refine ZB Y Y Y Y ?_|refine rkS Y ?_|(refine cm0 Y Y Y ?_ ?_<;>intro _<;>try omega)|(refine cm0 Y Y Y ?_ ?_<;>intro _<;>try omega)|refine ZJ Y Y Y ?_|refine Zz Y Y Y Y ?_|refine QN Y ?_|refine X5 Y Y Y (by first|rfl|(simp;done)|(simp;omega)) (by first|omega|(simp<;>omega)) (by decide) rfl rfl rfl ?_)
   all_goals try first|contradiction|omega
   all_goals refine Qu hA (.inr Y) Y Y (by simp) (by intro v hv;simp at hv;subst hv;rfl) rfl
 | succ n ih =>
  intro t hv hn h13 st lv ix hr
  refine Zj Y (fun A hA=>?_)
  have hrp:=fun L=>hr.push hA (ro:=false) (L:=L)
  obtain⟨c1,c2,c3,c4⟩:=QR hN hv (by omega)
  have hK:=fun L=>ZC3 (hrp L) hl hv (by omega)
  have hlen0:=Zpx hN (n+1) t hv hn
  have hpow:4 ^ (n+1+1)<=4 ^ 14:=Nat.pow_le_pow_right (by omega) (by omega)
  have hpw:(4:Nat) ^ 14=268435456:=by decide
  have hU:=fun L u hu=>ih u (c1 u hu).1 (by have:=(c1 u hu).2.1;omega) (by omega) (hrp L)
  have hun:XI N (n+1) t=(if t.old=0 then ([]:List Nat) else [t.old])++(Zh N t).flatMap (XI N n):=rfl
  rw[hun]at hlen0;rw[hun];clear hun
  generalize Zh N t=l at *
  have key:∀k Q B v0 (p0:List Nat),(p0++l.flatMap (XI N n)).length<4294967296 ->
   Rk (S Tb) k Q .norm [(0,.ptr lv ix 0 0 0),(5,.ref A.length 1 (v0+l.length) 0 (p0++l.flatMap (XI N n)).length),(6,.lit (l.map Tr.av)),(7,.int .i64 l.length),(26,.bool false)] ⟨A,false,[B,.arr 1 (v0+l.length) ((p0++l.flatMap (XI N n)).map Z7)]⟩ ->
   Ru (S Tb) p_quartoref15_Under_11.loop (.blk 0::k) Q [(0,.ptr lv ix 0 0 0),(5,.ref A.length 1 v0 0 p0.length),(6,.lit (l.map Tr.av)),(7,.int .i64 0)] ⟨A,false,[B,.arr 1 v0 (p0.map Z7)]⟩:=by
   intro k Q B v0 p0 hbd hex
   refine Zc (α:=Nat) (fun i=>[(0,.ptr lv ix 0 0 0),(5,.ref A.length 1 (v0+i) 0 (p0++(l.take i).flatMap (XI N n)).length),(6,.lit (l.map Tr.av)),(7,.int .i64 i)]) (fun i=>⟨A,false,[B,.arr 1 (v0+i) ((p0++(l.take i).flatMap (XI N n)).map Z7)]⟩) (fun i=>i<=l.length) (fun i=>l.length-i) 0 (by simp) (by simp) (by omega) ?_
   intro i hi
   rcases Nat.lt_or_ge i l.length with hlt|hge
   ·obtain⟨u,hu⟩:∃u,l[i]?=some u:=⟨l[i]'hlt,jE _⟩
    have q:0<=((i:Nat):Int)/\l[((i:Nat):Int).toNat]?=some u:=⟨by omega,by rw[show ((i:Nat):Int).toNat=i by omega];exact hu⟩
    have hUu:=fun L=>hU L u (jM hu)
    have ht:(l.take (i+1)).flatMap (XI N n)=(l.take i).flatMap (XI N n)++XI N n u:=by rw[ZU hu,List.flatMap_append];simp
    have htl:(p0++l.flatMap (XI N n)).length=(p0++(l.take i).flatMap (XI N n)).length+(XI N n u).length+((l.drop (i+1)).flatMap (XI N n)).length:=by
     conv=>lhs;rw[<- List.take_append_drop (i+1) l,List.flatMap_append,ht]
     simp only[List.length_append];omega
    have hb2:((p0++(l.take i).flatMap (XI N n)).map Z7).length+((XI N n u).map Z7).length<4294967296:=by simp only[List.length_map];omega
    repeat'(first|refine Z6 (f:=Tr.av) Y Y q ZQ ?_|refine ruS Y ?_|refine isS Y ?_|refine rkS Y ?_|refine Zi Y ?_|(refine cm0 Y Y Y ?_ ?_<;>intro _<;>try omega)|refine ZL Y Y (by omega) ?_|refine Zk Y (ZG _) ?_|refine ZA Y Y (by first|rfl|(simp only[List.nil_append,List.append_nil,List.cons_append,ZH,ZC,ZE];first|done|rfl)) (hUu _) ?_|refine ZRG Y Y Y (by simp) (Zpw _) (Zl5 _ _ _) hb2 (by decide) ?_)
    all_goals try omega
    refine⟨i+1,⟨?_,?_⟩,by omega,by omega⟩
    ·have e1 : (p0 ++ (l.take (i + 1)).flatMap (XI N n)).length = (p0 ++ (l.take i).flatMap (XI N n)).length + ((XI N n u).map Z7).length := by
      rw[ht];simp only[List.length_append,List.length_map];omega
     rw[e1];rfl
    ·have e2 : (p0 ++ (l.take (i + 1)).flatMap (XI N n)).map Z7 = (p0 ++ (l.take i).flatMap (XI N n)).map Z7 ++ (XI N n u).map Z7 := by
      rw[ht,<- List.append_assoc,List.map_append]
     rw[e2];rfl
   ·obtain rfl:i=l.length:=by omega
    rw[List.take_length]
    repeat'(first|refine ruS Y ?_|refine isS Y ?_|refine rkS Y ?_|refine Zi Y ?_|(refine cm0 Y Y Y ?_ ?_<;>intro _<;>try omega))
    all_goals try omega
    all_goals exact hex
  have h0:=Qz t
  have hth:(t.h:Int)=((n+1:Nat):Int):=by omega
  rw[hth]at h0
  have hold:Jn t.av false 0 1=some (.int .u64 t.old):=by obtain⟨o,h,m,s,k⟩:=t;cases k<;>rfl
  generalize t.old=o at *
  by_cases ho:o=0
  ·rw[if_pos ho]at hlen0 ⊢
   subst ho
   repeat'(first|refine ruS Y ?_|refine isS Y ?_|refine ZX ?_|(refine cm0 Y Y Y ?_ ?_<;>intro _<;>try omega)|refine QN Y ?_|refine ZB Y Y Y (ZG _) ?_|refine Za Y (ZQ _) (Zg _) ?_|refine ZB Y Y Y h0 ?_|refine ZB Y Y Y hold ?_|refine YT Y Y (ZiD _ _ _) (hK _) ?_)
   all_goals try first|contradiction|omega
   all_goals refine key _ _ _ 0 [] (by omega) ?_
   all_goals repeat'(first|refine ruS Y ?_|refine isS Y ?_|refine rkS Y ?_)
   all_goals refine Qu hA (.inr Y) Y Y (by simp) (Zjc 4 _) Y
  ·rw[if_neg ho]at hlen0 ⊢
   have ho':((o:Nat):Int)≠0:=by omega
   repeat'(first|refine ruS Y ?_|refine isS Y ?_|refine ZX ?_|(refine cm0 Y Y Y ?_ ?_<;>intro _<;>try omega)|(refine cm0 Y Y Y ?_ ?_<;>intro _<;>try omega)|refine Zz Y Y Y Y ?_|refine QN Y ?_|refine X5 Y Y Y (by first|rfl|(simp;done)|(simp;omega)) (by first|omega|(simp<;>omega)) (by decide) rfl rfl rfl ?_|refine ZB Y Y Y (ZG _) ?_|refine Za Y (ZQ _) (Zg _) ?_|refine ZB Y Y Y h0 ?_|refine ZB Y Y Y hold ?_|refine YT Y Y (ZiD _ _ _) (hK _) ?_)
   all_goals try first|contradiction|omega
   all_goals refine key _ _ _ 1 [o] (by omega) ?_
   all_goals repeat'(first|refine ruS Y ?_|refine isS Y ?_|refine rkS Y ?_)
   all_goals refine Qu hA (.inr Y) Y Y (by simp) (Zjc 4 _) Y
structure HasR(st:St)(lv b:Nat)(r:AR):Prop where
 h0:st.get lv b=some r.b0
 h1:st.get lv (b+1)=some r.b1
 h2:st.get lv (b+2)=some r.b2
 h3:st.get lv (b+3)=some (r.b3 lv b)
 h4:st.get lv (b+4)=some r.b4
 h5:st.get lv (b+5)=some (r.b5 lv b)
theorem Has.r{lv:Nat}{r:AR}(h:Has st lv b r):HasR st lv b r:=⟨h.h0,h.h1,h.h2,h.h3,h.h4,h.h5⟩
theorem HasR.push{lv:Nat}{r:AR}{L:List Blk}(hA:A=st.A++[(st.ro,st.L)])(h:HasR st lv b r):HasR ⟨A,ro,L⟩ lv b r :=
 ⟨ZS hA h.h0,ZS hA h.h1,ZS hA h.h2,ZS hA h.h3,ZS hA h.h4,ZS hA h.h5⟩
theorem HasR.allRo{lv:Nat}{r:AR}(h:HasR st lv b r):HasR st.allRo lv b r :=
 ⟨by rw[Qm];exact h.h0,by rw[Qm];exact h.h1,by rw[Qm];exact h.h2,by rw[Qm];exact h.h3,by rw[Qm];exact h.h4,by rw[Qm];exact h.h5⟩
theorem ZiN(f:Nat->AV)(v:AV):((List.range n).map f).set i v=(List.range n).map fun j=>if j=i then v else f j:=by
 apply List.ext_getElem
 ·simp
 ·intro j hj hj'
  simp only[List.getElem_set,List.getElem_map,List.getElem_range]
  by_cases q:i=j
  ·subst q;simp
  ·rw[if_neg q,if_neg (fun w=>q w.symm)]
theorem ZiO{k:Nat}(f:Nat->AV)(h:k<n):((List.range n).map f)[0+((k:Nat):Int).toNat]?=some (f k):=by
 rw[show 0+((k:Nat):Int).toNat=k by omega]
 simp[h]
def ZBY(l:List Int)(i k:Nat):Int:=if k<i\/l.length<k+i+1 then (l[l.length-1-k]?).getD 0 else (l[k]?).getD 0
theorem Zw2(l:List Int):(List.range l.length).map (fun k=>AV.int .i64 (ZBY l 0 k))=l.map (.int .i64):=by
 apply List.ext_getElem
 ·simp
 ·intro k h1 h2
  simp only[List.length_map,List.length_range]at h1;simp only[List.getElem_map,List.getElem_range,ZBY,Nat.not_lt_zero,false_or]
  rw[if_neg (by omega),jE h1];rfl
theorem Zw3(l:List Int)(h:l.length<=2*i+1):(List.range l.length).map (fun k=>AV.int .i64 (ZBY l i k))=l.reverse.map (.int .i64):=by
 apply List.ext_getElem
 ·simp
 ·intro k h1 h2
  simp only[List.length_map,List.length_range]at h1;simp only[List.getElem_map,List.getElem_range,ZBY,List.getElem_reverse]
  split
  ·rw[jE (by omega)];rfl
  ·have:l.length-1-k=k:=by omega
   rw[jE h1];simp only[this,Option.getD_some]
theorem Zq2(l:List Int)(h:2*i+1<l.length):
 (((List.range l.length).map (fun k=>AV.int .i64 (ZBY l i k))).set i (.int .i64 (ZBY l i (l.length-1-i)))).set (l.length-1-i) (.int .i64 (ZBY l i i))=(List.range l.length).map (fun k=>AV.int .i64 (ZBY l (i+1) k)):=by
 rw[ZiN,ZiN]
 apply List.map_congr_left
 intro k hk;rw[List.mem_range]at hk
 by_cases q:k=l.length-1-i
 ·rw[if_pos q]
  simp only[ZBY]
  rw[if_neg (by omega),if_pos (by omega),q]
  rw[show l.length-1-(l.length-1-i)=i by omega]
 ·rw[if_neg q]
  by_cases q2:k=i
  ·rw[if_pos q2]
   simp only[ZBY]
   rw[if_neg (by omega),if_pos (by omega),q2]
  ·rw[if_neg q2]
   simp only[ZBY]
   by_cases q3:k<i\/l.length<k+i+1
   ·rw[if_pos q3,if_pos (by omega)]
   ·rw[if_neg q3,if_neg (by omega)]
def AR.free(r:AR):List Int:=(r.blk.take r.n).reverse
theorem AR.free_len{r:AR}(h:r.n<=r.blk.length):r.free.length=r.n:=by simp[AR.free];omega
theorem Zw4{lv:Nat}{r:AR}(h:HasR st lv b r)(hn:r.n<=r.blk.length)(hb:r.n<65536):S Tb XS [.ptr lv (b+3) 0 0 0] st=some (.lit (r.free.map (.int .i64)),st):=by
 refine Zj Y (fun A hA=>?_)
 have g3:=fun L=>ZS hA (ro:=false) (L:=L) h.h3
 have g1:=fun L=>ZS hA (ro:=false) (L:=L) h.h1
 unfold AR.b3 at g3;unfold AR.b1 at g1
 have hl:(r.blk.take r.n).length=r.n:=by simp;omega
 have hel:∀L,elems ⟨A,false,L⟩ (.ref lv (b+1) r.ver 0 r.n)=some ((r.blk.take r.n).map (.int .i64)):=fun L=>by
  simp only[elems,g1,ZFG,true_and,Nat.zero_add,List.length_map,if_pos hn,List.drop_zero,List.map_take]
 unfold AR.free
 generalize hz:r.blk.take r.n=l at *
 repeat'(first|refine ruS Y ?_|refine isS Y ?_|refine ZX ?_|refine Zp Y ?_|refine QC Y Y (by omega) ?_|refine QD Y Y Y Y ?_|refine ZTi Y Y (by omega) (by decide) Y ?_|refine Z1 Y (g3 _) Y Y ?_|refine ZwS (ys:=l.map (.int .i64)) Y Y (hel _) Y (by simp) (by simp[hl]) (Zrm _ _) (Zrn _ _ _ _ _) ?_)
 refine Zc (α:=Nat) (fun i=>[(3,.ref A.length 0 0 0 r.n),(4,.int .i64 i),(5,.int .i64 ((l.length:Int)-1-i))]) (fun i=>⟨A,false,[.arr 1 0 ((List.range l.length).map fun k=>AV.int .i64 (ZBY l i k))]⟩) (fun i=>2*i<=l.length+1) (fun i=>l.length+1-2*i) 0 ?_ ?_ (by simp) ?_
 ·simp[hl]
 ·rw[Zw2];rfl
 intro i hi;replace hi:2*i<=l.length+1:=hi
 rcases Nat.lt_or_ge (2*i+1) l.length with hlt|hge
 ·have hj:(l.length:Int)-1-i=((l.length-1-i:Nat):Int):=by omega
  have q1:=ZiO (n:=l.length) (k:=i) (fun k=>AV.int .i64 (ZBY l i k)) (by omega)
  have q2:=ZiO (n:=l.length) (k:=l.length-1-i) (fun k=>AV.int .i64 (ZBY l i k)) (by omega)
  have q3:(((List.range l.length).map (fun k=>AV.int .i64 (ZBY l i k))).set (0+((i:Nat):Int).toNat) (.int .i64 (ZBY l i (l.length-1-i))))[0+((l.length-1-i:Nat):Int).toNat]?=some (.int .i64 (ZBY l i (l.length-1-i))):=by
   rw[jS (by omega)];exact q2
  rw[hj]
  repeat'(first|refine ruS Y ?_|refine isS Y ?_|refine rkS Y ?_|(refine cm0 Y Y Y ?_ ?_<;>intro _<;>try omega)|refine ZL Y Y (by omega) ?_|refine QC Y Y (by omega) ?_|refine Xe Y Y (by omega) Y ?_|refine ZB Y Y q2 Y ?_|refine ZB Y Y q1 Y ?_|refine Q1 Y Y Y q1 Y Y ?_|refine Q1 Y Y Y q3 Y Y ?_)
  refine⟨i+1,⟨?_,?_⟩,by omega,by omega⟩
  ·rw[show ((l.length-1-i:Nat):Int)-1=(l.length:Int)-1-((i+1:Nat):Int) by omega];rfl
  ·rw[<- Zq2 l hlt]
   rw[show 0+((i:Nat):Int).toNat=i by omega,show 0+((l.length-1-i:Nat):Int).toNat=l.length-1-i by omega]
   rfl
 ·repeat'(first|refine ruS Y ?_|refine isS Y ?_|refine rkS Y ?_|(refine cm0 Y Y Y ?_ ?_<;>intro _<;>try omega))
  all_goals try omega
  refine Qu (es:=l.reverse.map (.int .i64)) hA (.inr Y) Y (by rw[Zw3 l (by omega)];rfl) (by simp;omega) (by intro v hv;obtain⟨x,_,rfl⟩:=List.mem_map.1 hv;rfl) ?_
  rfl
def XD(l:List Int)(s:Int)(n:Nat):List Nat:=(List.range n).filter fun i=>l[i]? == some s
def ZW6(l:List Int)(s:Int):List Nat:=XD l s l.length
def ZiP(n:Nat):AV:=.int .i64 n
theorem Zjd(l:List Int)(s:Int)(n:Nat):XD l s (n+1)=XD l s n++if l[n]?=some s then [n] else []:=by
 rw[XD,List.range_succ,List.filter_append,<- XD]
 congr 1
 by_cases q:l[n]?=some s
 ·rw[if_pos q];simp[q]
 ·rw[if_neg q];simp[q]
theorem Zl6(l:List Int)(s:Int)(n:Nat):(XD l s n).length<=n:=by
 have:=List.length_filter_le (fun i=>l[i]? == some s) (List.range n)
 rw[List.length_range]at this;exact this
theorem Zuy{lv:Nat}{r:AR}(h:HasR st lv b r)(hb:r.states.length<=16384)(s:Int):S Tb Y9 [.ptr lv (b+3) 0 0 0,.int .u8 s] st=some (.lit ((ZW6 r.states s).map ZiP),st):=by
 refine Zj Y (fun A hA=>?_)
 have g3:=fun L=>ZS hA (ro:=false) (L:=L) h.h3
 have g0:=fun L=>ZS hA (ro:=false) (L:=L) h.h0
 unfold AR.b3 at g3;unfold AR.b0 at g0
 have hwi:∀L,wIs 1 0 (St.get ⟨A,false,L⟩ lv b)=true:=fun L=>by rw[g0];rfl
 repeat'(first|refine ruS Y ?_|refine isS Y ?_|refine ZX ?_|refine Zp Y ?_|refine QD Y Y Y Y ?_|refine QN Y ?_|refine Z1 Y (g3 _) Y Y ?_)
 refine Zc (α:=Nat) (fun i=>[(1,.int .u8 s),(5,.ref A.length 0 (XD r.states s i).length 0 (XD r.states s i).length),(14,.ref lv b 0 0 r.states.length),(15,.int .i64 r.states.length),(16,.int .i64 i)]) (fun i=>⟨A,false,[.arr 1 (XD r.states s i).length ((XD r.states s i).map ZiP)]⟩) (fun i=>i<=r.states.length) (fun i=>r.states.length-i) 0 Y Y (by simp) ?_
 intro i hi;replace hi:i<=r.states.length:=hi
 rcases Nat.lt_or_ge i r.states.length with hlt|hge
 ·obtain⟨x,hx⟩:∃x,r.states[i]?=some x:=⟨r.states[i]'hlt,by simp[hlt]⟩
  have q1:(r.states.map (.int .u8))[0+((i:Nat):Int).toNat]?=some (AV.int .u8 x):=by
   rw[show 0+((i:Nat):Int).toNat=i by omega,jG,hx];rfl
  have hs:=Zjd r.states s i;have hl:=Zl6 r.states s i;rw[hx]at hs
  have hl2:((XD r.states s i).map ZiP).length+[AV.int .i64 (i:Int)].length<4294967296:=by simp;omega
  have hl3:(XD r.states s i).length=((XD r.states s i).map ZiP).length:=by simp
  repeat'(first|refine ZRG Y Y Y hl3 Y Y hl2 (by decide) ?_|refine ruS Y ?_|refine isS Y ?_|refine rkS Y ?_|(refine cm0 Y Y Y ?_ ?_<;>intro _<;>try omega)|refine ZL Y Y (by omega) ?_|refine Zz Y Y Y Y ?_|refine JA Y Y (by omega) (hwi _) ?_|refine Z1 Y (g0 _) q1 Y ?_)
  ·rename_i e
   subst e;rw[if_pos rfl]at hs
   refine⟨i+1,⟨?_,?_⟩,by omega,by omega⟩
   ·rw[hs,List.length_append];rfl
   ·rw[hs,List.map_append,List.length_append];rfl
  ·rename_i e
   rw[if_neg (by simpa using e),List.append_nil]at hs
   exact⟨i+1,⟨by rw[hs];rfl,by rw[hs]⟩,by omega,by omega⟩
 ·obtain rfl:i=r.states.length:=by omega
  repeat'(first|refine ruS Y ?_|refine isS Y ?_|refine rkS Y ?_|(refine cm0 Y Y Y ?_ ?_<;>intro _<;>try omega))
  refine Qu (es:=(ZW6 r.states s).map ZiP) hA (.inr Y) Y Y (by simp;rfl) (by intro v hv;obtain⟨x,_,rfl⟩:=List.mem_map.1 hv;rfl) ?_
  rfl
theorem Zl7{lv:Nat}{r:AR}(h:HasR st lv b r)(hb:r.states.length<=16384):S Tb J6 [.ptr lv (b+3) 0 0 0] st=some (.lit ((ZW6 r.states 2).map ZiP),st):=by
 refine Zj Y (fun A hA=>?_)
 have hs:=fun L=>Zuy (h.push hA (ro:=false) (L:=L)) hb 2
 repeat'(first|refine ruS Y ?_|refine isS Y ?_|refine rkS Y ?_|refine ZA Y Y Y (hs _) ?_)
 refine ZO hA (by simp) Y Y Y Y ?_
 rfl
def AR.statsAV(r:AR):AV:=.agg [.int .i64 r.slots,.int .i64 r.n,.int .i64 r.nodes.length,.int .i64 (ZW6 r.states 2).length,.int .i64 r.allocs,.int .i64 r.frees,.int .i64 r.stale]
theorem Zuz{lv:Nat}{r:AR}(h:HasR st lv b r)(hn:r.n<=r.blk.length)(hb:r.states.length<=16384)(h6:r.n<65536):S Tb YM [.ptr lv (b+5) 0 0 0] st=some (r.statsAV,st):=by
 refine Zj Y (fun A hA=>?_)
 have g5:=fun L=>ZS hA (ro:=false) (L:=L) h.h5
 have g4:=fun L=>ZS hA (ro:=false) (L:=L) h.h4
 unfold AR.b5 at g5;unfold AR.b4 at g4
 have hF:=fun L=>Zw4 (h.push hA (ro:=false) (L:=L)).allRo hn h6
 have hW:=fun L=>Zl7 (h.push hA (ro:=false) (L:=L)).allRo hb
 repeat'(first|refine ruS Y ?_|refine isS Y ?_|refine rkS Y ?_|refine Zi Y ?_|refine ZZ Y Y Y ?_|refine QD Y Y Y Y ?_|refine ZJ Y Y Y ?_|refine Ze Y Y Y Y Y Y ?_|refine Z1 Y (g5 _) Y Y ?_|refine Zro Y (g4 _) ?_|refine Zw Y Y Y (hF _) ?_|refine Zw Y Y Y (hW _) ?_)
 refine JL hA (by simp) Y Y Y Y Y ?_
 unfold AR.statsAV
 have e2:(r.nodes.map nodeAV).length=r.nodes.length:=List.length_map ..
 rw[<- AR.free_len hn,<- e2]
namespace Tr
end Tr
theorem AROk.hnd{r:AR}(h:AROk r){x:Nd}(hx:lk r.nodes o=some x):X8 o/\o≠0:=by
 obtain⟨s,g,h1,h2,h3,h4⟩:=h.key o x hx;obtain⟨g',g1,g2,g3⟩:=h.gen s h2;rw[h4]at g1;simp only[Option.some.injEq]at g1
 have:=h.n16
 have:=h.most
 unfold X8;omega
namespace Tr
end Tr
def ZBq(N:ZF)(o:Nat):Nd:=(lk N o).getD ⟨0,[],none⟩
theorem J9{N:ZF}{x:Nd}(h:lk N o=some x):ZBq N o=x:=by unfold ZBq;rw[h];rfl
def Xd(N:ZF):Nat->Nat->List Nat
 | 0,o=>[o]
 | n+1,o=>o::(ZBq N o).ks.flatMap fun k=>Xd N n k.at_
theorem Zl8{l:Nat}{b:Blk}(h:s.get l i=some b)(more:List (Bool × List Blk))(ro:Bool)(L:List Blk):St.get ⟨s.ps++more,ro,L⟩ l i=some b:=by
 have hl:=St.get_le h;have h1:=ZS (A:=s.ps) rfl (ro:=ro) (L:=L) h;unfold St.get at h1 ⊢
 have e1:l≠s.ps.length:=by simp;omega
 have e2:l≠(s.ps++more).length:=by simp;omega
 simp only[if_neg e1,if_neg e2]at h1 ⊢
 rw[jL (by simp;omega)]
 exact h1
theorem Rd.more{lv:Nat}{N:ZF}(h:Rd s lv ix N)(more:List (Bool × List Blk))(ro:Bool)(L:List Blk):Rd ⟨s.ps++more,ro,L⟩ lv ix N:=by
 obtain⟨a0,a1,im,a3,a4,a5,h1,h2⟩:=h;exact⟨a0,a1,im,a3,a4,a5,Zl8 h1 _ _ _,Zl8 h2 _ _ _⟩
def RtOk(N:ZF)(r:Ro):Prop:=r=.zero\/(r.at_≠0/\∃x,lk N r.at_=some x/\NdOk x/\x.h=r.h/\x.mea=r.m)
def Zje(N:ZF)(r:Ro):List Nat:=if r.at_=0 then [] else Xd N r.h r.at_
theorem RtOk.h13{N:ZF}(hN:GoodN N){r:Ro}(hr:RtOk N r):r.h<=13:=by
 rcases hr with rfl|⟨h0,x,h1,h2,h3,h4⟩
 ·decide
 ·have hv:Val N (.keep r):=.kept h0 h1 h2 h3 h4 rfl
  have hb:(Tr.keep r).bytes=r.m.b:=by simp[Tr.keep,Tr.bytes,Tr.bytesO]
  have:=h2.mea_pos
  exact hv.height hN (by rw[hb,<- h4];omega)
def ZTE(r:Ro):Tr:=if r.at_=0 then .zero else .keep r
theorem Zu0{lv:Nat}{N:ZF}(hr:Rd st lv ix N){r:Ro}(h:RtOk N r):S Tb XQ [.ptr lv ix 0 0 0,r.av] st=some (.tup [(ZTE r).av,.int .i64 0],st):=by
 unfold ZTE
 rcases h with rfl|⟨h0,x,h1,h2,h3,h4⟩
 ·rw[if_pos (by rfl)];exact Zi2
 ·rw[if_neg h0];exact Ztm hr h1 h2 h0 h3 h4
end Go.Q15
namespace Go.QAbs
variable {rv v:AV}{ro:Bool}{e:Env}{g:FuncId}{A:List (Bool × List Blk)}{caps es ws:LV}{k:List Fr}{l:List Nat}{b i ix ixa ixb kl kx la lb lm m2 mb mx n o ob ox s2 v2 ver vr w wb:Nat}{x:Opd}{Q:Qn}{s st:St}
theorem ZCv{l:Nat}{b:Blk}(h:s.get l i=some b)(more:List (Bool × List Blk))(ro:Bool)(L:List Blk):St.get ⟨s.ps++more,ro,L⟩ l i=some b:=by
 have hl:=St.get_le h;have h1:=ZS (A:=s.ps) rfl (ro:=ro) (L:=L) h;unfold St.get at h1 ⊢
 have e1:l≠s.ps.length:=by simp;omega
 have e2:l≠(s.ps++more).length:=by simp;omega
 simp only[if_neg e1,if_neg e2]at h1 ⊢
 rw[jL (by simp;omega)]
 exact h1
theorem Zpz{lv:Nat}(hl:lv<=s.A.length)(h:s.wr lv)(more:List (Bool × List Blk))(ro:Bool)(L:List Blk):St.wr ⟨s.ps++more,ro,L⟩ lv:=by
 have h1:=ZAe (A:=s.ps) rfl hl h (ro:=ro) (L:=L);unfold St.wr at h1 ⊢
 have e1:lv≠s.ps.length:=by simp;omega
 have e2:lv≠(s.ps++more).length:=by simp;omega
 simp only[if_neg e1,if_neg e2]at h1 ⊢
 rw[jL (by simp;omega)]
 exact h1
theorem Zl9{lv:Nat}{b:Blk}(hl:lv<=s.A.length)(more:List (Bool × List Blk))(ro:Bool)(L:List Blk):St.upd ⟨s.ps++more,ro,L⟩ lv ix b=⟨(s.upd lv ix b).ps++more,ro,L⟩:=by
 have h1:=YU (A:=s.ps) (ro:=ro) (L:=L) rfl hl (ix:=ix) (b:=b);unfold St.upd at h1 ⊢
 have e1:lv≠s.ps.length:=by simp;omega
 have e2:lv≠(s.ps++more).length:=by simp;omega
 simp only[if_neg e1,if_neg e2]at h1 ⊢;simp only[St.mk.injEq,and_true]at h1 ⊢
 rw[jL (by simp;omega),List.set_append_left _ _ (by simp;omega),h1]
theorem ZiQ:∀ {ks:List (Nat × Nat)} {s:St} {bs:List Blk} {more:List (Bool × List Blk)} {ro:Bool} {L:List Blk},(∀k∈ks,k.1<=s.A.length)->Xi ⟨s.ps++more,ro,L⟩ ks bs=⟨(Xi s ks bs).ps++more,ro,L⟩
 | [],_,bs,_,_,_,_=>by cases bs<;>rfl
 | _::_,_,[],_,_,_,_=>rfl
 | k::ks,s,b::bs,more,ro,L,hk=>by
  rw[Xi,Zl9 (hk k (by simp)),ZiQ (s:=s.upd k.1 k.2 b) (fun q hq=>by rw[St.upd_A];exact hk q (by simp[hq]))]
  rfl
theorem Cl.more{ks:List (Nat × Nat)}{bs:List Blk}(h:Cl s ks bs)(more:List (Bool × List Blk))(ro:Bool)(L:List Blk):Cl ⟨s.ps++more,ro,L⟩ ks bs :=
 ⟨h.nd,h.len,fun k hk=>Zpz (h.le k hk) (h.wr k hk) _ _ _,fun j lv ix b h1 h2=>ZCv (h.get j lv ix b h1 h2) _ _ _⟩
end Go.QAbs
namespace Go.Q15
open Go Go.QAbs
variable {rv v:AV}{ro:Bool}{e:Env}{g:FuncId}{A:List (Bool × List Blk)}{caps es ws:LV}{k:List Fr}{l:List Nat}{b i ix ixa ixb kl kx la lb lm m2 mb mx n o ob ox s2 v2 ver vr w wb:Nat}{x:Opd}{Q:Qn}{s st:St}{t:Tr}
def Ql(w:List Nat)(h:Nat):List Nat:=if h∈w then w else w++[h]
def JI(v:List Nat):List Nat:=v.foldl Ql []
theorem Zch(v:List Nat)(h:Nat):JI (v++[h])=Ql (JI v) h:=by unfold JI;rw[List.foldl_append];rfl
theorem ZiR{w:List Nat}{h x:Nat}:x∈Ql w h↔x∈w\/x=h:=by
 unfold Ql
 split
 ·rename_i q;exact⟨.inl,fun p=>p.elim id fun e=>e▸q⟩
 ·simp
theorem Zci:∀v:List Nat,(JI v).Nodup/\(∀x,x∈JI v↔x∈v)/\(JI v).length<=v.length:=by
 intro v
 have key:∀(v w:List Nat),w.Nodup->(v.foldl Ql w).Nodup/\(∀x,x∈v.foldl Ql w↔x∈w\/x∈v)/\(v.foldl Ql w).length<=w.length+v.length:=by
  intro v
  induction v with
  | nil=>intro w h;exact⟨h,by simp,by simp⟩
  | cons a v ih =>
   intro w h
   have h1:(Ql w a).Nodup:=by
    unfold Ql;split
    ·exact h
    ·rename_i q
     rw[List.nodup_append]
     refine⟨h,by simp,fun x hx y hy=>?_⟩
     rw[List.mem_singleton]at hy;intro e;rw[e,hy]at hx;exact q hx
   obtain⟨i1,i2,i3⟩:=ih (Ql w a) h1
   refine⟨i1,fun x=>?_,?_⟩
   ·rw[List.foldl_cons,i2,ZiR,List.mem_cons,or_assoc]
   ·have:(Ql w a).length<=w.length+1:=by unfold Ql;split<;>simp
    rw[List.foldl_cons,List.length_cons];omega
 have:=key v [] List.nodup_nil
 exact⟨this.1,fun x=>by have h:=this.2.1 x;simpa [JI] using h,by have h:=this.2.2;simpa [JI] using h⟩
def ZmA(r:AR)(o:Nat):Prop:=X8 o/\r.states[o % 65536]?=some 1/\r.gens[o % 65536]?=some ((o / 65536:Nat):Int)
instance (r:AR) (o:Nat):Decidable (ZmA r o):=by unfold ZmA;exact inferInstance
theorem AROk.live{r:AR}(h:AROk r){x:Nd}(hx:lk r.nodes o=some x):ZmA r o/\o<18446744073709551616:=by
 obtain⟨s,g,k1,k2,k3,k4⟩:=h.key o x hx;obtain⟨h1,h2⟩:=h.hnd hx
 have:=h.n16
 have hm:o % 65536=s:=by omega
 have hd:o / 65536=g:=by omega
 unfold ZmA;rw[hm,hd];refine⟨⟨h1,k3,k4⟩,?_⟩;unfold X8 at h1;omega
theorem Zw5{x:Nat}(h:l[i]?=some x):(l.map Z7)[0+((i:Nat):Int).toNat]?=some (.int .u64 x):=by
 rw[show 0+((i:Nat):Int).toNat=i by omega,jG,h];rfl
theorem ZmB{x h:Nat}(hx:l[i]?=some x)(hn:h∉l.take i)(e:x≠h):h∉l.take (i+1):=by
 rw[ZU hx,List.mem_append,List.mem_singleton]
 exact fun q=>q.elim hn fun q=>e q.symm
theorem Zp0{lv:Nat}(hn:n=l.length)(hg:st.get lv ix=some (.arr 1 ver (l.map Z7)))(hb:l.length<4294967296)(h:Nat):
 S Tb YC [.ref lv ix ver 0 n,.int .u64 h] st=some (.bool (decide (h∈l)),st):=by
 refine Zj Y (fun A hA=>?_)
 subst hn
 have g:=fun L=>ZS hA (ro:=false) (L:=L) hg
 have hw:∀L,wIs 1 ver (St.get ⟨A,false,L⟩ lv ix)=true:=fun L=>by rw[g];simp[wIs]
 repeat'(first|refine ruS Y ?_|refine isS Y ?_|refine ZX ?_)
 refine Zc (α:=Nat) (fun i=>[(0,.ref lv ix ver 0 l.length),(1,.int .u64 h),(5,.int .i64 i)]) (fun i=>⟨A,false,[]⟩) (fun i=>i<=l.length/\h∉l.take i) (fun i=>l.length-i) 0 Y Y ⟨by omega,by simp⟩ ?_
 rintro i ⟨hi,hni⟩
 rcases Nat.lt_or_ge i l.length with hlt|hge
 ·obtain⟨x,hx⟩:∃x,l[i]?=some x:=⟨l[i]'hlt,jE _⟩
  have q:=Zw5 hx
  repeat'(first|refine ruS Y ?_|refine isS Y ?_|refine rkS Y ?_|refine Zp Y ?_|(refine cm0 Y Y Y ?_ ?_<;>intro _<;>try omega)|refine ZL Y Y (by omega) ?_|refine JA Y Y (by omega) (hw _) ?_|refine Z1 Y (g _) q Y ?_)
  all_goals try omega
  ·rename_i e
   obtain rfl:x=h:=by omega
   rw[decide_eq_true (jM hx)]
   refine ZO hA (by simp) Y Y Y Y ?_
   rfl
  ·rename_i e
   exact⟨i+1,⟨rfl,rfl⟩,⟨by omega,ZmB hx hni (by omega)⟩,by omega⟩
 ·obtain rfl:i=l.length:=by omega
  rw[List.take_length]at hni;rw[decide_eq_false hni]
  repeat'(first|refine ruS Y ?_|refine isS Y ?_|refine rkS Y ?_|refine Zp Y ?_|(refine cm0 Y Y Y ?_ ?_<;>intro _<;>try omega))
  all_goals try omega
  refine ZO hA (by simp) Y Y Y Y ?_
  rfl
theorem Zu1(l:List Nat)(hb:l.length<4294967296)(h:Nat)(st:St):
 S Tb YC [.lit (l.map Z7),.int .u64 h] st=some (.bool (decide (h∈l)),st):=by
 refine Zj Y (fun A hA=>?_)
 repeat'(first|refine ruS Y ?_|refine isS Y ?_|refine ZX ?_)
 refine Zc (α:=Nat) (fun i=>[(0,.lit (l.map Z7)),(1,.int .u64 h),(5,.int .i64 i)]) (fun i=>⟨A,false,[]⟩) (fun i=>i<=l.length/\h∉l.take i) (fun i=>l.length-i) 0 Y Y ⟨by omega,by simp⟩ ?_
 rintro i ⟨hi,hni⟩
 rcases Nat.lt_or_ge i l.length with hlt|hge
 ·obtain⟨x,hx⟩:∃x,l[i]?=some x:=⟨l[i]'hlt,jE _⟩
  have q:0<=((i:Nat):Int)/\l[((i:Nat):Int).toNat]?=some x:=⟨by omega,by rw[show ((i:Nat):Int).toNat=i by omega];exact hx⟩
  repeat'(first|refine Z6 Y Y q (fun _=>rfl) ?_|refine ruS Y ?_|refine isS Y ?_|refine rkS Y ?_|refine Zi Y ?_|refine Zk Y Y ?_|(refine cm0 Y Y Y ?_ ?_<;>intro _<;>try omega)|refine ZL Y Y (by omega) ?_)
  all_goals try omega
  ·rename_i e
   obtain rfl:x=h:=by omega
   rw[decide_eq_true (jM hx)]
   refine ZO hA (by simp) Y Y Y Y ?_
   rfl
  ·rename_i e
   exact⟨i+1,⟨rfl,rfl⟩,⟨by omega,ZmB hx hni (by omega)⟩,by omega⟩
 ·obtain rfl:i=l.length:=by omega
  rw[List.take_length]at hni;rw[decide_eq_false hni]
  repeat'(first|refine ruS Y ?_|refine isS Y ?_|refine rkS Y ?_|refine Zi Y ?_|(refine cm0 Y Y Y ?_ ?_<;>intro _<;>try omega))
  all_goals try omega
  refine ZO hA (by simp) Y Y Y Y ?_
  rfl
theorem Zsa(l:List Nat)(hb:l.length<1000000000)(st:St):
 S Tb J0 [.lit (l.map Z7)] st=some (.lit ((JI l).map Z7),st):=by
 refine Zj Y (fun A hA=>?_)
 repeat'(first|refine ruS Y ?_|refine isS Y ?_|refine ZX ?_|refine QN Y ?_)
 refine Zc (α:=Nat) (fun i=>[(0,.lit (l.map Z7)),(3,.ref A.length 0 (JI (l.take i)).length 0 (JI (l.take i)).length),(4,.int .i64 i)]) (fun i=>⟨A,false,[.arr 1 (JI (l.take i)).length ((JI (l.take i)).map Z7)]⟩) (fun i=>i<=l.length) (fun i=>l.length-i) 0 Y Y (by omega) ?_
 rintro i hi
 replace hi:i<=l.length:=hi;have hw:=(Zci (l.take i)).2.2;rw[List.length_take,Nat.min_eq_left hi]at hw
 rcases Nat.lt_or_ge i l.length with hlt|hge
 ·obtain⟨x,hx⟩:∃x,l[i]?=some x:=⟨l[i]'hlt,jE _⟩
  have q:0<=((i:Nat):Int)/\l[((i:Nat):Int).toNat]?=some x:=⟨by omega,by rw[show ((i:Nat):Int).toNat=i by omega];exact hx⟩
  have hs:JI (l.take (i+1))=Ql (JI (l.take i)) x:=by rw[ZU hx,Zch]
  generalize JI (l.take i)=w at *
  have hH:=Zp0 (st:=⟨A,false,[.arr 1 w.length (w.map Z7)]⟩) (lv:=A.length) (ix:=0) (ver:=w.length) (l:=w) rfl (St.get_cur ..) (by omega) x
  have hl2:(w.map Z7).length+[AV.int .u64 (x:Int)].length<4294967296:=by simp;omega
  have hl3:w.length=(w.map Z7).length:=by simp
  by_cases hm:x∈w
  ·simp only[decide_eq_true hm]at hH
   repeat'(first|refine Z6 Y Y q (fun _=>rfl) ?_|refine ruS Y ?_|refine isS Y ?_|refine rkS Y ?_|refine Zi Y ?_|refine Zk Y Y ?_|(refine cm0 Y Y Y ?_ ?_<;>intro _<;>try omega)|refine ZL Y Y (by omega) ?_|refine ZA Y Y Y (hH) ?_)
   all_goals try omega
   all_goals try contradiction
   refine⟨i+1,⟨?_,?_⟩,by omega,by omega⟩
   ·rw[hs];unfold Ql;rw[if_pos hm];rfl
   ·rw[hs];unfold Ql;rw[if_pos hm]
  ·simp only[decide_eq_false hm]at hH
   repeat'(first|refine Z6 Y Y q (fun _=>rfl) ?_|refine ZRG Y Y Y hl3 Y Y hl2 (by decide) ?_|refine ruS Y ?_|refine isS Y ?_|refine rkS Y ?_|refine Zi Y ?_|refine Zk Y Y ?_|(refine cm0 Y Y Y ?_ ?_<;>intro _<;>try omega)|refine ZL Y Y (by omega) ?_|refine Zz Y Y Y Y ?_|refine ZA Y Y Y (hH) ?_)
   all_goals try omega
   all_goals try contradiction
   refine⟨i+1,⟨?_,?_⟩,by omega,by omega⟩
   ·rw[hs];unfold Ql;rw[if_neg hm,List.length_append];rfl
   ·rw[hs];unfold Ql;rw[if_neg hm,List.length_append,List.map_append];rfl
 ·obtain rfl:i=l.length:=by omega
  rw[List.take_length]
  repeat'(first|refine ruS Y ?_|refine isS Y ?_|refine rkS Y ?_|refine Zi Y ?_|(refine cm0 Y Y Y ?_ ?_<;>intro _<;>try omega))
  all_goals try omega
  refine Qu (es:=(JI l).map Z7) hA (.inr Y) Y Y (by simp) (by intro v hv;obtain⟨x,_,rfl⟩:=List.mem_map.1 hv;rfl) ?_
  rfl
theorem Zsb(l:List Nat)(hb:l.length<1000000000){lv:Nat}(hg:st.get lv ix=some (.arr 1 ver (l.map Z7))):
 S Tb J0 [.ref lv ix ver 0 l.length] st=some (.lit ((JI l).map Z7),st):=by
 refine Zj Y (fun A hA=>?_)
 have g2:=fun L=>ZS hA (ro:=false) (L:=L) hg
 have hwi:∀L,wIs 1 ver (St.get ⟨A,false,L⟩ lv ix)=true:=fun L=>by rw[g2];simp[wIs]
 repeat'(first|refine ruS Y ?_|refine isS Y ?_|refine ZX ?_|refine QN Y ?_)
 refine Zc (α:=Nat) (fun i=>[(0,.ref lv ix ver 0 l.length),(3,.ref A.length 0 (JI (l.take i)).length 0 (JI (l.take i)).length),(4,.int .i64 i)]) (fun i=>⟨A,false,[.arr 1 (JI (l.take i)).length ((JI (l.take i)).map Z7)]⟩) (fun i=>i<=l.length) (fun i=>l.length-i) 0 Y Y (by omega) ?_
 rintro i hi
 replace hi:i<=l.length:=hi;have hw:=(Zci (l.take i)).2.2;rw[List.length_take,Nat.min_eq_left hi]at hw
 rcases Nat.lt_or_ge i l.length with hlt|hge
 ·obtain⟨x,hx⟩:∃x,l[i]?=some x:=⟨l[i]'hlt,jE _⟩
  have hxa:(l.map Z7)[0+((i:Nat):Int).toNat]?=some (Z7 x):=by rw[show 0+((i:Nat):Int).toNat=i by omega,jG,hx];rfl
  have hs:JI (l.take (i+1))=Ql (JI (l.take i)) x:=by rw[ZU hx,Zch]
  generalize JI (l.take i)=w at *
  have hH:=Zp0 (st:=⟨A,false,[.arr 1 w.length (w.map Z7)]⟩) (lv:=A.length) (ix:=0) (ver:=w.length) (l:=w) rfl (St.get_cur ..) (by omega) x
  have hl2:(w.map Z7).length+[AV.int .u64 (x:Int)].length<4294967296:=by simp;omega
  have hl3:w.length=(w.map Z7).length:=by simp
  by_cases hm:x∈w
  ·simp only[decide_eq_true hm]at hH
   repeat'(first|refine ruS Y ?_|refine isS Y ?_|refine rkS Y ?_|refine Zp Y ?_|(refine cm0 Y Y Y ?_ ?_<;>intro _<;>try omega)|refine ZL Y Y (by omega) ?_|refine JA Y Y (by omega) (hwi _) ?_|refine Z1 Y (g2 _) hxa Y ?_|refine ZA Y Y Y (hH) ?_)
   all_goals try omega
   all_goals try contradiction
   refine⟨i+1,⟨?_,?_⟩,by omega,by omega⟩
   ·rw[hs];unfold Ql;rw[if_pos hm];rfl
   ·rw[hs];unfold Ql;rw[if_pos hm]
  ·simp only[decide_eq_false hm]at hH
   repeat'(first|refine ZRG Y Y Y hl3 Y Y hl2 (by decide) ?_|refine ruS Y ?_|refine isS Y ?_|refine rkS Y ?_|refine Zp Y ?_|(refine cm0 Y Y Y ?_ ?_<;>intro _<;>try omega)|refine ZL Y Y (by omega) ?_|refine Zz Y Y Y Y ?_|refine JA Y Y (by omega) (hwi _) ?_|refine Z1 Y (g2 _) hxa Y ?_|refine ZA Y Y Y (hH) ?_)
   all_goals try omega
   all_goals try contradiction
   refine⟨i+1,⟨?_,?_⟩,by omega,by omega⟩
   ·rw[hs];unfold Ql;rw[if_neg hm,List.length_append];rfl
   ·rw[hs];unfold Ql;rw[if_neg hm,List.length_append,List.map_append];rfl
 ·obtain rfl:i=l.length:=by omega
  rw[List.take_length]
  repeat'(first|refine ruS Y ?_|refine isS Y ?_|refine rkS Y ?_|refine Zp Y ?_|(refine cm0 Y Y Y ?_ ?_<;>intro _<;>try omega))
  all_goals try omega
  refine Qu (es:=(JI l).map Z7) hA (.inr Y) Y Y (by simp) (by intro v hv;obtain⟨x,_,rfl⟩:=List.mem_map.1 hv;rfl) ?_
  rfl
theorem Zjf(l m:List Nat)(hb:l.length<1000000000)(hm:m.length<4294967296)(st:St):
 S Tb Y7 [.lit (l.map Z7),.lit (m.map Z7)] st=some (.lit ((JI (l.filter fun h=>decide (h∉m))).map Z7),st):=by
 refine Zj Y (fun A hA=>?_)
 repeat'(first|refine ruS Y ?_|refine isS Y ?_|refine ZX ?_|refine QN Y ?_)
 refine Zc (α:=Nat) (fun i=>[(0,.lit (l.map Z7)),(1,.lit (m.map Z7)),(5,.ref A.length 0 ((l.take i).filter fun h=>decide (h∉m)).length 0 ((l.take i).filter fun h=>decide (h∉m)).length),(6,.int .i64 i)]) (fun i=>⟨A,false,[.arr 1 ((l.take i).filter fun h=>decide (h∉m)).length (((l.take i).filter fun h=>decide (h∉m)).map Z7)]⟩) (fun i=>i<=l.length) (fun i=>l.length-i) 0 Y Y (by omega) ?_
 rintro i hi
 replace hi:i<=l.length:=hi
 have hw:((l.take i).filter fun h=>decide (h∉m)).length<=i:=by
  have:=List.length_filter_le (fun h=>decide (h∉m)) (l.take i)
  rw[List.length_take,Nat.min_eq_left hi]at this;exact this
 rcases Nat.lt_or_ge i l.length with hlt|hge
 ·obtain⟨x,hx⟩:∃x,l[i]?=some x:=⟨l[i]'hlt,jE _⟩
  have q:0<=((i:Nat):Int)/\l[((i:Nat):Int).toNat]?=some x:=⟨by omega,by rw[show ((i:Nat):Int).toNat=i by omega];exact hx⟩
  have hs:(l.take (i+1)).filter (fun h=>decide (h∉m))=(l.take i).filter (fun h=>decide (h∉m))++(if x∈m then [] else [x]):=by
   rw[ZU hx,List.filter_append]
   by_cases c:x∈m<;>simp[c]
  generalize (l.take i).filter (fun h=>decide (h∉m))=w at *
  have hH:=fun st=>Zu1 m hm x st
  have hl2:(w.map Z7).length+[AV.int .u64 (x:Int)].length<4294967296:=by simp;omega
  have hl3:w.length=(w.map Z7).length:=by simp
  by_cases c:x∈m
  ·simp only[decide_eq_true c]at hH
   rw[if_pos c,List.append_nil]at hs
   repeat'(first|refine Z6 Y Y q (fun _=>rfl) ?_|refine ruS Y ?_|refine isS Y ?_|refine rkS Y ?_|refine Zi Y ?_|refine Zk Y Y ?_|(refine cm0 Y Y Y ?_ ?_<;>intro _<;>try omega)|refine ZL Y Y (by omega) ?_|refine ZA Y Y Y (hH _) ?_)
   all_goals try omega
   all_goals try contradiction
   exact⟨i+1,⟨by rw[hs];rfl,by rw[hs]⟩,by omega,by omega⟩
  ·simp only[decide_eq_false c]at hH
   rw[if_neg c]at hs
   repeat'(first|refine Z6 Y Y q (fun _=>rfl) ?_|refine ZRG Y Y Y hl3 Y Y hl2 (by decide) ?_|refine ruS Y ?_|refine isS Y ?_|refine rkS Y ?_|refine Zi Y ?_|refine Zk Y Y ?_|(refine cm0 Y Y Y ?_ ?_<;>intro _<;>try omega)|refine ZL Y Y (by omega) ?_|refine Zz Y Y Y Y ?_|refine ZA Y Y Y (hH _) ?_)
   all_goals try omega
   all_goals try contradiction
   exact⟨i+1,⟨by rw[hs,List.length_append];rfl,by rw[hs,List.length_append,List.map_append];rfl⟩,by omega,by omega⟩
 ·obtain rfl:i=l.length:=by omega
  rw[List.take_length];rw[List.take_length]at hw
  generalize (l.filter fun h=>decide (h∉m))=w at *
  have hO:=Zsb w (by omega) (st:=⟨A,false,[.arr 1 w.length (w.map Z7)]⟩) (lv:=A.length) (ix:=0) (ver:=w.length) (St.get_cur ..)
  repeat'(first|refine ruS Y ?_|refine isS Y ?_|refine rkS Y ?_|refine Zi Y ?_|(refine cm0 Y Y Y ?_ ?_<;>intro _<;>try omega)|refine ZA Y Y Y (hO) ?_)
  all_goals try omega
  all_goals refine ZO hA (by simp) Y Y Y Y ?_
  all_goals rfl
def ZTa(N:ZF)(t:Tr):List Nat:=XI N t.h t
theorem ZY8{N:ZF}(hN:GoodN N)(hl:N.length<4294967296)(ht:VE N t)(hb:t.bytes<=65536){lv:Nat}(hr:RRd st lv ix N):S Tb JG [.ptr lv ix 0 0 0,t.av] st=some (.lit ((ZTa N t).map Z7),st):=by
 rcases ht with h|h
 ·obtain⟨o,hh,m,s,k⟩:=t
  obtain⟨h1,h2,h3,h4,h5⟩:=h;simp only[Tr.old,Tr.h,Tr.m,Tr.text,Tr.ks]at h1 h2 h3 h4 h5;subst h1 h2 h3 h4
  rw[show ZTa N (.mk 0 0 .zero [] k)=[] from rfl]
  refine Zj Y (fun A hA=>?_)
  cases k
  all_goals simp only[Tr.av,Tr.avO,Tr.avL_map,Mea.zero]at *
  all_goals repeat'(first|refine ruS Y ?_|refine isS Y ?_|refine ZB Y Y Y Y ?_|refine rkS Y ?_|(refine cm0 Y Y Y ?_ ?_<;>intro _<;>try omega)|refine ZJ Y Y Y ?_|refine QN Y ?_)
  all_goals try first|contradiction|omega
  all_goals refine Qu hA (.inr Y) Y Y (by simp) (by intro v hv;simp at hv) rfl
 ·exact ZoI hN hl _ t h Y (h.height hN hb) hr
theorem Zsc{N:ZF}(hN:GoodN N)(ht:VE N t)(hb:t.bytes<=65536):(ZTa N t).length<268435456:=by
 rcases ht with h|h
 ·unfold ZTa
  rw[h.h,XI,if_pos h.old]
  simp
 ·have h1:=Zpx hN _ t h rfl
  have h2:=h.height hN hb
  have h3:4 ^ (t.h+1)<=4 ^ 14:=Nat.pow_le_pow_right (by omega) (by omega)
  have h4:(4:Nat) ^ 14=268435456:=by decide
  unfold ZTa;omega
theorem Zjg{N:ZF}{r:Ro}(h:RootOk N r):VE N (Tr.keep r)/\(Tr.keep r).bytes<=65536:=by
 rcases h with rfl|⟨x,h1,h2,h3,h4,h5⟩
 ·have he:IsEmpty (Tr.keep Ro.zero):=⟨rfl,rfl,rfl,rfl,rfl⟩
  exact⟨.inl he,by rw[he.bytes];omega⟩
 ·refine⟨.inr (.kept h3 h1 h2 h4 h5 Y),?_⟩
  have hp:=h2.mea_pos.2;rw[h5]at hp
  have:(Tr.keep r).bytes=r.m.b:=by simp[Tr.keep,Tr.bytes,Tr.bytesO]
  omega
theorem Zjh{N:ZF}(hN:GoodN N)(hl:N.length<4294967296){lv:Nat}(hr:RRd st lv ix N){r:Ro}(h:RootOk N r)(ht:VE N t)(hb:t.bytes<=65536):
 S Tb J2 [.ptr lv ix 0 0 0,r.av,t.av] st=some (.tup [.lit ((JI ((ZTa N (Tr.keep r)).filter fun h=>decide (h∉ZTa N t))).map Z7),.int .i64 0],st):=by
 refine Zj Y (fun A hA=>?_)
 have hrp:=fun L=>hr.push hA (ro:=false) (L:=L)
 obtain⟨k1,k2⟩:=Zjg h
 have hR:=fun L=>ZjJ hl (hrp L) h
 have hC:=fun L=>ZUt hl (hrp L) ht hb
 have hK:=fun st=>Zfu r st
 have hU1:=fun L=>ZY8 hN hl k1 k2 (hrp L).allRo
 have hU2:=fun L=>ZY8 hN hl ht hb (hrp L)
 have n1:=Zsc hN k1 k2;have n2:=Zsc hN ht hb
 have hW:=fun st=>Zjf (ZTa N (Tr.keep r)) (ZTa N t) (by omega) (by omega) st
 generalize ZTa N (Tr.keep r)=u1 at *
 generalize ZTa N t=u2 at *
 generalize JI (u1.filter fun h=>decide (h∉u2))=w at *
 generalize Tr.keep r=kr at *
 unfold Ro.av at *
 repeat'(first|refine ruS Y ?_|refine isS Y ?_|refine ZB Y Y Y Y ?_|refine rkS Y ?_|(refine cm0 Y Y Y ?_ ?_<;>intro _<;>try omega)|refine QD Y Y Y Y ?_|refine ZJ Y Y Y ?_|refine Z5 Y Y (ZG _) ?_|refine Za Y (ZQ _) (Zg _) ?_|refine ZA Y Y (by first|rfl|(simp only[List.nil_append,List.append_nil,List.cons_append,ZH,ZC,ZE];first|done|rfl)) (hR _) ?_|refine ZA Y Y (by first|rfl|(simp only[List.nil_append,List.append_nil,List.cons_append,ZH,ZC,ZE];first|done|rfl)) (hC _) ?_|refine Zw Y Y Y (hK _) ?_|refine Zw Y Y (ZiD _ _ _) (hU1 _) ?_|refine ZA Y Y (by first|rfl|(simp only[List.nil_append,List.append_nil,List.cons_append,ZH,ZC,ZE];first|done|rfl)) (hU2 _) ?_|refine ZA Y Y (by first|rfl|(simp only[List.nil_append,List.append_nil,List.cons_append,ZH,ZC,ZE];first|done|rfl)) (hW _) ?_)
 all_goals try first|contradiction|omega
 all_goals refine ZO hA (by simp) Y Y Y Y ?_
 all_goals rfl
def kpV:Nat->Tr->List Nat
 | 0,t=>if t.old=0 then [] else [t.old]
 | n+1,t=>if t.old=0 then t.ks.flatMap (kpV n) else [t.old]
theorem Zsd{N:ZF}:∀n t,Val N t->t.h=n->3*(kpV n t).length+1<=4 ^ (n+1):=by
 intro n
 induction n with
 | zero=>intro t hv hn;unfold kpV;split<;>simp
 | succ n ih =>
  intro t hv hn
  have hp:4 ^ (n+1+1)=4 ^ (n+1)*4:=Nat.pow_succ ..
  have hc:1<=4 ^ (n+1):=Nat.one_le_pow _ _ (by omega)
  cases hv with
  | kept h0 hx hok hh hm hk =>
   rename_i o h m k x
   rw[show kpV (n+1) (.mk o h m [] k)=[o] from if_neg h0,hp]
   simp only[List.length_singleton];omega
  | leaf h1 h2 hk=>simp[Tr.h]at hn
  | inner hh h2 h4 hl hb hv =>
   rename_i h l
   simp only[Tr.h]at hn
   have hf:=ZoH (f:=kpV n) (c:=4 ^ (n+1)) (l:=l) fun u hu=>ih u (hv u hu) (by have:=hl u hu;omega)
   rw[show kpV (n+1) (.mk 0 (h+1) .zero [] (some l))=l.flatMap (kpV n) from rfl,hp]
   generalize 4 ^ (n+1)=c at *
   generalize (l.flatMap (kpV n)).length=m at *
   have hk:l.length=2\/l.length=3\/l.length=4:=by omega
   rcases hk with q|q|q<;>rw[q]at hf<;>omega
theorem Zcj{N:ZF}{h:Nat}{m:Mea}{k:Option (List Tr)}(h0:o≠0)(st:St):S Tb JF [(Tr.mk o h m [] k).av] st=some (.lit ([o].map Z7),st):=by
 refine Zj Y (fun A hA=>?_)
 have ho':((o:Nat):Int)≠0:=by omega
 cases k
 all_goals simp only[Tr.av,Tr.avO,Tr.avL_map]at *
 all_goals repeat'(first|refine ruS Y ?_|refine isS Y ?_|refine ZB Y Y Y Y ?_|refine rkS Y ?_|(refine cm0 Y Y Y ?_ ?_<;>intro _<;>try omega)|refine ZJ Y Y Y ?_|refine Zz Y Y Y Y ?_)
 all_goals try first|contradiction|omega
 all_goals refine ZO hA (by simp) Y Y Y Y ?_
 all_goals rfl
theorem ZoK{N:ZF}:∀(n:Nat) (t:Tr),Val N t->t.h=n->n<=13->∀st,S Tb JF [t.av] st=some (.lit ((kpV n t).map Z7),st):=by
 intro n
 induction n with
 | zero =>
  intro t hv hn h13 st
  cases hv with
  | kept h0 hx hok hh hm hk =>
   rename_i o h m k x
   rw[show kpV 0 (.mk o h m [] k)=[o] from if_neg h0]
   exact Zcj (N:=N) h0 st
  | leaf h1 h2 hk =>
   rename_i s k
   rw[show kpV 0 (.mk 0 0 .zero s k)=[] from rfl]
   refine Zj Y (fun A hA=>?_)
   cases k with
   | none =>
    simp only[Tr.av,Tr.avO,Mea.zero]at *
    repeat'(first|refine ruS Y ?_|refine isS Y ?_|refine ZB Y Y Y Y ?_|refine rkS Y ?_|refine QG Y ?_|(refine cm0 Y Y Y ?_ ?_<;>intro _<;>try omega)|refine ZJ Y Y Y ?_|refine QN Y ?_|refine Zr ?_)
    all_goals try first|contradiction|omega
    all_goals refine Qu hA (.inr Y) Y Y (by simp) (by intro v hv;simp at hv) rfl
   | some l =>
    simp only[Option.getD]at hk;subst hk
    simp only[Tr.av,Tr.avO,Tr.avL_map,List.map_nil,Mea.zero]at *
    repeat'(first|refine ruS Y ?_|refine isS Y ?_|refine ZB Y Y Y Y ?_|refine rkS Y ?_|refine Qg Y Y ?_|(refine cm0 Y Y Y ?_ ?_<;>intro _<;>try omega)|refine ZJ Y Y Y ?_|refine QN Y ?_|refine Zr ?_)
    all_goals try first|contradiction|omega
    all_goals refine Qu hA (.inr Y) Y Y (by simp) (by intro v hv;simp at hv) rfl
  | inner hh h2 h4 hl hb hv=>simp[Tr.h]at hn
 | succ n ih =>
  intro t hv hn h13 st;have hlen0:=Zsd (n+1) t hv hn
  have hpow:4 ^ (n+1+1)<=4 ^ 14:=Nat.pow_le_pow_right (by omega) (by omega)
  have hpw:(4:Nat) ^ 14=268435456:=by decide
  cases hv with
  | kept h0 hx hok hh hm hk =>
   rename_i o h m k x
   rw[show kpV (n+1) (.mk o h m [] k)=[o] from if_neg h0]
   exact Zcj (N:=N) h0 st
  | leaf h1 h2 hk=>simp[Tr.h]at hn
  | inner hh h2 h4 hl hb hv =>
   rename_i h l
   rw[show kpV (n+1) (.mk 0 (h+1) .zero [] (some l))=l.flatMap (kpV n) from rfl]at hlen0 ⊢
   simp only[Tr.h]at hn
   have hU:=fun u hu=>ih u (hv u hu) (by have:=hl u hu;omega) (by omega)
   refine Zj Y (fun A hA=>?_)
   simp only[Tr.av,Tr.avO,Tr.avL_map,Mea.zero]at *
   repeat'(first|refine ruS Y ?_|refine isS Y ?_|refine ZB Y Y Y Y ?_|refine ZX ?_|(refine cm0 Y Y Y ?_ ?_<;>intro _<;>try omega)|refine ZJ Y Y Y ?_|refine QN Y ?_)
   all_goals try first|contradiction|omega
   refine Zc (α:=Nat) (fun i=>[(1,.ptr A.length 0 0 0 0),(3,.ref A.length 1 i 0 ((l.take i).flatMap (kpV n)).length),(4,.int .i64 i)]) (fun i=>⟨A,false,[.arr 7 0 [.agg [.int .u64 (0:Nat),.int .i64 ((h+1:Nat):Int),.int .i64 0,.int .i64 0,.int .i64 0,.str [],.lit (l.map Tr.av)]],.arr 1 i (((l.take i).flatMap (kpV n)).map Z7)]⟩) (fun i=>i<=l.length) (fun i=>l.length-i) 0 (by simp) (by simp) (by omega) ?_
   intro i hi
   rcases Nat.lt_or_ge i l.length with hlt|hge
   ·obtain⟨u,hu⟩:∃u,l[i]?=some u:=⟨l[i]'hlt,jE _⟩
    have q:0<=((i:Nat):Int)/\l[((i:Nat):Int).toNat]?=some u:=⟨by omega,by rw[show ((i:Nat):Int).toNat=i by omega];exact hu⟩
    have hUu:=hU u (jM hu)
    have ht:(l.take (i+1)).flatMap (kpV n)=(l.take i).flatMap (kpV n)++kpV n u:=by rw[ZU hu,List.flatMap_append];simp
    have htl:(l.flatMap (kpV n)).length=((l.take i).flatMap (kpV n)).length+(kpV n u).length+((l.drop (i+1)).flatMap (kpV n)).length:=by
     conv=>lhs;rw[<- List.take_append_drop (i+1) l,List.flatMap_append,ht]
     simp only[List.length_append]
    have hb2:(((l.take i).flatMap (kpV n)).map Z7).length+((kpV n u).map Z7).length<4294967296:=by simp only[List.length_map];omega
    repeat'(first|refine Z6 (f:=Tr.av) Y Y q ZQ ?_|refine ruS Y ?_|refine isS Y ?_|refine ZB Y Y Y Y ?_|refine rkS Y ?_|refine Zi Y ?_|(refine cm0 Y Y Y ?_ ?_<;>intro _<;>try omega)|refine ZL Y Y (by omega) ?_|refine Zk Y (ZG _) ?_|refine ZA Y Y (by first|rfl|(simp only[List.nil_append,List.append_nil,List.cons_append,ZH,ZC,ZE];first|done|rfl)) (hUu _) ?_|refine ZRG Y Y Y (by simp) (Zpw _) (Zl5 _ _ _) hb2 (by decide) ?_)
    all_goals try omega
    refine⟨i+1,⟨?_,?_⟩,by omega,by omega⟩
    ·have e1 : ((l.take (i + 1)).flatMap (kpV n)).length = ((l.take i).flatMap (kpV n)).length + ((kpV n u).map Z7).length := by
      rw[ht];simp only[List.length_append,List.length_map]
     rw[e1];rfl
    ·rw[ht,List.map_append];rfl
   ·obtain rfl:i=l.length:=by omega
    rw[List.take_length]
    repeat'(first|refine ruS Y ?_|refine isS Y ?_|refine ZB Y Y Y Y ?_|refine rkS Y ?_|refine Zi Y ?_|(refine cm0 Y Y Y ?_ ?_<;>intro _<;>try omega))
    all_goals try omega
    refine Qu (es:=(l.flatMap (kpV n)).map Z7) hA (.inr Y) Y Y (by simp) (Zjc 4 _) Y
theorem Zp1{n:Nat}:∀ {l:List Tr},(∀t∈l,∀out,t.kwT out=(kpV n t).foldl Ql out)->∀out,Tr.kwL l out=(l.flatMap (kpV n)).foldl Ql out
 | [],_,out=>rfl
 | t::l,h,out=>by
  rw[Tr.kwL,List.flatMap_cons,List.foldl_append,h t (by simp),Zp1 (fun u hu=>h u (by simp[hu]))]
theorem Zxg{N:ZF}:∀n t,Val N t->t.h=n->∀out,t.kwT out=(kpV n t).foldl Ql out:=by
 have hko:∀ {o h m s} {k:Option (List Tr)} {out:List Nat},k.getD []=[]->Tr.kwT (.mk o h m s k) out=if o≠0/\o∉out then out++[o] else out:=by
  intro o h m s k out hk;rw[Tr.kwT]
  cases k with
  | none=>rfl
  | some l=>simp only[Option.getD]at hk;subst hk;rfl
 intro n
 induction n with
 | zero =>
  intro t hv hn out
  cases hv with
  | kept h0 hx hok hh hm hk =>
   rename_i o h m k x
   rw[hko hk,show kpV 0 (.mk o h m [] k)=[o] from if_neg h0]
   show _=Ql out o
   unfold Ql
   by_cases c:o∈out<;>simp[c,h0]
  | leaf h1 h2 hk =>
   rename_i s k
   rw[hko hk];rfl
  | inner hh h2 h4 hl hb hv=>simp[Tr.h]at hn
 | succ n ih =>
  intro t hv hn out
  cases hv with
  | kept h0 hx hok hh hm hk =>
   rename_i o h m k x
   rw[hko hk,show kpV (n+1) (.mk o h m [] k)=[o] from if_neg h0]
   show _=Ql out o
   unfold Ql
   by_cases c:o∈out<;>simp[c,h0]
  | leaf h1 h2 hk=>simp[Tr.h]at hn
  | inner hh h2 h4 hl hb hv =>
   rename_i h l
   simp only[Tr.h]at hn
   rw[show kpV (n+1) (.mk 0 (h+1) .zero [] (some l))=l.flatMap (kpV n) from rfl,Tr.kwT]
   show Tr.kwL l (if (0:Nat)≠0/\0∉out then out++[0] else out)=_
   rw[if_neg (by simp)]
   exact Zp1 (fun u hu=>ih u (hv u hu) (by have:=hl u hu;omega)) out
theorem Zq3{N:ZF}(hN:GoodN N)(ht:Val N t)(hb:t.bytes<=65536)(st:St):S Tb Yk [t.av] st=some (.lit ((t.kwT []).map Z7),st):=by
 refine Zj Y (fun A hA=>?_)
 have h13:=ht.height hN hb
 have hK:=fun st=>ZoK (N:=N) _ t ht rfl h13 st
 have hlen:=Zsd _ t ht rfl
 have hpow:4 ^ (t.h+1)<=4 ^ 14:=Nat.pow_le_pow_right (by omega) (by omega)
 have hpw:(4:Nat) ^ 14=268435456:=by decide
 have hO:=fun st=>Zsa (kpV t.h t) (by omega) st
 rw[Zxg _ t ht rfl []]
 show Ru _ _ _ (fun x e st'=>Jp false _ (x,e,st')=some (AV.lit ((JI (kpV t.h t)).map Z7),st)) _ _
 generalize JI (kpV t.h t)=w at *
 generalize kpV t.h t=v at *
 repeat'(first|refine ruS Y ?_|refine isS Y ?_|refine rkS Y ?_|refine Z5 Y Y (ZG _) ?_|refine Za Y (ZQ _) (Zg _) ?_|refine ZA Y Y (by first|rfl|(simp only[List.nil_append,List.append_nil,List.cons_append,ZH,ZC,ZE];first|done|rfl)) (hK _) ?_|refine ZA Y Y (by first|rfl|(simp only[List.nil_append,List.append_nil,List.cons_append,ZH,ZC,ZE];first|done|rfl)) (hO _) ?_)
 all_goals refine ZO hA (by simp) Y Y Y Y ?_
 all_goals rfl
theorem Zp2(l l':List Tr)(hb:l.length<4294967296)(hp:∀t∈l,t.Pos)(ho:l.map Tr.own=l'.map Tr.own)(st:St):S Tb YN [.lit (l.map Tr.av),.lit (l'.map Tr.av)] st=some (.bool true,st):=by
 have hlen:l.length=l'.length:=by have:=congrArg List.length ho;simpa using this
 have hm1:(l.map Tr.av).length=l.length:=by simp
 have hm2:(l'.map Tr.av).length=l'.length:=by simp
 refine Zj Y (fun A hA=>?_)
 repeat'(first|refine ruS Y ?_|refine isS Y ?_|refine ZX ?_|refine Zi Y ?_|(refine cm0 Y Y Y ?_ ?_<;>intro _<;>try omega))
 all_goals try first|contradiction|omega
 refine Zc (α:=Nat) (fun i=>[(0,.lit (l.map Tr.av)),(1,.lit (l'.map Tr.av)),(5,.int .i64 i)]) (fun i=>⟨A,false,[]⟩) (fun i=>i<=l.length) (fun i=>l.length-i) 0 Y Y (by omega) ?_
 intro i hi
 rcases Nat.lt_or_ge i l.length with hlt|hge
 ·obtain⟨x,hx⟩:∃x,l[i]?=some x:=⟨l[i]'hlt,jE _⟩
  obtain⟨y,hy⟩:∃y,l'[i]?=some y:=⟨l'[i]'(by omega),jE _⟩
  have q1:0<=((i:Nat):Int)/\l[((i:Nat):Int).toNat]?=some x:=⟨by omega,by rw[show ((i:Nat):Int).toNat=i by omega];exact hx⟩
  have q2:0<=((i:Nat):Int)/\l'[((i:Nat):Int).toNat]?=some y:=⟨by omega,by rw[show ((i:Nat):Int).toNat=i by omega];exact hy⟩
  have hxy:x.own=y.own:=by
   have e1:(l.map Tr.own)[i]?=some x.own:=by rw[jG,hx];rfl
   have e2:(l'.map Tr.own)[i]?=some y.own:=by rw[jG,hy];rfl
   rw[ho,e2]at e1;exact (Option.some.inj e1).symm
  have hS:=ZBP x (hp x (jM hx)) y hxy
  repeat'(first|refine Z6 (f:=Tr.av) Y Y q1 ZQ ?_|refine Z6 (f:=Tr.av) Y Y q2 ZQ ?_|refine ruS Y ?_|refine isS Y ?_|refine rkS Y ?_|refine Zi Y ?_|(refine cm0 Y Y Y ?_ ?_<;>intro _<;>try omega)|refine ZL Y Y (by omega) ?_|refine Zk Y (ZG _) ?_|refine ZA Y Y (by first|rfl|(simp only[List.nil_append,List.append_nil,List.cons_append,ZH,ZC,ZE];first|done|rfl)) (hS _) ?_)
  all_goals try first|contradiction|omega
  all_goals exact⟨i+1,⟨rfl,rfl⟩,by omega,by omega⟩
 ·obtain rfl:i=l.length:=by omega
  repeat'(first|refine ruS Y ?_|refine isS Y ?_|refine rkS Y ?_|refine Zi Y ?_|(refine cm0 Y Y Y ?_ ?_<;>intro _<;>try omega))
  all_goals try omega
  all_goals refine ZO hA (by simp) Y Y Y Y ?_
  all_goals rfl
theorem ZmC:∀l:List Tr,(∀t∈l,4*(t.cnt:Int)+4<=t.bytes)->4*(Tr.cntL l:Int)+4*l.length<=Tr.bytesL l
 | [],_=>by simp[Tr.cntL,Tr.bytesL]
 | t::l,h=>by
  have h1:=h t (by simp)
  have h2:=ZmC l fun u hu=>h u (by simp[hu])
  simp only[Tr.cntL,Tr.bytesL,List.length_cons];omega
theorem Zw6{N:ZF}(hN:GoodN N)(hv:Val N t):(t.cnt:Int)<=t.bytes/\(Big t->4*(t.cnt:Int)+4<=t.bytes):=by
 have hsz:=hv.size hN;have hps:=hv.pos.2
 induction hv with
 | @kept o h m k x h0 hx hok hh hm hk =>
  have ec:(Tr.mk o h m [] k).cnt=0:=by rw[Tr.cnt,Tr.cntO_getD,hk,if_neg h0];rfl
  have hl:h<=16:=by
   rcases hok with q|⟨n,ks,q⟩
   ·rw[<- hh,q.h];omega
   ·have:=q.n15;have e:=q.eq;subst e;simp only at hh;omega
  rw[ec]
  refine⟨by omega,fun q=>?_⟩
  have h1:=hsz q;have h2:=(ZCy hl).1;simp only[Tr.h]at h1;omega
 | @leaf s k h1 h2 hk =>
  have ec:(Tr.mk 0 0 .zero s k).cnt=1:=by rw[Tr.cnt,Tr.cntO_getD,hk];rfl
  rw[ec]
  refine⟨by omega,fun q=>?_⟩
  have:=q rfl
  omega
 | @inner h l hh h2 h4 hl hb hv ih =>
  have ec:(Tr.mk 0 (h+1) .zero [] (some l)).cnt=Tr.cntL l+1:=by rw[Tr.cnt,Tr.cntO];simp;omega
  have eb:(Tr.mk 0 (h+1) .zero [] (some l)).bytes=Tr.bytesL l:=by rw[Tr.bytes,Tr.bytesO];simp[Mea.zero]
  have:=ZmC l fun u hu=>(ih u hu ((hv u hu).size hN) (hv u hu).pos.2).2 (fun q=>hb u hu (by rw[<- hl u hu];exact q))
  rw[ec,eb]
  exact⟨by omega,fun _=>by omega⟩
theorem ZQ5(k:Option (List Tr)):(Tr.ownO k).getD []=(k.getD []).map Tr.own:=by
 cases k with
 | none=>rfl
 | some l=>simp[Tr.ownO,Tr.ownL_map]
theorem Zxh(t:Tr):t.own.h=t.h:=by cases t;rfl
theorem ZiS(t:Tr):t.own.bytes=t.bytes:=by
 induction t using Tr.ind with
 | step o h m s k ih =>
  rw[Tr.own,Tr.bytes,Tr.bytes,Tr.bytesO_getD,Tr.bytesO_getD,ZQ5];generalize k.getD []=l at ih
  congr 1
  induction l with
  | nil=>rfl
  | cons a l ih2=>rw[jC,Tr.bytesL,Tr.bytesL,ih a (by simp),ih2 (fun t ht=>ih t (by simp[ht]))]
theorem Zu2{N:ZF}(hv:Val N t):Val N t.own:=by
 induction hv with
 | kept h0 hx hok hh hm hk =>
  rw[Tr.own]
  exact .kept h0 hx hok hh hm (by rw[ZQ5,hk];rfl)
 | leaf h1 h2 hk =>
  rw[Tr.own]
  exact .leaf h1 h2 (by rw[ZQ5,hk];rfl)
 | inner hh h2 h4 hl hb hv ih =>
  rename_i h l
  rw[Tr.own,Tr.ownO,Tr.ownL_map]
  refine .inner hh (by rw[List.length_map];exact h2) (by rw[List.length_map];exact h4) ?_ ?_ ?_
  ·intro t ht
   obtain⟨u,hu,rfl⟩:=List.mem_map.1 ht;rw[Zxh];exact hl u hu
  ·intro t ht q
   obtain⟨u,hu,rfl⟩:=List.mem_map.1 ht;rw[ZiS];exact hb u hu q
  ·intro t ht
   obtain⟨u,hu,rfl⟩:=List.mem_map.1 ht;exact ih u hu
theorem ZW7{N:ZF}(h:VE N t):VE N t.own:=by
 rcases h with h|h
 ·obtain⟨o,h',m,s,k⟩:=t
  obtain⟨h1,h2,h3,h4,h5⟩:=h
  exact .inl ⟨h1,h2,h3,h4,by show (Tr.ownO k).getD []=[];rw[ZQ5];simp only[Tr.ks]at h5;rw[h5];rfl⟩
 ·exact .inr (Zu2 h)
structure Ed where
 what:Nat
 n:Int
 at_:Int
 len:Int
 text:B8
theorem Yu{O:Orc}{keep:List Nat}{is:List QAbs.PI}{d:Nat}{α:Type}{f:α->AV}{l:List α}(hx:ZY e x=some (.lit (l.map f)))(h:Is O is keep k Q ((d,.int .i64 l.length)::e) st):Is O (⟨some d,none,false,.len 1 x⟩::is) keep k Q e st:=by
 refine Zb4 hx ?_;rw[List.length_map];exact h
theorem Zp3{lv:Nat}{n m:Int}{s:B8}:ZE (ZH ([]++[.ptr lv ix 0 0 0,t.av,.int .i64 n,.int .i64 m,.str s]++[]))=some [.ptr lv ix 0 0 0,t.av,.int .i64 n,.int .i64 m,.str s]:=by
 simp only[List.nil_append,List.append_nil,List.cons_append,ZH,ZC,ZE];rfl
instance (l:List B8):Decidable (Zfp l):=by unfold Zfp;infer_instance
def Zxi(l:List Ed):Prop:=(∃s∈l.take 100,200<s.text.length)\/60<l.length
open Classical in
noncomputable instance (l:List Ed):Decidable (Zxi l):=Classical.propDecidable _
theorem ZmD:∀(n:Nat) (l:List Nat),l.Nodup->(∀x∈l,x<n)->l.length<=n:=by
 intro n
 induction n with
 | zero=>intro l _ h;cases l with
  | nil=>exact Nat.le_refl _
  | cons a l=>have:=h a (by simp);omega
 | succ n ih =>
  intro l hd h
  by_cases hm:n∈l
  ·have := ih (l.erase n) (hd.erase n) (fun x hx => by
    have h1:=h x (List.mem_of_mem_erase hx)
    have h2:x≠n:=fun e=>by subst e;exact hd.not_mem_erase hx
    omega)
   rw[List.length_erase_of_mem hm]at this;omega
  ·have := ih l hd (fun x hx => by
    have h1:=h x hx
    have h2:x≠n:=fun e=>hm (e▸hx)
    omega)
   omega
theorem AROk.few{r:AR}(h:AROk r)(hd:l.Nodup)(hl:∀o∈l,∃x,lk r.nodes o=some x):l.length<=16384:=by
 have h16:=h.n16
 have key:∀o∈l,ZmA r o:=fun o ho=>by obtain⟨x,hx⟩:=hl o ho;exact (h.live hx).1
 have h1:(l.map (· % 65536)).Nodup:=by
  unfold List.Nodup at hd ⊢;rw[List.pairwise_map]
  refine hd.imp_of_mem (fun {p o} hp ho hne e=>hne ?_)
  have a:=(key p hp).2.2;have c:=(key o ho).2.2;rw[e,c]at a
  have:=Option.some.inj a
  omega
 have:=ZmD r.states.length _ h1 (fun x hx=>by
  obtain⟨o,ho,rfl⟩:=List.mem_map.1 hx
  exact (List.getElem?_eq_some_iff.1 (key o ho).2.1).1)
 rw[List.length_map]at this;omega
theorem Zu3(r:AR):eqV [(0,0),(1,0),(2,0),(3,0),(4,0),(5,0),(6,0)] 0 r.statsAV r.statsAV=some true:=by
 unfold AR.statsAV
 show (if decide _=true then (if decide _=true then (if decide _=true then (if decide _=true then (if decide _=true then (if decide _=true then (if decide _=true then some true else some false) else some false) else some false) else some false) else some false) else some false) else some false)=_
 simp
def bel(N:ZF):Nat->Nat->List Nat->List Nat
 | 0,h,s=>if h∈s then s else s++[h]
 | n+1,h,s=>if h∈s then s else (ZBq N h).ks.foldl (fun s k=>bel N n k.at_ s) (s++[h])
structure Visit(τ:List Nat->List Nat->St)(lm mx:Nat)(g:FuncId)(caps:LV):Prop where
 len:∀u w u' w',(τ u w).ps.length=(τ u' w').ps.length
 wr:∀u w,(τ u w).wr lm
 get:∀u w,(τ u w).get lm mx=some (.map (Yh u))
 upd:∀u w v,(τ u w).upd lm mx (.map (Yh v))=τ v w
 call:∀u w h more L,w.length<1000000000->∃v,S Tb g ([.int .u64 (h:Nat)]++caps) ⟨(τ u w).ps++more,false,L⟩=some (v,⟨(τ u (w++[h])).ps++more,false,L⟩)
 wk:∀h:Nat,ZE (ZH ([]++[.int .u64 (h:Nat)]++caps))=some ([.int .u64 (h:Nat)]++caps)
 wk2:∀la b h:Nat,ZE (ZH ([]++[.ptr la b 0 0 0,.int .u64 (h:Nat),.map lm mx,.func (.func g) [] caps]++[]))=some [.ptr la b 0 0 0,.int .u64 (h:Nat),.map lm mx,.func (.func g) [] caps]
theorem Zse{O:Orc}{L:List Blk}{keep:List Nat}{is:List QAbs.PI}{s0:St}{more:List (Bool × List Blk)}{i v:Opd}{lv h:Nat}{w:AV}{es es':List (AV × AV)}(hx:ZY e x=some (.map lv ix))(hi:ZY e i=some (.int .u64 h))(hv:ZY e v=some w)(hw:s0.wr lv)(hg:s0.get lv ix=some (.map es))
 (hs:Zb QK (lv+1) ⟨s0.ps++more,false,L⟩ w=some (w,⟨s0.ps++more,false,L⟩)) (hp:ZOA (.int .u64 h) w es=some es')
 (hh:Is O is keep k Q e ⟨(s0.upd lv ix (.map es')).ps++more,false,L⟩):Is O (⟨none,none,false,.mupd 0 x i v⟩::is) keep k Q e ⟨s0.ps++more,false,L⟩:=by
 have hl:=St.get_le hg;have g':=ZCv hg more false L;have w':=Zpz hl hw more false L;refine Zq (od:=none) (v:=.undef) (st':=St.upd ⟨s0.ps++more,false,L⟩ lv ix (.map es')) ?_ ?_
 ·simp only[Zd,evalPO,ZD hx,ZD hi,ZD hv,ZY4,XK,if_true,hs,Option.bind_some,ZcI,g',ZZZ,hp,St.put_upd w' g',ZCI]
 ·rw[Zl9 hl];exact hh
theorem ZmE{N:ZF}{P:Nat}(ih:∀(h:Nat) (s:List Nat) (x:Nd),lk N h=some x->x.h=n->3*(bel N n h s).length+1<=3*s.length+P):∀(ks:List Kid) (s:List Nat),(∀k∈ks,∃y,lk N k.at_=some y/\y.h=n)->3*(ks.foldl (fun s k=>bel N n k.at_ s) s).length+ks.length<=3*s.length+ks.length*P:=by
 intro ks
 induction ks with
 | nil=>intro s _;simp
 | cons k l ihl =>
  intro s hk;rw[List.foldl_cons]
  obtain⟨y,y1,y2⟩:=hk k (by simp)
  have a1:=ih k.at_ s y y1 y2
  have a2:=ihl (bel N n k.at_ s) (fun z hz=>hk z (List.mem_cons_of_mem _ hz))
  rw[List.length_cons,Nat.add_mul];omega
theorem Zu4{N:ZF}(hN:GoodN N):∀(n h:Nat) (s:List Nat) (x:Nd),lk N h=some x->x.h=n->3*(bel N n h s).length+1<=3*s.length+4 ^ (n+1):=by
 intro n
 induction n with
 | zero =>
  intro h s x hx hh;rw[bel]
  split
  ·omega
  ·rw[List.length_append];simp;omega
 | succ n ih =>
  intro h s x hx hh;rw[bel,J9 hx]
  have hp:4 ^ (n+1+1)=4*4 ^ (n+1):=by rw[Nat.pow_succ];omega
  have h1:0<4 ^ (n+1):=Nat.pow_pos (by decide)
  split
  ·omega
  ·have hk4:=(hN h x hx).1.len
   have hkids:=(hN h x hx).2
   have:=ZmE ih x.ks (s++[h]) (fun k hk=>by obtain⟨_,y,y1,y2,_⟩:=hkids k hk;exact⟨y,y1,by omega⟩)
   rw[List.length_append,List.length_singleton]at this
   have h3:(4-x.ks.length)*4 ^ (n+1)+x.ks.length*4 ^ (n+1)=4*4 ^ (n+1):=by rw[<- Nat.add_mul];congr 1;omega
   have h4:(4-x.ks.length)*1<=(4-x.ks.length)*4 ^ (n+1):=Nat.mul_le_mul_left _ h1
   generalize 4 ^ (n+1)=P at *
   generalize (4-x.ks.length)*P=P1 at *
   generalize x.ks.length*P=P2 at *
   omega
theorem Zck{τ:List Nat->List Nat->St}(hV:Visit τ lm mx g caps){N:ZF}(hR:∀u w,Rd (τ u w) la (b+5) N){h:Nat}{x:Nd}(hx:lk N h=some x)(hk4:x.ks.length<=4)(s:List Nat)(hs:h∉s)(f:Kid->List Nat->List Nat){B:Nat}(hB:B<=900000000)
 (hlen:∀i,((x.ks.take i).foldl (fun s k=>f k s) (s++[h])).length<=B)
 (hf:∀k∈x.ks,∀(s:List Nat) (more:List (Bool × List Blk)) (L:List Blk),s.length<=B->S Tb JR [.ptr la (b+5) 0 0 0,.int .u64 k.at_,.map lm mx,.func (.func g) [] caps] ⟨(τ s s).ps++more,false,L⟩=some (.int .i64 0,⟨(τ (f k s) (f k s)).ps++more,false,L⟩))
 {more:List (Bool × List Blk)} {st st':St} (hst:st.ps=(τ s s).ps++more) (hst':st'.ps=(τ (x.ks.foldl (fun s k=>f k s) (s++[h])) (x.ks.foldl (fun s k=>f k s) (s++[h]))).ps++more) :
 S Tb JR [.ptr la (b+5) 0 0 0,.int .u64 h,.map lm mx,.func (.func g) [] caps] st=some (.int .i64 0,st'):=by
 refine Zff Y (fun A hA=>?_)
 have hA2:A=(τ s s).ps++more:=hA.trans hst;clear hA;subst hA2
 have hlk:=fun L=>ZU3 (ZCv (hV.get s s) more false L) h
 simp only[decide_eq_false hs]at hlk;have hl0:=hlen 0;simp only[List.take_zero,List.foldl_nil,List.length_append,List.length_singleton]at hl0
 repeat'(first|refine ruS Y ?_|refine isS Y ?_|refine ZX ?_|refine ZF3 Y Y (hlk _) ?_)
 all_goals try contradiction
 refine Zse Y Y Y (hV.wr s s) (hV.get s s) Y (Zjb h s hs) ?_;rw[hV.upd]
 have hG:=fun L=>ZqU ((hR (s++[h]) s).more more false L) hx hk4
 have hcp:x.copy.av=.agg [.int .i64 x.h,.str x.text,.lit (x.ks.map Kid.av)]:=rfl;rw[hcp]at hG
 obtain⟨v,hc⟩:=hV.call (s++[h]) s h more [.arr 3 0 [.agg [.int .i64 x.h,.str x.text,.lit (x.ks.map Kid.av)]]] (by omega)
 generalize hA1:(τ (s++[h]) s).ps++more=A1 at *
 repeat'(first|refine ZA Y Y (hV.wk h) hc ?_|refine ruS Y ?_|refine isS Y ?_|refine ZX ?_|(refine cm0 Y Y Y ?_ ?_<;>intro _<;>try omega)|refine ZJ Y Y Y ?_|refine Ze Y Y Y Y Y Y ?_|refine ZA Y Y Y (hG _) ?_)
 all_goals try contradiction
 obtain⟨A2,hA2⟩:∃A2,A2=(τ (s++[h]) (s++[h])).ps++more:=⟨_,rfl⟩
 have e12:A1.length=A2.length:=by
  have:=hV.len (s++[h]) s (s++[h]) (s++[h])
  rw[<- hA1,hA2];simp only[List.length_append]at this ⊢;omega
 rw[<- hA2,e12]
 repeat'(first|refine Yu Y ?_|refine isS Y ?_|refine ZB Y Y Y Y ?_|refine ZX ?_|refine Zmd ?_)
 refine Zc (α:=Nat × List Blk) (fun p=>[(0,.ptr la (b+5) 0 0 0),(2,.map lm mx),(3,.func (.func g) [] caps),(32,.lit (x.ks.map Kid.av)),(33,.int .i64 x.ks.length),(34,.int .i64 p.1)])
  (fun p=>⟨(τ ((x.ks.take p.1).foldl (fun s k=>f k s) (s++[h])) ((x.ks.take p.1).foldl (fun s k=>f k s) (s++[h]))).ps++more,false,.arr 3 0 [.agg [.int .i64 x.h,.str x.text,.lit (x.ks.map Kid.av)]]::p.2⟩) (fun p=>p.1<=x.ks.length) (fun p=>x.ks.length-p.1) (0,[]) rfl (by rw[hA2];rfl) (Nat.zero_le _) ?_
 rintro⟨i,G⟩ hi
 simp only at hi ⊢
 rcases Nat.lt_or_ge i x.ks.length with hlt|hge
 ·obtain⟨kd,hk⟩:∃k,x.ks[i]?=some k:=⟨x.ks[i]'hlt,jE _⟩
  have qk:0<=((i:Nat):Int)/\x.ks[((i:Nat):Int).toNat]?=some kd:=⟨by omega,by rw[show ((i:Nat):Int).toNat=i by omega];exact hk⟩
  have hcl:=fun L=>hf kd (jM hk) _ more L (hlen i)
  have hnx:(x.ks.take (i+1)).foldl (fun s k=>f k s) (s++[h])=f kd ((x.ks.take i).foldl (fun s k=>f k s) (s++[h])):=by
   rw[ZU hk,List.foldl_append];rfl
  rw[<- hnx]at hcl
  generalize hP:(τ ((x.ks.take (i+1)).foldl (fun s k=>f k s) (s++[h])) ((x.ks.take (i+1)).foldl (fun s k=>f k s) (s++[h]))).ps++more=P at *
  generalize (τ ((x.ks.take i).foldl (fun s k=>f k s) (s++[h])) ((x.ks.take i).foldl (fun s k=>f k s) (s++[h]))).ps++more=A3 at *
  repeat'(first|refine Z6 (f:=Kid.av) Y Y qk (fun _=>rfl) ?_|refine ZA Y Y (hV.wk2 _ _ _) (hcl _) ?_|refine ruS Y ?_|refine isS Y ?_|refine rkS Y ?_|refine Z5 Y Y Y ?_|refine Zk Y Y ?_|(refine cm0 Y Y Y ?_ ?_<;>intro _<;>try omega)|refine ZL Y Y (by omega) ?_|refine Za Y Y Y ?_|refine J5 Y Y Y Y Y Y ?_)
  all_goals try first|contradiction|omega
  refine⟨(i+1,G++[.arr 4 0 [kd.av]]),⟨rfl,?_⟩,by simp only;omega,by simp only;omega⟩
  simp only
  rw[hP];rfl
 ·obtain rfl:i=x.ks.length:=by omega
  rw[List.take_length]
  repeat'(first|refine ruS Y ?_|refine isS Y ?_|refine rkS Y ?_|(refine cm0 Y Y Y ?_ ?_<;>intro _<;>try omega))
  all_goals try omega
  refine ZO (st:=st') hst'.symm (.inr Y) Y Y Y Y ?_;rfl
theorem Zcl{τ:List Nat->List Nat->St}(hV:Visit τ lm mx g caps){h:Nat}(s:List Nat)(hs:h∈s){more:List (Bool × List Blk)}(hst:st.ps=(τ s s).ps++more):
 S Tb JR [.ptr la (b+5) 0 0 0,.int .u64 h,.map lm mx,.func (.func g) [] caps] st=some (.int .i64 0,st):=by
 refine Zff Y (fun A hA=>?_)
 have hA2:A=(τ s s).ps++more:=hA.trans hst;have hA0:=hA;clear hA;subst hA2
 have hlk:=fun L=>ZU3 (ZCv (hV.get s s) more false L) h
 simp only[decide_eq_true hs]at hlk
 repeat'(first|refine ruS Y ?_|refine isS Y ?_|refine rkS Y ?_|refine ZF3 Y Y (hlk _) ?_)
 all_goals try contradiction
 refine ZO (st:=st) hA0 (.inr Y) Y Y Y Y ?_;rfl
theorem Zsf{t:St}(h:s.ps=t.ps):s=t:=by
 obtain⟨A,r,L⟩:=s;obtain⟨A',r',L'⟩:=t
 have:=List.append_inj' h rfl
 obtain⟨rfl,h2⟩:=this;simp only[List.cons.injEq,jP,and_true]at h2;obtain⟨rfl,rfl⟩:=h2;rfl
theorem Zp4{τ:List Nat->List Nat->St}(hV:Visit τ lm mx g caps){N:ZF}(hN:GoodN N)(hR:∀u w,Rd (τ u w) la (b+5) N):∀(n h:Nat) (x:Nd) (s:List Nat),lk N h=some x->x.h=n->s.length+4 ^ (n+1)<=900000000->∀ {more:List (Bool × List Blk)} {st st':St},st.ps=(τ s s).ps++more->st'.ps=(τ (bel N n h s) (bel N n h s)).ps++more ->
 S Tb JR [.ptr la (b+5) 0 0 0,.int .u64 h,.map lm mx,.func (.func g) [] caps] st=some (.int .i64 0,st'):=by
 intro n
 induction n with
 | zero =>
  intro h x s hx hh hb more st st' hst hst'
  by_cases hm:h∈s
  ·rw[bel,if_pos hm,<- hst]at hst'
   rw[Zsf hst'];exact Zcl hV s hm hst
  ·rw[bel,if_neg hm]at hst'
   have hks:x.ks=[]:=by
    rcases (hN h x hx).1 with q|⟨m,ks,q⟩
    ·exact q.ks
    ·have e:=q.eq;subst e;simp at hh
   refine Zck hV hR hx (by rw[hks];decide) s hm (fun _ s=>s) (Nat.le_refl _) (fun i=>?_) (fun k hk=>by rw[hks]at hk;simp at hk) hst (by rw[hks];exact hst')
   rw[hks,List.take_nil,List.foldl_nil,List.length_append,List.length_singleton]
   simp at hb;omega
 | succ n ih =>
  intro h x s hx hh hb more st st' hst hst'
  by_cases hm:h∈s
  ·rw[bel,if_pos hm,<- hst]at hst'
   rw[Zsf hst'];exact Zcl hV s hm hst
  ·rw[bel,if_neg hm,J9 hx]at hst'
   have hk4:=(hN h x hx).1.len;have hkids:=(hN h x hx).2
   have hp:4 ^ (n+1+1)=4*4 ^ (n+1):=by rw[Nat.pow_succ];omega
   have h1:4<=4 ^ (n+1):=by rw[Nat.pow_succ];have:0<4 ^ n:=Nat.pow_pos (by decide);omega
   refine Zck hV hR hx hk4 s hm (fun k s=>bel N n k.at_ s) (B:=900000000-4 ^ (n+1)) (by omega) (fun i=>?_) (fun k hk s' more' L hl=>?_) hst hst'
   ·have:=ZmE (Zu4 hN n) (x.ks.take i) (s++[h]) (fun k hk=>by obtain⟨_,y,y1,y2,_⟩:=hkids k (List.mem_of_mem_take hk);exact⟨y,y1,by omega⟩)
    rw[List.length_append,List.length_singleton]at this
    have hti:(x.ks.take i).length<=4:=by rw[List.length_take];omega
    have h4:(x.ks.take i).length*4 ^ (n+1)<=4*4 ^ (n+1):=Nat.mul_le_mul_right _ hti
    generalize (x.ks.take i).length*4 ^ (n+1)=P2 at *
    generalize 4 ^ (n+1)=P at *
    omega
   ·obtain⟨_,y,y1,y2,_⟩:=hkids k hk
    exact ih k.at_ y s' y1 (by omega) (by omega) (more:=more'++[(false,L)]) (List.append_assoc ..) (List.append_assoc ..)
theorem ZmF:∀l:List Tr,(∀t∈l,4*(t.siz:Int)+4<=t.bytes)->4*(Tr.sizL l:Int)+4*l.length<=Tr.bytesL l
 | [],_=>by simp[Tr.sizL,Tr.bytesL]
 | t::l,h=>by
  have h1:=h t (by simp)
  have h2:=ZmF l fun u hu=>h u (by simp[hu])
  simp only[Tr.sizL,Tr.bytesL,List.length_cons];omega
theorem Zsg{N:ZF}(hN:GoodN N)(hv:Val N t):(t.siz:Int)<=t.bytes+1/\(Big t->4*(t.siz:Int)+4<=t.bytes):=by
 have hsz:=hv.size hN;have hps:=hv.pos.2
 induction hv with
 | @kept o h m k x h0 hx hok hh hm hk =>
  have ec:(Tr.mk o h m [] k).siz=1:=by rw[Tr.siz,Tr.sizO_getD,hk];rfl
  have hl:h<=16:=by
   rcases hok with q|⟨n,ks,q⟩
   ·rw[<- hh,q.h];omega
   ·have:=q.n15;have e:=q.eq;subst e;simp only at hh;omega
  rw[ec]
  refine⟨by omega,fun q=>?_⟩
  have h1:=hsz q;have h2:=(ZCy hl).1;simp only[Tr.h]at h1;omega
 | @leaf s k h1 h2 hk =>
  have ec:(Tr.mk 0 0 .zero s k).siz=1:=by rw[Tr.siz,Tr.sizO_getD,hk];rfl
  rw[ec]
  refine⟨by omega,fun q=>?_⟩
  have:=q rfl
  omega
 | @inner h l hh h2 h4 hl hb hv ih =>
  have ec:(Tr.mk 0 (h+1) .zero [] (some l)).siz=Tr.sizL l+1:=by rw[Tr.siz,Tr.sizO];omega
  have eb:(Tr.mk 0 (h+1) .zero [] (some l)).bytes=Tr.bytesL l:=by rw[Tr.bytes,Tr.bytesO];simp[Mea.zero]
  have:=ZmF l fun u hu=>(ih u hu ((hv u hu).size hN) (hv u hu).pos.2).2 (fun q=>hb u hu (by rw[<- hl u hu];exact q))
  rw[ec,eb]
  exact⟨by omega,fun _=>by omega⟩
theorem Zsh{N:ZF}(hv:Val N t):∀out:List Nat,(∀h∈out,∃x,lk N h=some x)->∀h∈t.kwT out,∃x,lk N h=some x:=by
 induction hv with
 | @kept o h m k x h0 hx hok hh hm hk =>
  intro out ho a ha;rw[Tr.kwT,Tr.kwO_getD,hk,Tr.kwL]at ha
  split at ha
  ·rcases List.mem_append.1 ha with q|q
   ·exact ho a q
   ·rw[List.mem_singleton.1 q];exact⟨x,hx⟩
  ·exact ho a ha
 | @leaf s k h1 h2 hk =>
  intro out ho a ha
  rw[Tr.kwT,Tr.kwO_getD,hk,Tr.kwL,if_neg (by simp)]at ha
  exact ho a ha
 | @inner h l hh h2 h4 hl hb hv ih =>
  intro out ho a ha
  rw[Tr.kwT,Tr.kwO,if_neg (by simp)]at ha
  have key:∀(l:List Tr) (out:List Nat),(∀t∈l,∀out:List Nat,(∀h∈out,∃x,lk N h=some x)->∀h∈t.kwT out,∃x,lk N h=some x)->(∀h∈out,∃x,lk N h=some x)->∀a∈Tr.kwL l out,∃x,lk N a=some x:=by
   intro l
   induction l with
   | nil=>intro out _ ho a ha;exact ho a ha
   | cons t l ihl =>
    intro out hi ho a ha;rw[Tr.kwL]at ha
    exact ihl (t.kwT out) (fun u hu=>hi u (List.mem_cons_of_mem _ hu)) (hi t (by simp) out ho) a ha
  exact key l out ih ho a ha
theorem Zxj(h:Nat)(st:St):S Tb YX [.int .u64 h] st=some (.tup [],st):=by
 refine Zj Y (fun A hA=>?_)
 repeat'(first|refine Zb3 ?_|refine Zoj ?_)
 refine ZO hA (by simp) Y Y Y Y ?_
 rfl
def dr1(A:List (Bool × List Blk))(b4 b5 b8:Blk)(u:List Nat):St:=⟨A,false,[b4,b5,b8,.map (Yh u),.arr 1 0 [.map A.length 3]]⟩
def dr2(A:List (Bool × List Blk))(b4 b5 b8:Blk)(has u o:List Nat):St:=⟨A,false,[b4,b5,b8,.map (Yh has),.arr 1 0 [.map A.length 3],.arr 1 o.length (o.map Z7),.arr 1 0 [.ref A.length 5 o.length 0 o.length],.map (Yh u)]⟩
theorem Zw7(A:List (Bool × List Blk))(b4 b5 b8:Blk):Visit (fun u _=>dr1 A b4 b5 b8 u) A.length 3 YX [] where
 len _ _ _ _:=by simp[dr1]
 wr _ _:=by simp[St.wr,dr1]
 get _ _:=St.get_cur ..
 upd _ _ _:=by simp[St.upd,dr1]
 call u w h more L _:=⟨_,Zxj h _⟩
 wk _:=rfl
 wk2 _ _ _:=rfl
theorem Zw8(A:List (Bool × List Blk))(b4 b5 b8:Blk)(has u o:List Nat):Cl (dr2 A b4 b5 b8 has u o) [(A.length,5),(A.length,6)] [.arr 1 o.length (o.map Z7),.arr 1 0 [.ref A.length 5 o.length 0 o.length]]:=by
 refine⟨by simp,rfl,fun k hk=>?_,fun j lv ix b h1 h2=>?_⟩
 ·simp only[List.mem_cons,List.not_mem_nil,or_false]at hk
  rcases hk with rfl|rfl<;>simp[St.wr,dr2]
 ·match j,h1,h2 with
  | 0,h1,h2=>obtain⟨rfl,rfl⟩:=Prod.mk.inj (Option.some.inj h1);obtain rfl:=Option.some.inj h2;exact St.get_cur ..
  | 1,h1,h2=>obtain⟨rfl,rfl⟩:=Prod.mk.inj (Option.some.inj h1);obtain rfl:=Option.some.inj h2;exact St.get_cur ..
  | n+2,h1,h2=>simp at h1
theorem Zu5(A:List (Bool × List Blk))(b4 b5 b8:Blk)(has u o o':List Nat):Xi (dr2 A b4 b5 b8 has u o) [(A.length,5),(A.length,6)] [.arr 1 o'.length (o'.map Z7),.arr 1 0 [.ref A.length 5 o'.length 0 o'.length]]=dr2 A b4 b5 b8 has u o':=by
 simp[Xi,St.upd,dr2]
theorem Zxk(A:List (Bool × List Blk))(b4 b5 b8:Blk)(has u o:List Nat)(h:Nat)(more:List (Bool × List Blk))(L:List Blk)(hl:o.length<1000000000):
 S Tb YY [.int .u64 h,.ptr A.length 4 0 0 0,.ptr A.length 6 0 0 0] ⟨(dr2 A b4 b5 b8 has u o).ps++more,false,L⟩=some (.tup [],⟨(dr2 A b4 b5 b8 has u (if h∈has then o else o++[h])).ps++more,false,L⟩):=by
 have H:=(Zw8 A b4 b5 b8 has u o).more more false L;have hm4:St.get ⟨(dr2 A b4 b5 b8 has u o).ps++more,false,L⟩ A.length 4=some (.arr 1 0 [.map A.length 3]):=ZCv (s:=dr2 A b4 b5 b8 has u o) (St.get_cur ..) more false L;have hm3:St.get ⟨(dr2 A b4 b5 b8 has u o).ps++more,false,L⟩ A.length 3=some (.map (Yh has)):=ZCv (s:=dr2 A b4 b5 b8 has u o) (St.get_cur ..) more false L
 by_cases hm:h∈has
 ·rw[if_pos hm]
  refine Zj Y (fun A1 hA=>?_)
  have g4:=fun L'=>ZS hA (ro:=false) (L:=L') hm4
  have hlk:=fun L'=>ZU3 (ZS hA (ro:=false) (L:=L') hm3) h
  simp only[decide_eq_true hm]at hlk
  repeat'(first|refine ruS Y ?_|refine isS Y ?_|refine rkS Y ?_|refine Z1 Y (g4 _) Y Y ?_|refine ZF3 Y Y (hlk _) ?_)
  all_goals try contradiction
  refine ZO hA (by simp) Y Y Y Y ?_
  rfl
 ·rw[if_neg hm]
  have e:Xi ⟨(dr2 A b4 b5 b8 has u o).ps++more,false,L⟩ [(A.length,5),(A.length,6)] [.arr 1 (o++[h]).length ((o++[h]).map Z7),.arr 1 0 [.ref A.length 5 (o++[h]).length 0 (o++[h]).length]]=⟨(dr2 A b4 b5 b8 has u (o++[h])).ps++more,false,L⟩:=by
   rw[ZiQ (fun k hk=>by simp only[List.mem_cons,List.not_mem_nil,or_false]at hk;rcases hk with rfl|rfl<;>exact Nat.le_refl _),Zu5]
  rw[<- e]
  refine Zff Y (fun A1 hA=>?_)
  have hA':A1=(Xi ⟨(dr2 A b4 b5 b8 has u o).ps++more,false,L⟩ [(A.length,5),(A.length,6)] [.arr 1 o.length (o.map Z7),.arr 1 0 [.ref A.length 5 o.length 0 o.length]]).ps:=by rw[H.same];exact hA
  have g4:=fun L'=>ZS hA (ro:=false) (L:=L') hm4
  have hlk:=fun L'=>ZU3 (ZS hA (ro:=false) (L:=L') hm3) h
  simp only[decide_eq_false hm]at hlk
  have g6:=fun L'=>H.old hA' rfl rfl (ro:=false) (L:=L') (j:=1) rfl rfl
  repeat'(first|refine ruS Y ?_|refine isS Y ?_|refine ZX ?_|refine Zz Y Y Y Y ?_|refine Z1 Y (g4 _) Y Y ?_|refine ZF3 Y Y (hlk _) ?_|refine Z1 Y (g6 _) Y Y ?_)
  all_goals try contradiction
  refine Zv4 (es:=o.map Z7) (ys:=[.int .u64 h]) H hA' Y Y (j:=0) Y Y (by rw[List.length_map];rfl) rfl rfl rfl rfl (by rw[List.length_map,List.length_singleton];omega) (by decide) (fun A2 hA2 _=>?_)
  skip
  refine ZxQ H hA2 Y Y (j:=1) Y Y Y Y Y (Qv _ (Nat.lt_succ_self _)) Y (fun A3 hA3 _=>?_)
  repeat'(first|refine Yj Y ?_|refine Zoj ?_)
  have e3:((([Blk.arr 1 o.length (o.map Z7),Blk.arr 1 0 [.ref A.length 5 o.length 0 o.length]].set 0 (.arr 1 (o.length+1) (o.map Z7++[.int .u64 h]))).set 1 (.arr 1 0 ([AV.ref A.length 5 o.length 0 o.length].set 0 (.ref A.length 5 (o.length+1) 0 ((o.map Z7).length+[AV.int .u64 (h:Int)].length))))))=[.arr 1 (o++[h]).length ((o++[h]).map Z7),.arr 1 0 [.ref A.length 5 (o++[h]).length 0 (o++[h]).length]]:=by
   simp[Z7]
  replace hA3:A3=(Xi ⟨(dr2 A b4 b5 b8 has u o).ps++more,false,L⟩ [(A.length,5),(A.length,6)] [.arr 1 (o++[h]).length ((o++[h]).map Z7),.arr 1 0 [.ref A.length 5 (o++[h]).length 0 (o++[h]).length]]).ps:=by rw[<- e3];exact hA3
  refine ZO hA3 (.inl Y) Y Y Y Y ?_;rfl
theorem Zw9(A:List (Bool × List Blk))(b4 b5 b8:Blk)(has:List Nat):Visit (fun u w=>dr2 A b4 b5 b8 has u (w.filter fun h=>decide (h∉has))) A.length 7 YY [.ptr A.length 4 0 0 0,.ptr A.length 6 0 0 0] where
 len _ _ _ _:=by simp[dr2]
 wr _ _:=by simp[St.wr,dr2]
 get _ _:=St.get_cur ..
 upd _ _ _:=by simp[St.upd,dr2]
 call u w h more L hl:=by
  refine⟨.tup [],(Zxk A b4 b5 b8 has u (w.filter fun h=>decide (h∉has)) h more L (Nat.lt_of_le_of_lt (List.length_filter_le ..) hl)).trans ?_⟩
  rw[List.filter_append]
  by_cases hm:h∈has
  ·rw[if_pos hm,show ([h].filter fun h=>decide (h∉has))=[] by simp[hm],List.append_nil]
  ·rw[if_neg hm,show ([h].filter fun h=>decide (h∉has))=[h] by simp[hm]]
 wk _:=rfl
 wk2 _ _ _:=rfl
def ZRN(N:ZF)(l:List Nat):List Nat:=l.foldl (fun s h=>bel N (ZBq N h).h h s) []
def ZU4(N:ZF)(r:Ro)(t:Tr):List Nat:=if r.at_=0 then [] else (bel N r.h r.at_ []).filter fun h=>decide (h∉ZRN N (t.kwT []))
theorem ZxA{N:ZF}(hN:GoodN N){h:Nat}{x:Nd}(h0:h≠0)(hx:lk N h=some x):x.h<=13 :=
 RtOk.h13 hN (r:=⟨h,x.h,x.mea⟩) (.inr ⟨h0,x,hx,(hN h x hx).1,rfl,rfl⟩)
def Lv(N:ZF)(l:List Nat):Prop:=l.Nodup/\∀o∈l,∃x,lk N o=some x
theorem Lv.snoc{N:ZF}(h:Lv N l)(ho:∃x,lk N o=some x)(hn:o∉l):Lv N (l++[o]):=by
 refine⟨?_,fun a ha=>?_⟩
 ·rw[List.nodup_append]
  refine⟨h.1,by simp,fun x hx y hy=>?_⟩
  rw[List.mem_singleton]at hy;intro e;rw[e,hy]at hx;exact hn hx
 ·rcases List.mem_append.1 ha with q|q
  ·exact h.2 a q
  ·rw[List.mem_singleton.1 q];exact ho
theorem Zsi{N:ZF}(hN:GoodN N):∀(n h:Nat) (s:List Nat) (x:Nd),lk N h=some x->x.h=n->Lv N s->Lv N (bel N n h s):=by
 intro n
 induction n with
 | zero =>
  intro h s x hx hh hs;rw[bel]
  split
  ·exact hs
  ·rename_i q;exact hs.snoc ⟨x,hx⟩ q
 | succ n ih =>
  intro h s x hx hh hs;rw[bel,J9 hx]
  split
  ·exact hs
  ·rename_i q
   have key:∀(ks:List Kid) (s:List Nat),(∀k∈ks,∃y,lk N k.at_=some y/\y.h=n)->Lv N s->Lv N (ks.foldl (fun s k=>bel N n k.at_ s) s):=by
    intro ks
    induction ks with
    | nil=>intro s _ h;exact h
    | cons k l ihl =>
     intro s hk h
     obtain⟨y,y1,y2⟩:=hk k (by simp)
     exact ihl _ (fun z hz=>hk z (List.mem_cons_of_mem _ hz)) (ih k.at_ s y y1 y2 h)
   exact key x.ks _ (fun k hk=>by obtain⟨_,y,y1,y2,_⟩:=(hN h x hx).2 k hk;exact⟨y,y1,by omega⟩) (hs.snoc ⟨x,hx⟩ q)
theorem Zu6{N:ZF}(hN:GoodN N)(hl:∀h∈l,∃x,lk N h=some x):Lv N (ZRN N l):=by
 have key:∀(l s:List Nat),(∀h∈l,∃x,lk N h=some x)->Lv N s->Lv N (l.foldl (fun s h=>bel N (ZBq N h).h h s) s):=by
  intro l
  induction l with
  | nil=>intro s _ h;exact h
  | cons a l ih =>
   intro s hl h
   obtain⟨x,hx⟩:=hl a (by simp)
   refine ih _ (fun z hz=>hl z (List.mem_cons_of_mem _ hz)) ?_
   show Lv N (bel N (ZBq N a).h a s)
   rw[J9 hx];exact Zsi hN _ a s x hx Y h
 exact key l [] hl ⟨by simp,by simp⟩
theorem Zsj{N:ZF}(hN:∀o x,lk N o=some x->o≠0)(hv:VE N t):∀h∈t.kwT [],h≠0/\∃x,lk N h=some x:=by
 intro h hh
 rcases hv with q|q
 ·obtain⟨o,th,m,s,k⟩:=t
  have e1:=q.old;have e2:=q.ks;simp only[Tr.old,Tr.ks]at e1 e2;rw[Tr.kwT,Tr.kwO_getD,e2,Tr.kwL,e1]at hh
  simp at hh
 ·obtain⟨x,hx⟩:=Zsh q [] (by simp) h hh
  exact⟨hN h x hx,x,hx⟩
theorem Zji{N:ZF}(hN:GoodN N)(hv:VE N t)(hb:t.bytes<=65536):t.siz<4294967296:=by
 rcases hv with q|q
 ·obtain⟨o,th,m,s,k⟩:=t
  have e2:=q.ks;simp only[Tr.ks]at e2;rw[Tr.siz,Tr.sizO_getD,e2,Tr.sizL];omega
 ·have:=(Zsg hN q).1;omega
theorem Zq4{N:ZF}(hN:GoodN N)(hK:∀l,Lv N l->l.length<=16384)(hz:∀o x,lk N o=some x->o≠0)(hR:Rd st la (b+5) N){r:Ro}(hr:RtOk N r)(hv:VE N t)(hb:t.bytes<=65536):
 S Tb ZAf [.ptr la (b+5) 0 0 0,r.av,t.av] st=some (.tup [.lit ((ZU4 N r t).map Z7),.int .i64 0],st):=by
 refine Zj Y (fun A hA=>?_)
 have hRA:=fun L=>hR.push hA (ro:=false) (L:=L)
 have hKp:=fun L=>Zu0 (hRA L) hr
 have hCk:=fun L=>ZBn (hRA L) hv hb
 have hKt:=fun st=>ZsY hv.pos.1 (Zji hN hv hb) st
 have hkw:=Zsj hz hv;have hkl:=Tr.kwT_len t [];have hsz:=Zji hN hv hb;unfold ZU4
 generalize t.kwT []=kl at *
 simp only[List.length_nil]at hkl
 have hP13:∀n,n<=13->4 ^ (n+1)<=268435456:=fun n hn=>by
  have:4 ^ (n+1)<=4 ^ 14:=Nat.pow_le_pow_right (by decide) (by omega)
  exact this
 have hB1:∀(i h:Nat),kl[i]?=some h->S Tb JR [.ptr la (b+5) 0 0 0,.int .u64 h,.map A.length 3,.func (.func YX) [] []] (dr1 A (.arr 5 0 [r.av]) (.arr 7 0 [t.av]) (.arr 7 0 [(ZTE r).av]) (ZRN N (kl.take i)))=some (.int .i64 0,dr1 A (.arr 5 0 [r.av]) (.arr 7 0 [t.av]) (.arr 7 0 [(ZTE r).av]) (ZRN N (kl.take (i+1)))):=by
  intro i h hi;obtain⟨h0,x,hx⟩:=hkw h (jM hi)
  have hlv:=Zu6 hN (l:=kl.take i) (fun z hz=>(hkw z (List.mem_of_mem_take hz)).2)
  have:=hK _ hlv
  have:=hP13 _ (ZxA hN h0 hx)
  have e:ZRN N (kl.take (i+1))=bel N x.h h (ZRN N (kl.take i)):=by
   rw[ZU hi];unfold ZRN;rw[List.foldl_append,List.foldl_cons,List.foldl_nil,J9 hx]
  rw[e]
  exact Zp4 (Zw7 A _ _ _) hN (fun _ _=>hRA _) x.h h x _ hx Y (by omega) (more:=[]) (List.append_nil _).symm (List.append_nil _).symm
 have hB2:r.at_≠0->S Tb JR [.ptr la (b+5) 0 0 0,.int .u64 r.at_,.map A.length 7,.func (.func YY) [] [.ptr A.length 4 0 0 0,.ptr A.length 6 0 0 0]] (dr2 A (.arr 5 0 [r.av]) (.arr 7 0 [t.av]) (.arr 7 0 [(ZTE r).av]) (ZRN N kl) [] [])=some (.int .i64 0,dr2 A (.arr 5 0 [r.av]) (.arr 7 0 [t.av]) (.arr 7 0 [(ZTE r).av]) (ZRN N kl) (bel N r.h r.at_ []) ((bel N r.h r.at_ []).filter fun h=>decide (h∉ZRN N kl))):=by
  intro h0
  obtain⟨x,x1,x2,x3,x4⟩:∃x,lk N r.at_=some x/\NdOk x/\x.h=r.h/\x.mea=r.m:=by
   rcases hr with rfl|w
   ·exact absurd Y h0
   ·exact w.2
  have:=hP13 _ (hr.h13 hN)
  exact Zp4 (Zw9 A (.arr 5 0 [r.av]) (.arr 7 0 [t.av]) (.arr 7 0 [(ZTE r).av]) (ZRN N kl)) hN (fun _ _=>hRA _) r.h r.at_ x [] x1 x3 (by simp only[List.length_nil];omega) (more:=[]) (List.append_nil _).symm (List.append_nil _).symm
 have hkll:kl.length<1000000000:=by
  have:kl.length<=t.siz:=by omega
  have h2:(t.siz:Int)<=65537:=by
   rcases hv with q|q
   ·obtain⟨o,th,m,s,k⟩:=t
    have e2:=q.ks;simp only[Tr.ks]at e2;rw[Tr.siz,Tr.sizO_getD,e2,Tr.sizL];decide
   ·have:=(Zsg hN q).1;omega
  omega
 unfold dr1 at hB1;unfold dr2 at hB2;obtain⟨ra,rh,rm⟩:=r
 unfold Ro.av at *
 generalize ZTE ⟨ra,rh,rm⟩=kt at *
 repeat'(first|refine ruS Y ?_|refine isS Y ?_|refine ZB Y Y Y Y ?_|refine ZX ?_|(refine cm0 Y Y Y ?_ ?_<;>intro _<;>try omega)|refine ZJ Y Y Y ?_|refine ZVG Y ?_|refine ZA Y Y (by first|rfl|(simp only[List.nil_append,List.append_nil,List.cons_append,ZH,ZC,ZE];first|done|rfl)) (hKp _) ?_|refine ZA Y Y (by first|rfl|(simp only[List.nil_append,List.append_nil,List.cons_append,ZH,ZC,ZE];first|done|rfl)) (hCk _) ?_|refine ZB Y Y Y (ZG _) ?_|refine Ze Y Y Y (Zn _ _ _) (Zx _ _) Y ?_|refine Za Y (ZQ _) (Zg _) ?_)
 all_goals try contradiction
 refine Ze Y Y Y (by simp only[Zb,QK,if_pos (Nat.lt_succ_self _)]) Y Y ?_
 repeat'(first|refine ZB Y Y Y (ZG _) ?_|refine Yu Y ?_|refine ruS Y ?_|refine isS Y ?_|refine ZX ?_|refine ZA Y Y (by first|rfl|(simp only[List.nil_append,List.append_nil,List.cons_append,ZH,ZC,ZE];first|done|rfl)) (hKt _) ?_)
 refine Zc (α:=Nat) (fun i=>[(0,.ptr la (b+5) 0 0 0),(4,.ptr A.length 0 0 0 0),(11,.ptr A.length 4 0 0 0),(34,.lit (kl.map Z7)),(35,.int .i64 kl.length),(36,.int .i64 i)])
  (fun i=>⟨A,false,[.arr 5 0 [Ro.av ⟨ra,rh,rm⟩],.arr 7 0 [t.av],.arr 7 0 [kt.av],.map (Yh (ZRN N (kl.take i))),.arr 1 0 [.map A.length 3]]⟩) (fun i=>i<=kl.length) (fun i=>kl.length-i) 0 rfl rfl (Nat.zero_le _) ?_
 intro i hi;replace hi:i<=kl.length:=hi;unfold Ro.av
 rcases Nat.lt_or_ge i kl.length with hlt|hge
 ·obtain⟨h,hh⟩:∃x,kl[i]?=some x:=⟨kl[i]'hlt,jE _⟩
  have q:0<=((i:Nat):Int)/\kl[((i:Nat):Int).toNat]?=some h:=⟨by omega,by rw[show ((i:Nat):Int).toNat=i by omega];exact hh⟩
  have hB:=hB1 i h hh
  repeat'(first|refine Z6 (f:=Z7) Y Y q (fun _=>rfl) ?_|refine ZA Y Y Y hB ?_|refine ruS Y ?_|refine isS Y ?_|refine ZB Y Y Y Y ?_|refine rkS Y ?_|refine Zk Y Y ?_|(refine cm0 Y Y Y ?_ ?_<;>intro _<;>try omega)|refine ZL Y Y (by omega) ?_)
  all_goals try first|contradiction|omega
  exact⟨i+1,⟨rfl,rfl⟩,by omega,by omega⟩
 ·obtain rfl:i=kl.length:=by omega
  rw[List.take_length]
  by_cases h0:ra=0
  ·subst h0
   repeat'(first|refine Zfl ?_|refine ruS Y ?_|refine isS Y ?_|refine ZB Y Y Y Y ?_|refine rkS Y ?_|(refine cm0 Y Y Y ?_ ?_<;>intro _<;>try omega)|refine ZOL Y Y ?_|refine ZVG Y ?_)
   all_goals try first|contradiction|omega
   refine ZO hA (by simp) Y Y Y Y ?_
   rfl
  ·have hB:=hB2 h0
   have h0i:((ra:Nat):Int)≠0:=by omega
   simp only[if_neg h0]
   generalize (bel N rh ra []).filter (fun h=>decide (h∉ZRN N kl))=out at *
   repeat'(first|refine Zfl ?_|refine ZA Y Y Y hB ?_|refine ruS Y ?_|refine isS Y ?_|refine ZB Y Y Y Y ?_|refine rkS Y ?_|(refine cm0 Y Y Y ?_ ?_<;>intro _<;>try omega)|refine ZOL Y Y ?_|refine ZVG Y ?_)
   all_goals try first|contradiction|omega
   exact ZdD hA (.inr Y) Y Y (by simp) (fun v hv=>by obtain⟨x,_,rfl⟩:=List.mem_map.1 hv;rfl) rfl rfl
theorem Xw:∀(v w:List Nat) (x:Nat),x∈v.foldl Ql w↔x∈w\/x∈v
 | [],w,x=>by simp
 | a::v,w,x=>by
  rw[List.foldl_cons,Xw v (Ql w a) x,ZiR,List.mem_cons]
  constructor
  ·rintro ((h|h)|h)<;>simp[h]
  ·rintro (h|h|h)<;>simp[h]
theorem ZTF:∀(v w:List Nat),(∀x∈v,x∈w)->v.foldl Ql w=w
 | [],w,_=>rfl
 | a::v,w,h=>by
  rw[List.foldl_cons,show Ql w a=w by unfold Ql;rw[if_pos (h a (by simp))]]
  exact ZTF v w (fun x hx=>h x (by simp[hx]))
theorem ZY9(p:Nat->Bool):∀(v w:List Nat),(v.filter p).foldl Ql (w.filter p)=(v.foldl Ql w).filter p
 | [],w=>rfl
 | a::v,w=>by
  rw[List.foldl_cons,<- ZY9 p v (Ql w a)]
  have e:(Ql w a).filter p=if p a=true then Ql (w.filter p) a else w.filter p:=by
   unfold Ql
   by_cases q:a∈w
   ·rw[if_pos q]
    split
    ·rename_i hp;rw[if_pos (List.mem_filter.2 ⟨q,hp⟩)]
    ·rfl
   ·rw[if_neg q,List.filter_append]
    split
    ·rename_i hp
     rw[if_neg (fun h=>q (List.mem_filter.1 h).1)]
     simp[List.filter_cons,hp]
    ·rename_i hp
     simp[List.filter_cons,hp]
  rw[e,List.filter_cons]
  split
  ·rw[List.foldl_cons]
  ·rfl
theorem Zjj(p:Nat->Bool)(v:List Nat):JI (v.filter p)=(JI v).filter p:=ZY9 p v []
theorem Zjk{N:ZF}(hN:GoodN N):∀(n h:Nat) (x:Nd),lk N h=some x->x.h=n->∀o∈Xd N n h,∃y,lk N o=some y/\y.h<=n/\∀z∈Xd N y.h o,z∈Xd N n h:=by
 intro n
 induction n with
 | zero =>
  intro h x hx hh o ho;rw[Xd,List.mem_singleton]at ho;subst ho
  exact⟨x,hx,by omega,fun z hz=>by rw[hh]at hz;exact hz⟩
 | succ n ih =>
  intro h x hx hh o ho;have hg:=(hN h x hx).2;rw[Xd,J9 hx,List.mem_cons]at ho
  rcases ho with rfl|ho
  ·exact⟨x,hx,by omega,fun z hz=>by rw[hh]at hz;exact hz⟩
  ·obtain⟨k,hk,ho⟩:=List.mem_flatMap.1 ho
   obtain⟨_,y,y1,y2,_⟩:=hg k hk
   obtain⟨w,w1,w2,w3⟩:=ih k.at_ y y1 (by omega) o ho
   refine⟨w,w1,by omega,fun z hz=>?_⟩
   rw[Xd,J9 hx,List.mem_cons];exact .inr (List.mem_flatMap.2 ⟨k,hk,w3 z hz⟩)
def ClN(N:ZF)(n:Nat)(s:List Nat):Prop:=∀o∈s,∀y,lk N o=some y->y.h<=n->∀z∈Xd N y.h o,z∈s
theorem Zp5{N:ZF}(hN:GoodN N):∀(n h:Nat) (x:Nd) (s:List Nat),lk N h=some x->x.h=n->ClN N n s->bel N n h s=(Xd N n h).foldl Ql s/\ClN N n (bel N n h s):=by
 intro n
 induction n with
 | zero =>
  intro h x s hx hh hs
  have e:bel N 0 h s=(Xd N 0 h).foldl Ql s:=by rw[bel,Xd];rfl
  refine⟨e,?_⟩;rw[e];intro o ho y hy hy0 z hz;rw[Xw]at ho ⊢
  rcases ho with ho|ho
  ·exact .inl (hs o ho y hy hy0 z hz)
  ·obtain⟨w,w1,w2,w3⟩:=Zjk hN 0 h x hx hh o ho
   rw[hy]at w1;obtain rfl:=Option.some.inj w1;exact .inr (w3 z hz)
 | succ n ih =>
  intro h x s hx hh hs;have hg:=(hN h x hx).2;rw[bel]
  by_cases hm:h∈s
  ·rw[if_pos hm]
   refine⟨(ZTF _ _ (fun z hz=>hs h hm x hx (by omega) z (by rw[hh];exact hz))).symm,hs⟩
  ·rw[if_neg hm]
   have key:∀(ks:List Kid) (s:List Nat),(∀k∈ks,k∈x.ks)->ClN N n s->ks.foldl (fun s k=>bel N n k.at_ s) s=(ks.flatMap fun k=>Xd N n k.at_).foldl Ql s/\ClN N n (ks.foldl (fun s k=>bel N n k.at_ s) s):=by
    intro ks
    induction ks with
    | nil=>intro s _ hc;exact⟨rfl,hc⟩
    | cons k ks ihk =>
     intro s hk hc
     obtain⟨_,y,y1,y2,_⟩:=hg k (hk k (by simp))
     obtain⟨b1,b2⟩:=ih k.at_ y s y1 (by omega) hc
     rw[List.foldl_cons,List.flatMap_cons,List.foldl_append,<- b1]
     exact ihk _ (fun z hz=>hk z (by simp[hz])) b2
   have hc:ClN N n (s++[h]):=by
    intro o ho y hy hyn z hz
    rcases List.mem_append.1 ho with ho|ho
    ·exact List.mem_append.2 (.inl (hs o ho y hy (by omega) z hz))
    ·rw[List.mem_singleton]at ho
     subst ho;rw[hx]at hy;obtain rfl:=Option.some.inj hy;omega
   rw[J9 hx]
   obtain⟨k1,k2⟩:=key x.ks (s++[h]) (fun k hk=>hk) hc
   have e:x.ks.foldl (fun s k=>bel N n k.at_ s) (s++[h])=(Xd N (n+1) h).foldl Ql s:=by
    rw[k1,Xd,J9 hx,List.foldl_cons,show Ql s h=s++[h] by unfold Ql;rw[if_neg hm]]
   refine⟨e,?_⟩;rw[e];intro o ho y hy hyn z hz;rw[Xw]at ho ⊢
   rcases ho with ho|ho
   ·exact .inl (hs o ho y hy hyn z hz)
   ·obtain⟨w,w1,w2,w3⟩:=Zjk hN (n+1) h x hx hh o ho
    rw[hy]at w1;obtain rfl:=Option.some.inj w1;exact .inr (w3 z hz)
theorem Zsk{N:ZF}(hN:GoodN N){h:Nat}{x:Nd}(hx:lk N h=some x):bel N x.h h []=JI (Xd N x.h h) :=
 (Zp5 hN x.h h x [] hx rfl (fun o ho=>by simp at ho)).1
theorem Zsl{N:ZF}(hN:GoodN N)(l:List Nat)(hl:∀h∈l,∃x,lk N h=some x)(o:Nat):o∈ZRN N l↔∃k∈l,o∈Xd N (ZBq N k).h k:=by
 have key:∀(l:List Nat) (s:List Nat),(∀h∈l,∃x,lk N h=some x)->(∀n,ClN N n s)->(∀n,ClN N n (l.foldl (fun s h=>bel N (ZBq N h).h h s) s))/\∀o,o∈l.foldl (fun s h=>bel N (ZBq N h).h h s) s↔o∈s\/∃k∈l,o∈Xd N (ZBq N k).h k:=by
  intro l
  induction l with
  | nil=>intro s _ hc;exact⟨hc,fun o=>by simp⟩
  | cons a l ih =>
   intro s hl hc
   obtain⟨x,hx⟩:=hl a (by simp)
   rw[List.foldl_cons,J9 hx];obtain⟨b1,b2⟩:=Zp5 hN x.h a x s hx rfl (hc _)
   have hc2:∀n,ClN N n (bel N x.h a s):=by
    intro n o ho y hy hyn z hz;rw[b1,Xw]at ho ⊢
    rcases ho with ho|ho
    ·exact .inl (hc n o ho y hy hyn z hz)
    ·obtain⟨w,w1,w2,w3⟩:=Zjk hN x.h a x hx rfl o ho
     rw[hy]at w1;obtain rfl:=Option.some.inj w1;exact .inr (w3 z hz)
   obtain⟨i1,i2⟩:=ih _ (fun h hh=>hl h (by simp[hh])) hc2
   refine⟨i1,fun o=>?_⟩
   rw[i2,b1,Xw]
   constructor
   ·rintro ((h|h)|⟨k,hk,h⟩)
    ·exact .inl h
    ·exact .inr ⟨a,by simp,by rw[J9 hx];exact h⟩
    ·exact .inr ⟨k,by simp[hk],h⟩
   ·rintro (h|⟨k,hk,h⟩)
    ·exact .inl (.inl h)
    ·rcases List.mem_cons.1 hk with rfl|hk
     ·rw[J9 hx]at h;exact .inl (.inr h)
     ·exact .inr ⟨k,hk,h⟩
 have:=(key l [] hl (fun n o ho=>by simp at ho)).2 o
 unfold ZRN;rw[this];simp
namespace Tr
mutual
def und(N:ZF):Tr->List Nat
 | .mk o _ _ _ k=>if o=0 then undO N k else Xd N (ZBq N o).h o
def undO(N:ZF):Option (List Tr)->List Nat
 | none=>[]
 | some l=>undL N l
def undL(N:ZF):List Tr->List Nat
 | []=>[]
 | t::l=>t.und N++undL N l
end
theorem undO_getD(N:ZF)(k:Option (List Tr)):undO N k=undL N (k.getD []):=by cases k<;>rfl
end Tr
theorem ZxB{N:ZF}{t:Tr}(hv:Val N t):∀(out:List Nat) (o:Nat),(∃k∈t.kwT out,o∈Xd N (ZBq N k).h k)↔(∃k∈out,o∈Xd N (ZBq N k).h k)\/o∈t.und N:=by
 induction hv with
 | @kept a h m k x h0 hx hok hh hm hk =>
  intro out o;rw[Tr.kwT,Tr.kwO_getD,hk,Tr.kwL,Tr.und,if_neg h0]
  by_cases q:a∈out
  ·rw[if_neg (fun w=>w.2 q)]
   constructor
   ·exact .inl
   ·rintro (h|h)
    ·exact h
    ·exact⟨a,q,h⟩
  ·rw[if_pos ⟨h0,q⟩]
   constructor
   ·rintro⟨k,hk,h⟩
    rcases List.mem_append.1 hk with hk|hk
    ·exact .inl ⟨k,hk,h⟩
    ·rw[List.mem_singleton]at hk;subst hk;exact .inr h
   ·rintro (⟨k,hk,h⟩|h)
    ·exact⟨k,by simp[hk],h⟩
    ·exact⟨a,by simp,h⟩
 | @leaf s k h1 h2 hk =>
  intro out o
  rw[Tr.kwT,Tr.kwO_getD,hk,Tr.kwL,Tr.und,if_pos rfl,Tr.undO_getD,hk,Tr.undL,if_neg (by simp)]
  simp
 | @inner h l hh h2 h4 hl hb hv ih =>
  intro out o
  rw[Tr.kwT,Tr.kwO,Tr.und,if_pos rfl,Tr.undO,if_neg (by simp)]
  have key:∀(l:List Tr),(∀t∈l,∀(out:List Nat) (o:Nat),(∃k∈t.kwT out,o∈Xd N (ZBq N k).h k)↔(∃k∈out,o∈Xd N (ZBq N k).h k)\/o∈t.und N)->∀(out:List Nat),(∃k∈Tr.kwL l out,o∈Xd N (ZBq N k).h k)↔(∃k∈out,o∈Xd N (ZBq N k).h k)\/o∈Tr.undL N l:=by
   intro l
   induction l with
   | nil=>intro _ out;rw[Tr.kwL,Tr.undL];simp
   | cons a l ihl =>
    intro hl out
    rw[Tr.kwL,Tr.undL,ihl (fun t ht=>hl t (by simp[ht])),hl a (by simp),List.mem_append,or_assoc]
  exact key l ih out
theorem Zu7{N:ZF}(hN:GoodN N)(hz:∀o x,lk N o=some x->o≠0){t:Tr}(hv:VE N t)(o:Nat):o∈ZRN N (t.kwT [])↔o∈t.und N:=by
 rw[Zsl hN _ (fun h hh=>(Zsj hz hv h hh).2)]
 rcases hv with h|h
 ·obtain⟨a,h',m,s,k⟩:=t
  obtain⟨h1,h2,h3,h4,h5⟩:=h
  simp only[Tr.old,Tr.h,Tr.m,Tr.text,Tr.ks]at *
  subst h1
  rw[Tr.kwT,Tr.kwO_getD,h5,Tr.kwL,Tr.und,if_pos rfl,Tr.undO_getD,h5,Tr.undL,if_neg (by simp)]
  simp
 ·rw[ZxB h];simp
theorem Zsm{N:ZF}(hN:GoodN N)(hz:∀o x,lk N o=some x->o≠0){r:Ro}(hr:RtOk N r){t:Tr}(hv:VE N t):ZU4 N r t=JI ((Zje N r).filter fun o=>decide (o∉t.und N)):=by
 unfold ZU4 Zje
 split
 ·rfl
 ·rename_i h0
  obtain⟨x,x1,x2,x3,x4⟩:∃x,lk N r.at_=some x/\NdOk x/\x.h=r.h/\x.mea=r.m:=by
   rcases hr with rfl|w
   ·exact absurd Y h0
   ·exact w.2
  rw[Zjj,<- x3,Zsk hN x1]
  refine List.filter_congr fun o _=>?_
  rw[decide_eq_decide,Zu7 hN hz hv]
theorem Zsn{N:ZF}(hN:GoodN N):∀n t,Val N t->t.h=n->XI N n t=t.und N:=by
 intro n
 induction n with
 | zero =>
  intro t hv hn
  cases hv with
  | kept h0 hx hok hh hm hk =>
   rename_i o h m k x
   simp only[Tr.h]at hn;subst hn
   show (if o=0 then [] else [o])=(if o=0 then Tr.undO N k else Xd N (ZBq N o).h o)
   rw[if_neg h0,if_neg h0,J9 hx,hh];rfl
  | leaf h1 h2 hk =>
   rename_i s k
   show (if (0:Nat)=0 then [] else [0])=(if (0:Nat)=0 then Tr.undO N k else Xd N (ZBq N 0).h 0)
   rw[if_pos rfl,if_pos rfl,Tr.undO_getD,hk];rfl
  | inner hh h2 h4 hl hb hv=>simp only[Tr.h]at hn;omega
 | succ n ih =>
  intro t hv hn
  obtain⟨c1,c2,c3,c4⟩:=QR hN hv (by omega)
  have key:∀l:List Tr,(∀c∈l,Val N c/\c.h=n)->l.flatMap (XI N n)=Tr.undL N l:=by
   intro l
   induction l with
   | nil=>intro _;rfl
   | cons a l ihl =>
    intro h
    rw[List.flatMap_cons,Tr.undL,ih a (h a (by simp)).1 (h a (by simp)).2,ihl fun c hc=>h c (by simp[hc])]
  have e:=key (Zh N t) (fun c hc=>⟨(c1 c hc).1,by have:=(c1 c hc).2.1;omega⟩)
  rw[XI,e]
  cases hv with
  | kept h0 hx hok hh hm hk =>
   rename_i o h m k x
   simp only[Tr.h]at hn;subst hn
   show (if o=0 then [] else [o])++_=(if o=0 then Tr.undO N k else Xd N (ZBq N o).h o)
   rw[if_neg h0,if_neg h0,J9 hx,hh,Xd,J9 hx];have hg:=(hN o x hx).2
   have e2:Zh N (.mk o (n+1) m [] k)=x.ks.map (YD n):=by simp only[Zh,if_neg h0,hx,hh,Nat.add_sub_cancel]
   rw[e2]
   have k2:∀ks:List Kid,(∀z∈ks,z∈x.ks)->Tr.undL N (ks.map (YD n))=ks.flatMap fun z=>Xd N n z.at_:=by
    intro ks
    induction ks with
    | nil=>intro _;rfl
    | cons z ks ihk =>
     intro h
     obtain⟨z0,y,y1,y2,_⟩:=hg z (h z (by simp))
     rw[jC,Tr.undL,List.flatMap_cons,ihk fun w hw=>h w (by simp[hw])]
     congr 1
     show (if z.at_=0 then Tr.undO N none else Xd N (ZBq N z.at_).h z.at_)=_
     rw[if_neg z0,J9 y1,show y.h=n by omega]
   rw[k2 _ fun _ h=>h];rfl
  | leaf h1 h2 hk=>simp only[Tr.h]at hn;omega
  | inner hh h2 h4 hl hb hv =>
   show (if (0:Nat)=0 then [] else [0])++_=(if (0:Nat)=0 then Tr.undO N _ else Xd N (ZBq N 0).h 0)
   rw[if_pos rfl,if_pos rfl];rfl
theorem ZmG{N:ZF}(hN:GoodN N)(hv:VE N t):ZTa N t=t.und N:=by
 rcases hv with h|h
 ·obtain⟨o,hh,m,s,k⟩:=t
  obtain⟨h1,h2,h3,h4,h5⟩:=h
  simp only[Tr.old,Tr.h,Tr.m,Tr.text,Tr.ks]at *
  subst h1 h2
  show (if (0:Nat)=0 then [] else [0])=(if (0:Nat)=0 then Tr.undO N k else Xd N (ZBq N 0).h 0)
  rw[if_pos rfl,if_pos rfl,Tr.undO_getD,h5];rfl
 ·exact Zsn hN _ t h Y
theorem Zq5{N:ZF}(hN:GoodN N){r:Ro}(h:RootOk N r):ZTa N (Tr.keep r)=Zje N r:=by
 rw[ZmG hN (Zjg h).1];unfold Zje
 rcases h with rfl|⟨x,h1,h2,h3,h4,h5⟩
 ·rfl
 ·rw[if_neg h3]
  show (if r.at_=0 then Tr.undO N none else Xd N (ZBq N r.at_).h r.at_)=_
  rw[if_neg h3,J9 h1,h4]
theorem RootOk.rt{N:ZF}{r:Ro}(h:RootOk N r):RtOk N r:=by
 rcases h with rfl|⟨x,h1,h2,h3,h4,h5⟩
 ·exact .inl Y
 ·exact .inr ⟨h3,x,h1,h2,h4,h5⟩
theorem ZoL{N:ZF}(hN:GoodN N)(hz:∀o x,lk N o=some x->o≠0){r:Ro}(hr:RootOk N r)(hv:VE N t):JI ((ZTa N (Tr.keep r)).filter fun h=>decide (h∉ZTa N t))=ZU4 N r t:=by
 rw[Zsm hN hz hr.rt hv,Zq5 hN hr,ZmG hN hv]
theorem Zp6{N:ZF}(h:VE N t):∃k:Int,(t.bytes=0->k=1)/\(t.bytes≠0->k≠1)/\∀st,S Tb QQ [t.av] st=some (.int .i64 k,st):=by
 by_cases hb:t.bytes=0
 ·exact⟨1,fun _=>rfl,fun q=>absurd hb q,ZBK t (h.empty hb)⟩
 ·obtain⟨k,h1,h2⟩:=(h.val hb).kindNe
  exact⟨k,fun q=>absurd q hb,fun _=>h1,h2⟩
theorem Zu8{N:ZF}{lv:Nat}(hr:Rd st lv ix N){x y:Tr}(hx:VE N x)(hy:VE N y)(hn:x.bytes=0\/y.bytes=0)(hb:x.bytes<=65536/\y.bytes<=65536):
 S Tb ZBb [.ptr lv ix 0 0 0,x.av,y.av,.bool false] st=some (.int .i64 2,st):=by
 refine Zj Y (fun A hA=>?_)
 have hrp:=fun L=>hr.push hA (ro:=false) (L:=L)
 have hC1:=fun L=>ZBn (hrp L) hx hb.1
 have hC2:=fun L=>ZBn (hrp L) hy hb.2
 obtain⟨k1,h1,h1',hK1⟩:=Zp6 hx;obtain⟨k2,h2,h2',hK2⟩:=Zp6 hy
 by_cases q:x.bytes=0
 ·obtain rfl:=h1 q
  repeat'(first|refine ruS Y ?_|refine isS Y ?_|refine rkS Y ?_|refine Qg Y Y ?_|(refine cm0 Y Y Y ?_ ?_<;>intro _<;>try omega)|(refine cm0 Y Y Y ?_ ?_<;>intro _<;>try omega)|(refine cm0 Y Y Y ?_ ?_<;>intro _<;>try omega)|refine ZL Y Y (by omega) ?_|refine ZJ Y Y Y ?_|refine Zk Y (ZG _) ?_|refine Z5 Y Y (ZG _) ?_|refine ZB Y Y Y (ZG _) ?_|refine Ze Y Y Y (Zn _ _ _) (Zx _ _) Y ?_|refine Za Y (ZQ _) (Zg _) ?_|refine ZAY Y Y ?_|refine Zr ?_|refine ZXK Y Y (by simp) Y (ZQ _) ?_|refine ZA Y Y (by first|rfl|(simp only[List.nil_append,List.append_nil,List.cons_append,ZH,ZC,ZE];first|done|rfl)) (hC1 _) ?_|refine ZA Y Y (by first|rfl|(simp only[List.nil_append,List.append_nil,List.cons_append,ZH,ZC,ZE];first|done|rfl)) (hC2 _) ?_|refine ZA Y Y (by first|rfl|(simp only[List.nil_append,List.append_nil,List.cons_append,ZH,ZC,ZE];first|done|rfl)) (hK1 _) ?_)
  all_goals try omega
  all_goals refine ZO hA (by simp) Y Y Y Y ?_
  all_goals rfl
 ·have n1:=h1' q
  obtain rfl:=h2 (by omega)
  repeat'(first|refine ruS Y ?_|refine isS Y ?_|refine rkS Y ?_|refine Qg Y Y ?_|(refine cm0 Y Y Y ?_ ?_<;>intro _<;>try omega)|(refine cm0 Y Y Y ?_ ?_<;>intro _<;>try omega)|(refine cm0 Y Y Y ?_ ?_<;>intro _<;>try omega)|refine ZL Y Y (by omega) ?_|refine ZJ Y Y Y ?_|refine Zk Y (ZG _) ?_|refine Z5 Y Y (ZG _) ?_|refine ZB Y Y Y (ZG _) ?_|refine Ze Y Y Y (Zn _ _ _) (Zx _ _) Y ?_|refine Za Y (ZQ _) (Zg _) ?_|refine ZAY Y Y ?_|refine Zr ?_|refine ZXK Y Y (by simp) Y (ZQ _) ?_|refine ZA Y Y (by first|rfl|(simp only[List.nil_append,List.append_nil,List.cons_append,ZH,ZC,ZE];first|done|rfl)) (hC1 _) ?_|refine ZA Y Y (by first|rfl|(simp only[List.nil_append,List.append_nil,List.cons_append,ZH,ZC,ZE];first|done|rfl)) (hC2 _) ?_|refine ZA Y Y (by first|rfl|(simp only[List.nil_append,List.append_nil,List.cons_append,ZH,ZC,ZE];first|done|rfl)) (hK1 _) ?_|refine ZA Y Y (by first|rfl|(simp only[List.nil_append,List.append_nil,List.cons_append,ZH,ZC,ZE];first|done|rfl)) (hK2 _) ?_)
  all_goals try omega
  all_goals refine ZO hA (by simp) Y Y Y Y ?_
  all_goals rfl
theorem Zso{N:ZF}{lv:Nat}(hr:Rd st lv ix N){x y:Tr}(hx:VE N x)(hy:VE N y)(hn:x.bytes=0\/y.bytes=0)(hb:x.bytes<=65536/\y.bytes<=65536):
 S Tb ZCO [.ptr lv ix 0 0 0,x.av,y.av] st=some (.tup [.lit [],.int .i64 2],st):=by
 refine Zj Y (fun A hA=>?_)
 have hrp:=fun L=>hr.push hA (ro:=false) (L:=L)
 have hBo:=fun L=>Zu8 (hrp L) hx hy hn hb
 repeat'(first|refine ruS Y ?_|refine isS Y ?_|refine rkS Y ?_|(refine cm0 Y Y Y ?_ ?_<;>intro _<;>try omega)|refine Z5 Y Y (ZG _) ?_|refine ZB Y Y Y (ZG _) ?_|refine Za Y (ZQ _) (Zg _) ?_|refine ZA Y Y (by first|rfl|(simp only[List.nil_append,List.append_nil,List.cons_append,ZH,ZC,ZE];first|done|rfl)) (hBo _) ?_)
 all_goals try omega
 refine ZO hA (by simp) Y Y Y Y ?_
 rfl
section
variable {O:Orc}{k:List Fr}{Q:Qn}{e:Env}{A:List (Bool × List Blk)}{L L0 T T':List Blk}{keep:List Nat}{is:List PI}{d:Nat}
theorem ZGv{js:List Nat}(hL:Jf (T++js.map Blk.hole)=some T')(h:Is O is keep k Q e ⟨A,false,L0++T'⟩):Ru O (.regH js keep is) k Q e ⟨A,false,L0++T⟩:=by
 rw[<- QP hL,<- List.append_assoc]at h;exact Zqc h
theorem ZBC{j:Nat}{v':AV}(hx:ZY e x=some v)(hw:v.wide=some w)(hv:YS v=some v')(hf:findH j T=some i)(hL:Jf (T.set i (Blk.arr w 0 [v']))=some T')(h:Is O is keep k Q ((d,.ptr A.length (L0.length+i) 0 0 0)::e) ⟨A,false,L0++T'⟩):
 Is O (⟨some d,none,false,.w (.here j) (.box x)⟩::is) keep k Q e ⟨A,false,L0++T⟩:=by
 rw[<- QP hL,<- ZWv,<- Yc hv]at h;refine Zq (v:=.ptr A.length (L0.length+i) 0 0 0) (st':=⟨A,false,(L0++T).set (L0.length+i) (Blk.arr w 0 [v])⟩) ?_ h;simp only[Zd,Zs,newOf,ZD hx,hw,Option.bind_some,ZcL,Zln,and_self,if_true,ZYx hf,ZcK]
end
theorem Zsp(b:Nat)(st:St)(t:Tr)(k:IntKind)(n:Int):Zb QK b st (.tup [t.av,.int k n])=some (.tup [t.av,.int k n],st):=by
 show (mapSt (Zb 5 b) _ _).bind ZcE=_
 rw[mapSt,XW 3];rfl
theorem Zsq(b:Nat)(st:St)(t u:Tr)(k:IntKind)(n:Int):Zb QK b st (.tup [t.av,u.av,.int k n])=some (.tup [t.av,u.av,.int k n],st):=by
 show (mapSt (Zb 5 b) _ _).bind ZcE=_
 rw[mapSt,XW 3];simp only[mapSt,Option.bind_some,XW 3];rfl
theorem Zq6{L:List Blk}{k:IntKind}{n:Int}(hc:S Tb g ws ⟨A++[(false,L)],false,[]⟩=some (.tup [t.av,.int k n],⟨A++[(false,L)],false,[]⟩)):Z4 (S Tb) .inner g ws ⟨A,false,L⟩=some (.tup [t.av,.int k n],⟨A,false,L⟩) :=
 ZGx (st:=⟨A,false,L⟩) hc (Zsp _ _ _ _ _)
theorem Zq7{L:List Blk}{u:Tr}{k:IntKind}{n:Int}(hc:S Tb g ws ⟨A++[(false,L)],false,[]⟩=some (.tup [t.av,u.av,.int k n],⟨A++[(false,L)],false,[]⟩)):Z4 (S Tb) .inner g ws ⟨A,false,L⟩=some (.tup [t.av,u.av,.int k n],⟨A,false,L⟩) :=
 ZGx (st:=⟨A,false,L⟩) hc (Zsq _ _ _ _ _ _)
theorem Rd.inner{L:List Blk}{lv:Nat}{N:ZF}(h:Rd ⟨A,false,L⟩ lv ix N):Rd ⟨A++[(false,L)],false,[]⟩ lv ix N:=h.push (st:=⟨A,false,L⟩) rfl
theorem Zcm{keep:List Nat}{is:List QAbs.PI}{d:Nat}{T:Tab}{f:Opd}{args:List Opd}{first cap vs:LV}{kd:IntKind}{n:Int}(hf:ZY e f=some (.func (.func g) first cap))(ha:ZF0 e args=some vs)(hw:ZE (ZH (first++vs++cap))=some ws)
 (hc:∀st,S T g ws st=some (.int kd n,st)) (h:Is (S T) is keep k Q ((d,.int kd n)::e) st):Is (S T) (⟨some d,none,false,.call .pin f args⟩::is) keep k Q e st:=by
 refine Zq (v:=.int kd n) (st':=st) ?_ h;have hi:Z4 (S T) .inner g ws st.allRo=some (.int kd n,st.allRo):=ZGx (st:=st.allRo) (hc _) rfl;have hi2:(S T g ws st.allRo.push).bind ZOB=some (.int kd n,st.allRo):=hi;simp only[Zd,ZD hf,YG ha,Xj,Qt hw,Z4,hi2,Option.bind_some,Z8]
section
variable {O:Orc}{k:List Fr}{Q:Qn}{e:Env}{A:List (Bool × List Blk)}{L:List Blk}{keep:List Nat}{is:List QAbs.PI}{d:Nat}{st:St}
theorem ZW8{i b:Opd}{s m:Nat}{n:Int}(hx:ZY e x=some (.ref A.length ix ver s m))(hb:ZY e b=some (.ref A.length ix v2 s2 m2))(hi:ZY e i=some (.int .i64 n))(hn:0<=n/\n<m)(hg:L[ix]?=some (Blk.arr w ver es))
 (h:Is O is keep k Q ((d,.ptr A.length ix ver (s+n.toNat) 0)::e) ⟨A,false,L⟩):Is O (⟨some d,none,false,.w (.only b) (.ixS w x i)⟩::is) keep k Q e ⟨A,false,L⟩:=by
 refine Zq (v:=.ptr A.length ix ver (s+n.toNat) 0) (st':=⟨A,false,L⟩) ?_ h
 have hgt:(St.hide (fun lv ix=>!YQ lv ix (b.get e)) ⟨A,false,L⟩).get A.length ix=some (Blk.arr w ver es):=by
  rw[XO,St.get_cur,hg,ZD hb]
  simp[YQ,vis]
 have hio:XB m (.int .i64 n)=some n.toNat:=by simp only[XB,if_pos hn]
 simp only[Zd,Zs,PO.reads,if_true,evalPO,ZD hx,ZD hi,ixSV,hio,hgt,wIs,Option.bind_some,Qe,Z8]
 simp[Qe,Z8]
theorem ZTb{a b:Opd}{agg:Bool}{x:AV}(ha:ZY e a=some (.ptr A.length ix ver i o))(hb:ZY e b=some (.ref A.length ix v2 s2 m2))
 (hg:L[ix]?=some (Blk.arr w ver es)) (hx:es[i]?=some x) (hv:Jn x agg o n=some v) (h:Is O is keep k Q ((d,v)::e) ⟨A,false,L⟩):Is O (⟨some d,none,false,.w (.only b) (.ld agg n a)⟩::is) keep k Q e ⟨A,false,L⟩:=by
 refine Zq (v:=v) (st':=⟨A,false,L⟩) ?_ h
 have hgt:(St.hide (fun lv ix=>!YQ lv ix (b.get e)) ⟨A,false,L⟩).get A.length ix=some (Blk.arr w ver es):=by
  rw[XO,St.get_cur,hg,ZD hb]
  simp[YQ,vis]
 simp only[Zd,Zs,PO.reads,if_true,evalPO,ZD ha,loadP,hgt,ZGp,hx,hv,Option.bind_some,Qe,Z8]
theorem ZoM{a b:Opd}{lv lv2 ix2:Nat}{vx:AV}(ha:ZY e a=some (.ptr lv ix ver i o))(hb:ZY e b=some (.ref lv2 ix2 v2 s2 m2))(hx:ZY e x=some vx)(hne:¬ (lv=lv2/\ix=ix2))(hh:ZA0 6 (lv+1) vx=true)
 (h:Is O (⟨none,none,false,.st n a x⟩::is) keep k Q e st):Is O (⟨none,none,false,.w (.off b) (.st n a x)⟩::is) keep k Q e st:=by
 refine ZwT ?_ h
 have hs:Zlq (.ref lv2 ix2 v2 s2 m2) (.ptr lv ix ver i o) vx=true:=by
  unfold Zlq;simp only[YQ,hh,Bool.and_true,Bool.not_eq_true',Bool.and_eq_false_iff,beq_eq_false_iff_ne,ne_eq]
  by_cases q:lv=lv2
  ·exact .inr fun z=>hne ⟨q,z⟩
  ·exact .inl q
 simp only[Zd,Zs,Zqn,ZD ha,ZD hb,ZD hx,hs,if_true]
end
theorem ZU5(t:Tr):t.own.own=t.own:=by
 induction t using Tr.ind with
 | step o h m s k ih =>
  rw[Tr.own,Tr.own]
  congr 1
  cases k with
  | none=>rw[Tr.ownO,Tr.ownO];rfl
  | some l =>
   rw[Tr.ownO,Tr.ownO,Tr.ownL_map,Tr.ownL_map,List.map_map]
   congr 1
   exact List.map_congr_left fun t ht=>ih t (by simpa using ht)
theorem ZTc:∀ {l:List Tr} {t:Tr},t∈l->(∀u∈l,0<=u.bytes)->t.bytes<=Tr.bytesL l/\0<=Tr.bytesL l
 | a::l,t,h,hp=>by
  have h0:0<=Tr.bytesL l:=by
   clear h
   cases l with
   | nil=>rw[Tr.bytesL];omega
   | cons b l=>exact (ZTc (t:=b) (by simp) fun u hu=>hp u (List.mem_cons_of_mem _ hu)).2
  have ha:=hp a (by simp)
  rw[Tr.bytesL]
  rcases List.mem_cons.1 h with rfl|h
  ·omega
  ·have:=(ZTc h fun u hu=>hp u (List.mem_cons_of_mem _ hu)).1
   omega
theorem ZoN{N:ZF}{x y:Tr}{r:List Tr}(h:MergeOk N x y r)(hx:0<=x.bytes)(hy:0<=y.bytes)(ht:t∈r):VE N t/\t.bytes<=x.bytes+y.bytes:=by
 refine⟨.inr (h.val t ht),?_⟩;rw[<- h.bytes]
 exact (ZTc ht fun u hu=>(h.val u hu).pos.2 |> fun q=>by omega).1
theorem Zjl(b:Nat)(t:Tr):ZA0 6 b t.av=true:=by
 obtain⟨o,h,m,s,k⟩:=t
 cases k<;>rfl
theorem ZmH(t:Tr):ZE (ZH ([]++[t.av]++[]))=some [t.av]:=by
 simp only[List.nil_append,List.append_nil,List.cons_append,ZH,ZC,ZE]
theorem Zsr{L:List Blk}(hc:S Tb g ws ⟨A++[(false,L)],false,[]⟩=some (t.av,⟨A++[(false,L)],false,[]⟩)):Z4 (S Tb) .inner g ws ⟨A,false,L⟩=some (t.av,⟨A,false,L⟩) :=
 ZGx (st:=⟨A,false,L⟩) hc (Zn _ _ _)
theorem Zu9(b:Nat)(st:St)(t u:Tr):Zb QK b st (.tup [t.av,u.av])=some (.tup [t.av,u.av],st):=by
 show (mapSt (Zb 5 b) _ _).bind ZcE=_
 rw[mapSt,XW 3];simp only[mapSt,Option.bind_some,XW 3];rfl
theorem Zss{L:List Blk}{u:Tr}(hc:S Tb g ws ⟨A++[(false,L)],false,[]⟩=some (.tup [t.av,u.av],⟨A++[(false,L)],false,[]⟩)):Z4 (S Tb) .inner g ws ⟨A,false,L⟩=some (.tup [t.av,u.av],⟨A,false,L⟩) :=
 ZGx (st:=⟨A,false,L⟩) hc (Zu9 _ _ _ _)
theorem RRd.inner{L:List Blk}{lv:Nat}{N:ZF}(h:RRd ⟨A,false,L⟩ lv ix N):RRd ⟨A++[(false,L)],false,[]⟩ lv ix N:=h.push (st:=⟨A,false,L⟩) rfl
theorem ZmI{N:ZF}(hl:N.length<4294967296){lv:Nat}(hr:RRd st lv ix N){x y:Tr}(hx:VE N x)(hy:VE N y)(hn:x.bytes=0\/y.bytes=0)(h1:x.bytes<=65536)(h2:y.bytes<=65536):
 S Tb JE [.ptr lv ix 0 0 0,x.av,y.av] st=some (.tup [.lit [],.int .i64 2],st):=by
 by_cases q:x.bytes=0
 ·exact Znh hl hr (hx.empty q) hy h2
 ·exact Zni hl hr (hx.val q) (hy.empty (by omega)) h1
theorem Zq8(st:St):S Tb YN [.lit [],.lit []] st=some (.bool true,st) :=
 Zp2 [] [] (by decide) (by simp) rfl st
theorem ZvA{N:ZF}{r:Ro}(h:RootOk N r){lv:Nat}(hr:Rd st lv ix N):S Tb XQ [.ptr lv ix 0 0 0,r.av] st=some (.tup [(Tr.keep r).av,.int .i64 0],st):=by
 rcases h with rfl|⟨x,h1,h2,h3,h4,h5⟩
 ·exact Zi2
 ·exact Ztm hr h1 h2 h3 h4 h5
theorem ZoO(r:Ro):(Tr.keep r).bytes=r.m.b:=by simp[Tr.keep,Tr.bytes,Tr.bytesO]
def ZTd(N:ZF):AV:=.agg [.int .i64 700,.int .i64 ((700-N.length:Nat):Int),.int .i64 N.length,.int .i64 0,.int .i64 N.length,.int .i64 0,.int .i64 0]
theorem ZoP{lv it:Nat}{N:ZF}(hN:N.length<=700)(h0:st.get lv b=some (r0 lv b N.length))(h4:st.get lv (b+4)=some (r4 lv b it N)):S Tb JJ [.ptr lv (b+4) 0 0 0] st=some (ZTd N,st):=by
 refine Zj Y (fun A hA=>?_)
 have g0:=fun L=>ZS hA (ro:=false) (L:=L) h0
 have g4:=fun L=>ZS hA (ro:=false) (L:=L) h4
 unfold r0 at g0;unfold r4 at g4
 cases N with
 | nil =>
  repeat'(first|refine ruS Y ?_|refine isS Y ?_|refine ZB Y Y Y Y ?_|refine rkS Y ?_|refine Zp Y ?_|refine QG Y ?_|refine QC Y Y (by omega) ?_|refine QD Y Y Y Y ?_|refine ZJ Y Y Y ?_|refine Ze Y Y Y Y Y Y ?_|refine Z1 Y (g4 _) Y Y ?_|refine Z1 Y (g0 _) Y Y ?_)
  all_goals refine JL hA (by simp) Y Y Y Y Y ?_
  all_goals rfl
 | cons p N =>
  have hN2:N.length+1<=700:=hN
  have h5:(700:Int)-((700-(p::N).length:Nat):Int)-((N.length+1:Nat):Int)=0:=by simp only[List.length_cons];omega
  repeat'(first|refine ruS Y ?_|refine isS Y ?_|refine ZB Y Y Y Y ?_|refine rkS Y ?_|refine Zp Y ?_|refine QC Y Y (by omega) ?_|refine QD Y Y Y Y ?_|refine ZJ Y Y Y ?_|refine Ze Y Y Y Y Y Y ?_|refine Z1 Y (g4 _) Y Y ?_|refine Z1 Y (g0 _) Y Y ?_)
  all_goals refine JL hA (by simp) Y Y Y Y Y ?_
  all_goals show AV.agg [.int .i64 700,.int .i64 ((700-(p::N).length:Nat):Int),.int .i64 ((N.length+1:Nat):Int),.int .i64 ((700:Int)-((700-(p::N).length:Nat):Int)-((N.length+1:Nat):Int)),.int .i64 ((p::N).length:Nat),.int .i64 0,.int .i64 0]=_
  all_goals rw[h5]
  all_goals rfl
theorem wkPT{lv:Nat}:ZE (ZH ([]++[.ptr lv ix 0 0 0,t.av]++[]))=some [.ptr lv ix 0 0 0,t.av]:=by
 simp only[List.nil_append,List.append_nil,List.cons_append,ZH,ZC,ZE];rfl
section
variable {O:Orc}{k:List Fr}{Q:Qn}{e:Env}{A:List (Bool × List Blk)}{L:List Blk}{keep:List Nat}{is:List PI}{d:Nat}
theorem ZBZ{y:Opd}{a:Nat}{c:Int}(hx:ZY e x=some (.int .u8 a))(hy:ZY e y=some (.int .u8 c))(hc:c=b)(hw:0<b)(h:Is O is keep k Q ((d,.int .u8 ((a % b:Nat):Int))::e) st):Is O (⟨some d,none,false,.bin .rem x y⟩::is) keep k Q e st:=by
 subst hc;refine ZGO hx hy ?_ h
 show (if (b:Int)=0 then none else some (AV.int .u8 ((a:Int).tmod b)))=_
 rw[if_neg (by omega),Int.tmod_eq_emod_of_nonneg (by omega),<- Int.natCast_emod]
theorem Zst{y:Opd}{z1 z2 u:AV}(hx:ZY e x=some v)(hy:ZY e y=some u)(hw:v.wide=some w)(hw2:u.wide=some w)(hi:imm 6 v=true)(hi2:imm 6 u=true)(h:Is O is keep k Q ((d,.lit [v,u])::e) st):Is O (⟨some d,none,false,.w .imm (.bslice false w [z1,z2] [(0,x),(1,y)])⟩::is) keep k Q e st:=by
 refine ZYt (v:=.lit [v,u]) (st':=st) ?_ h
 have hf:fillE w [z1,z2] [(0,v),(1,u)]=some [v,u]:=by simp[fillE,hw,hw2]
 simp only[Zs,Zlo,JU,ZD hx,ZD hy,hf,Option.bind_some,ZcM,List.all_cons,List.all_nil,hi,hi2,Bool.and_self,if_true,List.isEmpty_cons,jB,if_false]
theorem ZDC{s:Opd}{m:Nat}{ts ys:List Tr}(hs:ZY e s=some (.ref A.length ix ver 0 m))(hg:L[ix]?=some (.arr 7 ver es))(hm:m<=ts.length)(he:ts.length<=es.length)(hx:ZY e x=some (.lit (ys.map Tr.av)))(hl:m+ys.length<4294967296)
 (h:Is O is keep k Q ((d,.ref A.length ix (ver+1) 0 (ts.take m++ys).length)::e) ⟨A,false,L.set ix (.arr 7 (ver+1) (es.take m++ys.map Tr.av))⟩):Is O (⟨some d,none,false,.app 7 80 s x⟩::is) keep k Q e ⟨A,false,L⟩:=by
 have hlt:ix<L.length:=by
  rw[List.getElem?_eq_some_iff]at hg;exact hg.1
 rw[List.length_append,List.length_take,Nat.min_eq_left hm]at h;refine Zq (v:=.ref A.length ix (ver+1) 0 (m+ys.length)) (st':=⟨A,false,L.set ix (.arr 7 (ver+1) (es.take m++ys.map Tr.av))⟩) ?_ h
 simp only[Zd,evalPO,ZD hs,ZD hx,elems,Option.bind_some,Q4,JB,if_true,ZWo,Zf4,St.get_cur,hg,vis,ZRL,true_and,List.length_map,if_pos (show 0+m<=es.length/\m+ys.length<4294967296/\80<=4096 by omega),St.put,if_false,jB,if_pos hlt,List.drop_zero]
theorem ZOF{y:Opd}{m:Nat}{n:Int}{ts:List Tr}(hx:ZY e x=some (.ref A.length ix ver 0 ts.length))(hy:ZY e y=some (.int .i64 n))(hn:0<=n/\n<=ts.length)(hm:m=n.toNat)(hg:L[ix]?=some (Blk.arr w ver es))(h:Is O is keep k Q ((d,.ref A.length ix ver 0 m)::e) ⟨A,false,L⟩):Is O (⟨some d,none,false,.slc w x none (some y)⟩::is) keep k Q e ⟨A,false,L⟩:=by
 subst hm
 exact ZAF hx hy hn (by rw[St.get_cur,hg];simp[wIs,vis]) h
end
structure RInv(N:ZF)(l:List Stp)(i:Nat)(es:LV)(ts:List Tr):Prop where
 le:i<=l.length
 es:es.take ts.length=ts.map Tr.av
 vb:∀t∈ts,VE N t/\t.bytes<=3000+200*i
 len:ts.length<=i
theorem RInv.elen{N:ZF}{l:List Stp}{ts:List Tr}(h:RInv N l i es ts):ts.length<=es.length:=by
 have:=congrArg List.length h.es
 rw[List.length_take,List.length_map]at this;omega
theorem RInv.get{N:ZF}{l:List Stp}{ts:List Tr}(h:RInv N l i es ts){j:Nat}(hj:ts[j]?=some t):es[j]?=some t.av:=by
 have hlt:=(List.getElem?_eq_some_iff.1 hj).1
 have h1:(es.take ts.length)[j]?=some t.av:=by rw[h.es,jG,hj];rfl
 rwa [List.getElem?_take,if_pos hlt]at h1
theorem RInv.step{N:ZF}{l:List Stp}{ts:List Tr}(h:RInv N l i es ts)(hi:i<l.length){m:Nat}(hm:m<=ts.length)(ps:List Tr)(hp:∀t∈ps,VE N t/\t.bytes<=3000+200*i+200)(hl:m+ps.length<=ts.length+1):
 RInv N l (i+1) (es.take m++ps.map Tr.av) (ts.take m++ps):=by
 have he:=h.elen
 have e1:es.take m=(ts.take m).map Tr.av:=by
  have:=congrArg (List.take m) h.es
  rw[List.take_take,Nat.min_eq_left hm,<- List.map_take]at this;exact this
 refine⟨hi,?_,fun t ht=>?_,?_⟩
 ·rw[e1,<- List.map_append,List.take_of_length_le (by simp)]
 ·rcases List.mem_append.1 ht with w|w
  ·have:=h.vb t (List.mem_of_mem_take w)
   exact⟨this.1,by omega⟩
  ·have:=hp t w
   exact⟨this.1,by omega⟩
 ·have:=h.len
  rw[List.length_append,List.length_take];omega
theorem RInv.pop{N:ZF}{l:List Stp}{ts:List Tr}(h:RInv N l i es ts)(hi:i<l.length){m:Nat}(hm:m<=ts.length):RInv N l (i+1) es (ts.take m):=by
 have e1:es.take m=(ts.take m).map Tr.av:=by
  have:=congrArg (List.take m) h.es
  rw[List.take_take,Nat.min_eq_left hm,<- List.map_take]at this;exact this
 refine⟨hi,?_,fun t ht=>?_,?_⟩
 ·rw[List.length_take,Nat.min_eq_left hm,e1]
 ·have:=h.vb t (List.mem_of_mem_take ht)
  exact⟨this.1,by omega⟩
 ·have:=h.len
  rw[List.length_take];omega
theorem RInv.same{N:ZF}{l:List Stp}{ts:List Tr}(h:RInv N l i es ts)(hi:i<l.length):RInv N l (i+1) es ts:=by
 have:=h.pop hi (Nat.le_refl _)
 rwa [List.take_length]at this
theorem ZvB{L:List Blk}{x:Ex}{a:Nat}{ts:List Tr}{y:Bool}(hA:A=st.A++[(st.ro,st.L)])(hx:x=.norm\/x=.ret)(ha:JV e a=some (.ref A.length ix ver 0 ts.length))(hb:JV e b=some (.bool y))
 (hres:([RV.s a,RV.s b]:List RV)=[.s a,.s b]) (hg:L[ix]?=some (.arr 7 ver es)) (hn:ts.length<=es.length) (he:es.take ts.length=ts.map Tr.av):Jp false [.s a,.s b] (x,e,⟨A,false,L⟩)=some (.tup [.lit (ts.map Tr.av),.bool y],st):=by
 refine ZGP (v:=.tup [.ref A.length ix ver 0 ts.length,.bool y]) (ro:=false) (L':=L.set ix .dead) hA hx ?_ ?_ Y
 ·simp only[Qo,ZC8,ZCJ,Z9 ha,Z9 hb,Option.bind_some,Option.map_some,ZGq]
 ·refine Ziq (m:=5) (Zir (n:=4) hg (by omega) ?_) (by intro z hz;rw[List.mem_singleton]at hz;rw[hz];rfl)
  rw[List.drop_zero,he];exact Zi0 2 0 _ ts
theorem ZmJ:∀ {l:List Nat} {n:Nat},n∈l->n<=l.sum
 | m::l,n,h=>by
  rw[List.sum_cons]
  rcases List.mem_cons.1 h with rfl|h
  ·omega
  ·have:=ZmJ h;omega
theorem Zwh{lv:Nat}{n:Int}:ZE (ZH ([]++[.ptr lv ix 0 0 0,t.av,.int .i64 n]++[]))=some [.ptr lv ix 0 0 0,t.av,.int .i64 n]:=by
 simp only[List.nil_append,List.append_nil,List.cons_append,ZH,ZC,ZE];rfl
theorem ZvC{N:ZF}(hN:GoodN N)(h32:N.length<4294967296)(hR:∀L,Rd ⟨A,false,L⟩ la ixa N)(hB:∀L,RRd ⟨A,false,L⟩ lb ixb N){rs:List Ro}
 (hrv:(rv=.nils/\rs=[])\/(rv=.ref kl kx vr 0 rs.length/\rs≠[]/\∀L,St.get ⟨A,false,L⟩ kl kx=some (.arr 5 vr (rs.map Ro.av)))) (hrs:∀r∈rs,RootOk N r/\r.m.b<=900) (hrl:rs.length<65536) (l:List Stp) (hl:l.length<=30) (ht:∀s∈l,s.text.length<=200)
 {i ver:Nat} {es:LV} {ts:List Tr} {G:List Blk} (inv:RInv N l i es ts) (hlt:i<l.length) {y:Stp} (hy:l[i]?=some y) (hw:0=y.what % 8) {k:List Fr} {Q:Qn}
 (hnext:∀ver' es' ts' G',RInv N l (i+1) es' ts'->Rk (S Tb) k Q .norm [(1,.lit (l.map Stp.av)),(2,.ptr A.length 0 0 0 0),(6,.ref A.length 1 ver' 0 ts'.length),(7,.int .i64 ((i+1:Nat):Int))] ⟨A,false,.arr 3 0 [.agg [.ptr la ixa 0 0 0,.ptr lb ixb 0 0 0,rv]]::.arr 7 ver' es'::G'⟩) :
 Ru (S Tb) p_quartolaw15_Laid_both_59 k Q [(1,.lit (l.map Stp.av)),(2,.ptr A.length 0 0 0 0),(6,.ref A.length 1 ver 0 ts.length),(7,.int .i64 i)] ⟨A,false,.arr 3 0 [.agg [.ptr la ixa 0 0 0,.ptr lb ixb 0 0 0,rv]]::.arr 7 ver es::G⟩:=by
 have hile:=inv.le;have hele:=inv.elen;have htl:=inv.len
 have hl1:∀ {m:Nat} {c:Tr} (h:m<=ts.length),m+[c].length<4294967296:=fun h=>by rw[List.length_singleton];omega
 have hy1:0<=((i:Nat):Int)/\l[((i:Nat):Int).toNat]?=some y:=⟨by omega,by rw[show ((i:Nat):Int).toNat=i by omega];exact hy⟩
 have hs:=ht y (jM hy)
 have e0:∀L:List Blk,(⟨A,false,L⟩:St)=⟨A,false,L++[]⟩:=fun L=>by rw[List.append_nil]
 rw[e0 (.arr 3 0 [.agg [.ptr la ixa 0 0 0,.ptr lb ixb 0 0 0,rv]]::.arr 7 ver es::G)]
 have hyw:∀(st:St) (e:Env) (x:Opd) (d:Nat) (keep:List Nat) (is:List QAbs.PI) (k:List Fr) (Q:Qn),ZY e x=some (.int .u8 y.what)->Is (S Tb) is keep k Q ((d,.int .u8 (0:Nat))::e) st->Is (S Tb) (⟨some d,none,false,.bin .rem x (.v (.int .u8 8))⟩::is) keep k Q e st:=fun st e x d keep is k Q hx h=>ZBZ (b:=8) hx rfl rfl (by decide) (by rw[<- hw];exact h)
 rcases hrv with⟨rfl,rfl⟩|⟨rfl,hne,gr⟩
 ·repeat'(first|refine Yu Y ?_|refine Z6 (f:=Stp.av) Y Y hy1 (fun _=>rfl) ?_|refine QW Y Y Y Y Y ?_|refine QI Y Y Y Y ?_|refine QO Y Y Y Y Y Y Y ?_|refine hyw _ _ _ _ _ _ _ _ Y ?_|refine ruS Y ?_|refine isS Y ?_|refine ZB Y Y Y Y ?_|refine rkS Y ?_|refine Zp Y ?_|refine QG Y ?_|refine Zk Y Y ?_|(refine cm0 Y Y Y ?_ ?_<;>intro _<;>try omega)|refine ZL Y Y (by omega) ?_)
  all_goals try first|contradiction|omega
  exact hnext ver es ts _ (inv.same (by omega))
 ·have hwi:∀L,wIs 5 vr (St.get ⟨A,false,L⟩ kl kx)=true:=fun L=>by rw[gr];simp[wIs]
  have hrp:0<rs.length:=List.length_pos_iff.2 hne
  have hpk:=ZAx (x:=y.n) (n:=(rs.length:Int)-1) (by omega)
  have hPk:=fun st=>ZW1 y.n ((rs.length:Int)-1) (by omega) (by omega) st
  obtain⟨r,hr⟩:∃r,rs[(ZQz y.n ((rs.length:Int)-1)).toNat]?=some r:=⟨rs[(ZQz y.n ((rs.length:Int)-1)).toNat]'(by omega),by rw[jE]⟩
  have gr2:(rs.map Ro.av)[0+(ZQz y.n ((rs.length:Int)-1)).toNat]?=some r.av:=by rw[Nat.zero_add,jG,hr];rfl
  obtain⟨h1,h2⟩:=hrs r (jM hr)
  have hK:=fun L=>ZvA h1 (hR L)
  have hK2:=fun L=>Zrv h32 (hB L) h1
  have hve:=(Zjg h1).1;have hby:(Tr.keep r).bytes=r.m.b:=ZoO r
  have hSa:=fun st=>ZBP (Tr.keep r) hve.pos.1 (Tr.keep r) rfl st
  generalize Tr.keep r=c at *
  repeat'(first|refine Yu Y ?_|refine Z6 (f:=Stp.av) Y Y hy1 (fun _=>rfl) ?_|refine QW Y Y Y Y Y ?_|refine QI Y Y Y Y ?_|refine QO Y Y Y Y Y Y Y ?_|refine hyw _ _ _ _ _ _ _ _ Y ?_|refine Zp Y ?_|refine JA Y Y (by omega) (hwi _) ?_|refine Z1 Y (gr _) gr2 (ZRI _) ?_|refine ZGv Y ?_|refine ZBC Y Y Y Y Y ?_|refine QI Y Y Y (ZG _) ?_|refine QO Y Y Y Y (Zn _ _ _) (Zx _ _) Y ?_|refine Y4 Y ?_|refine ZDC (ts:=ts) (ys:=[c]) Y Y (Nat.le_refl _) hele Y (hl1 (Nat.le_refl _)) ?_|refine ruS Y ?_|refine isS Y ?_|refine ZB Y Y Y Y ?_|refine rkS Y ?_|refine Zk Y Y ?_|(refine cm0 Y Y Y ?_ ?_<;>intro _<;>try omega)|(refine cm0 Y Y Y ?_ ?_<;>intro _<;>try omega)|(refine cm0 Y Y Y ?_ ?_<;>intro _<;>try omega)|refine ZL Y Y (by omega) ?_|refine QC Y Y (by omega) ?_|refine Zcm Y Y Y hPk ?_|refine ZA Y Y (by first|rfl|(simp only[List.nil_append,List.append_nil,List.cons_append,ZH,ZC,ZE];first|done|rfl)) (hK _) ?_|refine ZA Y Y (by first|rfl|(simp only[List.nil_append,List.append_nil,List.cons_append,ZH,ZC,ZE];first|done|rfl)) (hK2 _) ?_|refine ZA Y Y (by first|rfl|(simp only[List.nil_append,List.append_nil,List.cons_append,ZH,ZC,ZE];first|done|rfl)) (hSa _) ?_)
  all_goals try first|contradiction|omega
  refine hnext (ver+1) _ (ts.take (ts.length)++[c]) _ (inv.step (by omega) (Nat.le_refl _) [c] ?_ (by simp only[List.length_cons,List.length_nil];omega))
  intro t ht;rw[List.mem_singleton]at ht;subst ht
  exact⟨hve,by omega⟩
theorem ZvD{N:ZF}(hN:GoodN N)(h32:N.length<4294967296)(hR:∀L,Rd ⟨A,false,L⟩ la ixa N)(hB:∀L,RRd ⟨A,false,L⟩ lb ixb N){rs:List Ro}
 (hrv:(rv=.nils/\rs=[])\/(rv=.ref kl kx vr 0 rs.length/\rs≠[]/\∀L,St.get ⟨A,false,L⟩ kl kx=some (.arr 5 vr (rs.map Ro.av)))) (hrs:∀r∈rs,RootOk N r/\r.m.b<=900) (hrl:rs.length<65536) (l:List Stp) (hl:l.length<=30) (ht:∀s∈l,s.text.length<=200)
 {i ver:Nat} {es:LV} {ts:List Tr} {G:List Blk} (inv:RInv N l i es ts) (hlt:i<l.length) {y:Stp} (hy:l[i]?=some y) (hw:1=y.what % 8) {k:List Fr} {Q:Qn}
 (hnext:∀ver' es' ts' G',RInv N l (i+1) es' ts'->Rk (S Tb) k Q .norm [(1,.lit (l.map Stp.av)),(2,.ptr A.length 0 0 0 0),(6,.ref A.length 1 ver' 0 ts'.length),(7,.int .i64 ((i+1:Nat):Int))] ⟨A,false,.arr 3 0 [.agg [.ptr la ixa 0 0 0,.ptr lb ixb 0 0 0,rv]]::.arr 7 ver' es'::G'⟩) :
 Ru (S Tb) p_quartolaw15_Laid_both_59 k Q [(1,.lit (l.map Stp.av)),(2,.ptr A.length 0 0 0 0),(6,.ref A.length 1 ver 0 ts.length),(7,.int .i64 i)] ⟨A,false,.arr 3 0 [.agg [.ptr la ixa 0 0 0,.ptr lb ixb 0 0 0,rv]]::.arr 7 ver es::G⟩:=by
 have hile:=inv.le;have hele:=inv.elen;have htl:=inv.len
 have hl1:∀ {m:Nat} {c:Tr} (h:m<=ts.length),m+[c].length<4294967296:=fun h=>by rw[List.length_singleton];omega
 have hy1:0<=((i:Nat):Int)/\l[((i:Nat):Int).toNat]?=some y:=⟨by omega,by rw[show ((i:Nat):Int).toNat=i by omega];exact hy⟩
 have hs:=ht y (jM hy)
 have e0:∀L:List Blk,(⟨A,false,L⟩:St)=⟨A,false,L++[]⟩:=fun L=>by rw[List.append_nil]
 rw[e0 (.arr 3 0 [.agg [.ptr la ixa 0 0 0,.ptr lb ixb 0 0 0,rv]]::.arr 7 ver es::G)]
 have hyw:∀(st:St) (e:Env) (x:Opd) (d:Nat) (keep:List Nat) (is:List QAbs.PI) (k:List Fr) (Q:Qn),ZY e x=some (.int .u8 y.what)->Is (S Tb) is keep k Q ((d,.int .u8 (1:Nat))::e) st->Is (S Tb) (⟨some d,none,false,.bin .rem x (.v (.int .u8 8))⟩::is) keep k Q e st:=fun st e x d keep is k Q hx h=>ZBZ (b:=8) hx rfl rfl (by decide) (by rw[<- hw];exact h)
 have hBu:=fun st=>ZlP hN y.text (by omega) st
 have hB2:=fun st=>ZUq hN y.text (by omega) st
 obtain⟨hve,_,hby⟩:=ZIL hN (s:=y.text) (by omega)
 generalize Xt y.text=c at *
 have hSa:=fun st=>ZBP c hve.pos.1 c rfl st
 repeat'(first|refine Yu Y ?_|refine Z6 (f:=Stp.av) Y Y hy1 (fun _=>rfl) ?_|refine QW Y Y Y Y Y ?_|refine QI Y Y Y Y ?_|refine QO Y Y Y Y Y Y Y ?_|refine hyw _ _ _ _ _ _ _ _ Y ?_|refine QI Y Y Y (ZG _) ?_|refine QO Y Y Y Y (Zn _ _ _) (Zx _ _) Y ?_|refine Y4 Y ?_|refine ZDC (ts:=ts) (ys:=[c]) Y Y (Nat.le_refl _) hele Y (hl1 (Nat.le_refl _)) ?_|refine ruS Y ?_|refine isS Y ?_|refine rkS Y ?_|refine Zp Y ?_|refine Zk Y Y ?_|(refine cm0 Y Y Y ?_ ?_<;>intro _<;>try omega)|(refine cm0 Y Y Y ?_ ?_<;>intro _<;>try omega)|(refine cm0 Y Y Y ?_ ?_<;>intro _<;>try omega)|refine ZL Y Y (by omega) ?_|refine ZA Y Y (by first|rfl|(simp only[List.nil_append,List.append_nil,List.cons_append,ZH,ZC,ZE];first|done|rfl)) (hBu _) ?_|refine Zw Y Y Y (hB2 _) ?_|refine ZA Y Y (by first|rfl|(simp only[List.nil_append,List.append_nil,List.cons_append,ZH,ZC,ZE];first|done|rfl)) (hSa _) ?_)
 all_goals try first|contradiction|omega
 refine hnext (ver+1) _ (ts.take (ts.length)++[c]) _ (inv.step (by omega) (Nat.le_refl _) [c] ?_ (by simp only[List.length_cons,List.length_nil];omega))
 intro t ht;rw[List.mem_singleton]at ht;subst ht
 exact⟨hve,by omega⟩
theorem ZvE{N:ZF}(hN:GoodN N)(h32:N.length<4294967296)(hR:∀L,Rd ⟨A,false,L⟩ la ixa N)(hB:∀L,RRd ⟨A,false,L⟩ lb ixb N){rs:List Ro}
 (hrv:(rv=.nils/\rs=[])\/(rv=.ref kl kx vr 0 rs.length/\rs≠[]/\∀L,St.get ⟨A,false,L⟩ kl kx=some (.arr 5 vr (rs.map Ro.av)))) (hrs:∀r∈rs,RootOk N r/\r.m.b<=900) (hrl:rs.length<65536) (l:List Stp) (hl:l.length<=30) (ht:∀s∈l,s.text.length<=200)
 {i ver:Nat} {es:LV} {ts:List Tr} {G:List Blk} (inv:RInv N l i es ts) (hlt:i<l.length) {y:Stp} (hy:l[i]?=some y) (hw:2=y.what % 8) {k:List Fr} {Q:Qn}
 (hnext:∀ver' es' ts' G',RInv N l (i+1) es' ts'->Rk (S Tb) k Q .norm [(1,.lit (l.map Stp.av)),(2,.ptr A.length 0 0 0 0),(6,.ref A.length 1 ver' 0 ts'.length),(7,.int .i64 ((i+1:Nat):Int))] ⟨A,false,.arr 3 0 [.agg [.ptr la ixa 0 0 0,.ptr lb ixb 0 0 0,rv]]::.arr 7 ver' es'::G'⟩) :
 Ru (S Tb) p_quartolaw15_Laid_both_59 k Q [(1,.lit (l.map Stp.av)),(2,.ptr A.length 0 0 0 0),(6,.ref A.length 1 ver 0 ts.length),(7,.int .i64 i)] ⟨A,false,.arr 3 0 [.agg [.ptr la ixa 0 0 0,.ptr lb ixb 0 0 0,rv]]::.arr 7 ver es::G⟩:=by
 have hile:=inv.le;have hele:=inv.elen;have htl:=inv.len
 have hl1:∀ {m:Nat} {c:Tr} (h:m<=ts.length),m+[c].length<4294967296:=fun h=>by rw[List.length_singleton];omega
 have hy1:0<=((i:Nat):Int)/\l[((i:Nat):Int).toNat]?=some y:=⟨by omega,by rw[show ((i:Nat):Int).toNat=i by omega];exact hy⟩
 have hs:=ht y (jM hy)
 have e0:∀L:List Blk,(⟨A,false,L⟩:St)=⟨A,false,L++[]⟩:=fun L=>by rw[List.append_nil]
 rw[e0 (.arr 3 0 [.agg [.ptr la ixa 0 0 0,.ptr lb ixb 0 0 0,rv]]::.arr 7 ver es::G)]
 have hyw:∀(st:St) (e:Env) (x:Opd) (d:Nat) (keep:List Nat) (is:List QAbs.PI) (k:List Fr) (Q:Qn),ZY e x=some (.int .u8 y.what)->Is (S Tb) is keep k Q ((d,.int .u8 (2:Nat))::e) st->Is (S Tb) (⟨some d,none,false,.bin .rem x (.v (.int .u8 8))⟩::is) keep k Q e st:=fun st e x d keep is k Q hx h=>ZBZ (b:=8) hx rfl rfl (by decide) (by rw[<- hw];exact h)
 by_cases h2:ts.length<2
 ·repeat'(first|refine Yu Y ?_|refine Z6 (f:=Stp.av) Y Y hy1 (fun _=>rfl) ?_|refine QW Y Y Y Y Y ?_|refine QI Y Y Y Y ?_|refine QO Y Y Y Y Y Y Y ?_|refine hyw _ _ _ _ _ _ _ _ Y ?_|refine ruS Y ?_|refine isS Y ?_|refine rkS Y ?_|refine Zp Y ?_|refine Zk Y Y ?_|(refine cm0 Y Y Y ?_ ?_<;>intro _<;>try omega)|refine ZL Y Y (by omega) ?_)
  all_goals try first|contradiction|omega
  all_goals exact hnext ver es ts _ (inv.same (by omega))
 obtain⟨x,hx⟩:∃x,ts[ts.length-1]?=some x:=⟨ts[ts.length-1]'(by omega),by simp[show ts.length-1<ts.length by omega]⟩
 obtain⟨vx,bx⟩:=inv.vb x (jM hx)
 have gx:es[0+((ts.length:Int)-1).toNat]?=some x.av:=by rw[show 0+((ts.length:Int)-1).toNat=ts.length-1 by omega];exact inv.get hx
 have px:=vx.pos.2
 have hWx:=fun st=>Q3 vx (by omega) st
 obtain⟨z,hz⟩:∃z,ts[ts.length-2]?=some z:=⟨ts[ts.length-2]'(by omega),by simp[show ts.length-2<ts.length by omega]⟩
 obtain⟨vz,bz⟩:=inv.vb z (jM hz)
 have gz:es[0+((ts.length:Int)-2).toNat]?=some z.av:=by rw[show 0+((ts.length:Int)-2).toNat=ts.length-2 by omega];exact inv.get hz
 have pz:=vz.pos.2
 have hWz:=fun st=>Q3 vz (by omega) st
 have hCc:=fun L=>Ztv hN (hR L) vz vx (by omega)
 have hC2:=fun L=>Znd hN h32 (hB L) vz vx (by omega)
 have hok:=X1 hN vz vx (by omega)
 have hve:=hok.ve;have hby:=hok.bytes
 have hSa:=fun st=>ZBP (JY N z x).own (ZW7 hve).pos.1 (JY N z x) (ZU5 _) st
 generalize (JY N z x).own=d at *
 generalize JY N z x=c at *
 by_cases h3:x.bytes+z.bytes > 3000
 ·repeat'(first|refine Yu Y ?_|refine Z6 (f:=Stp.av) Y Y hy1 (fun _=>rfl) ?_|refine QW Y Y Y Y Y ?_|refine QI Y Y Y Y ?_|refine QO Y Y Y Y Y Y Y ?_|refine hyw _ _ _ _ _ _ _ _ Y ?_|refine Xe Y Y (by omega) Y ?_|refine ZB Y Y gx (ZG _) ?_|refine ZB Y Y gz (ZG _) ?_|refine ruS Y ?_|refine isS Y ?_|refine rkS Y ?_|refine Zp Y ?_|refine Zk Y Y ?_|(refine cm0 Y Y Y ?_ ?_<;>intro _<;>try omega)|(refine cm0 Y Y Y ?_ ?_<;>intro _<;>try omega)|(refine cm0 Y Y Y ?_ ?_<;>intro _<;>try omega)|refine ZL Y Y (by omega) ?_|refine QC Y Y (by omega) ?_|refine Zw Y Y (ZmH _) (hWx _) ?_|refine ZA Y Y (by first|rfl|(simp only[List.nil_append,List.append_nil,List.cons_append,ZH,ZC,ZE];first|done|rfl)) (hWz _) ?_)
  all_goals try first|contradiction|omega
  all_goals exact hnext ver es ts _ (inv.same (by omega))
 repeat'(first|refine Yu Y ?_|refine Z6 (f:=Stp.av) Y Y hy1 (fun _=>rfl) ?_|refine QW Y Y Y Y Y ?_|refine QI Y Y Y Y ?_|refine QO Y Y Y Y Y Y Y ?_|refine hyw _ _ _ _ _ _ _ _ Y ?_|refine Xe Y Y (by omega) Y ?_|refine ZB Y Y gx (ZG _) ?_|refine ZW8 Y Y Y (by omega) Y ?_|refine ZTb Y Y Y gx (ZG _) ?_|refine ZoM Y Y Y (by simp) (Zjl _ _) ?_|refine ZB Y Y gz (ZG _) ?_|refine ZGv Y ?_|refine ZBC Y Y Y Y Y ?_|refine QI Y Y Y (ZG _) ?_|refine QO Y Y Y Y (Zn _ _ _) (Zx _ _) Y ?_|refine Zfr Y (ZQ _) (ZYv 4 _) ?_|refine ZOF (m:=ts.length-2) Y Y (by omega) (by omega) Y ?_|refine ZDC (ts:=ts) (ys:=[c]) Y Y (by omega) hele Y (hl1 (by omega)) ?_|refine ruS Y ?_|refine isS Y ?_|refine ZB Y Y Y Y ?_|refine rkS Y ?_|refine Zp Y ?_|refine Zk Y Y ?_|(refine cm0 Y Y Y ?_ ?_<;>intro _<;>try omega)|(refine cm0 Y Y Y ?_ ?_<;>intro _<;>try omega)|(refine cm0 Y Y Y ?_ ?_<;>intro _<;>try omega)|(refine cm0 Y Y Y ?_ ?_<;>intro _<;>try omega)|refine ZL Y Y (by omega) ?_|refine QC Y Y (by omega) ?_|refine Zw Y Y (ZmH _) (hWx _) ?_|refine ZA Y Y (by first|rfl|(simp only[List.nil_append,List.append_nil,List.cons_append,ZH,ZC,ZE];first|done|rfl)) (hWz _) ?_|refine ZA Y Y (by first|rfl|(simp only[List.nil_append,List.append_nil,List.cons_append,ZH,ZC,ZE];first|done|rfl)) (hCc _) ?_|refine ZA Y Y (by first|rfl|(simp only[List.nil_append,List.append_nil,List.cons_append,ZH,ZC,ZE];first|done|rfl)) (hC2 _) ?_|refine ZA Y Y (by first|rfl|(simp only[List.nil_append,List.append_nil,List.cons_append,ZH,ZC,ZE];first|done|rfl)) (hSa _) ?_)
 all_goals try first|contradiction|omega
 refine hnext (ver+1) _ (ts.take (ts.length-2)++[c]) _ (inv.step (by omega) (by omega) [c] ?_ (by simp only[List.length_cons,List.length_nil];omega))
 intro t ht;rw[List.mem_singleton]at ht;subst ht
 exact⟨hve,by omega⟩
theorem ZvF{N:ZF}(hN:GoodN N)(h32:N.length<4294967296)(hR:∀L,Rd ⟨A,false,L⟩ la ixa N)(hB:∀L,RRd ⟨A,false,L⟩ lb ixb N){rs:List Ro}
 (hrv:(rv=.nils/\rs=[])\/(rv=.ref kl kx vr 0 rs.length/\rs≠[]/\∀L,St.get ⟨A,false,L⟩ kl kx=some (.arr 5 vr (rs.map Ro.av)))) (hrs:∀r∈rs,RootOk N r/\r.m.b<=900) (hrl:rs.length<65536) (l:List Stp) (hl:l.length<=30) (ht:∀s∈l,s.text.length<=200)
 {i ver:Nat} {es:LV} {ts:List Tr} {G:List Blk} (inv:RInv N l i es ts) (hlt:i<l.length) {y:Stp} (hy:l[i]?=some y) (hw:3=y.what % 8) {k:List Fr} {Q:Qn}
 (hnext:∀ver' es' ts' G',RInv N l (i+1) es' ts'->Rk (S Tb) k Q .norm [(1,.lit (l.map Stp.av)),(2,.ptr A.length 0 0 0 0),(6,.ref A.length 1 ver' 0 ts'.length),(7,.int .i64 ((i+1:Nat):Int))] ⟨A,false,.arr 3 0 [.agg [.ptr la ixa 0 0 0,.ptr lb ixb 0 0 0,rv]]::.arr 7 ver' es'::G'⟩) :
 Ru (S Tb) p_quartolaw15_Laid_both_59 k Q [(1,.lit (l.map Stp.av)),(2,.ptr A.length 0 0 0 0),(6,.ref A.length 1 ver 0 ts.length),(7,.int .i64 i)] ⟨A,false,.arr 3 0 [.agg [.ptr la ixa 0 0 0,.ptr lb ixb 0 0 0,rv]]::.arr 7 ver es::G⟩:=by
 have hile:=inv.le;have hele:=inv.elen;have htl:=inv.len
 have hl1:∀ {m:Nat} {c:Tr} (h:m<=ts.length),m+[c].length<4294967296:=fun h=>by rw[List.length_singleton];omega
 have hy1:0<=((i:Nat):Int)/\l[((i:Nat):Int).toNat]?=some y:=⟨by omega,by rw[show ((i:Nat):Int).toNat=i by omega];exact hy⟩
 have hs:=ht y (jM hy)
 have e0:∀L:List Blk,(⟨A,false,L⟩:St)=⟨A,false,L++[]⟩:=fun L=>by rw[List.append_nil]
 rw[e0 (.arr 3 0 [.agg [.ptr la ixa 0 0 0,.ptr lb ixb 0 0 0,rv]]::.arr 7 ver es::G)]
 have hyw:∀(st:St) (e:Env) (x:Opd) (d:Nat) (keep:List Nat) (is:List QAbs.PI) (k:List Fr) (Q:Qn),ZY e x=some (.int .u8 y.what)->Is (S Tb) is keep k Q ((d,.int .u8 (3:Nat))::e) st->Is (S Tb) (⟨some d,none,false,.bin .rem x (.v (.int .u8 8))⟩::is) keep k Q e st:=fun st e x d keep is k Q hx h=>ZBZ (b:=8) hx rfl rfl (by decide) (by rw[<- hw];exact h)
 by_cases h2:ts.length<2
 ·repeat'(first|refine Yu Y ?_|refine Z6 (f:=Stp.av) Y Y hy1 (fun _=>rfl) ?_|refine QW Y Y Y Y Y ?_|refine QI Y Y Y Y ?_|refine QO Y Y Y Y Y Y Y ?_|refine hyw _ _ _ _ _ _ _ _ Y ?_|refine ruS Y ?_|refine isS Y ?_|refine rkS Y ?_|refine Zp Y ?_|refine Zk Y Y ?_|(refine cm0 Y Y Y ?_ ?_<;>intro _<;>try omega)|refine ZL Y Y (by omega) ?_)
  all_goals try first|contradiction|omega
  all_goals exact hnext ver es ts _ (inv.same (by omega))
 obtain⟨x,hx⟩:∃x,ts[ts.length-1]?=some x:=⟨ts[ts.length-1]'(by omega),by simp[show ts.length-1<ts.length by omega]⟩
 obtain⟨vx,bx⟩:=inv.vb x (jM hx)
 have gx:es[0+((ts.length:Int)-1).toNat]?=some x.av:=by rw[show 0+((ts.length:Int)-1).toNat=ts.length-1 by omega];exact inv.get hx
 have px:=vx.pos.2
 have hWx:=fun st=>Q3 vx (by omega) st
 obtain⟨z,hz⟩:∃z,ts[ts.length-2]?=some z:=⟨ts[ts.length-2]'(by omega),by simp[show ts.length-2<ts.length by omega]⟩
 obtain⟨vz,bz⟩:=inv.vb z (jM hz)
 have gz:es[0+((ts.length:Int)-2).toNat]?=some z.av:=by rw[show 0+((ts.length:Int)-2).toNat=ts.length-2 by omega];exact inv.get hz
 have pz:=vz.pos.2
 have hWz:=fun st=>Q3 vz (by omega) st
 by_cases h3:x.bytes+z.bytes > 3000
 ·repeat'(first|refine Yu Y ?_|refine Z6 (f:=Stp.av) Y Y hy1 (fun _=>rfl) ?_|refine QW Y Y Y Y Y ?_|refine QI Y Y Y Y ?_|refine QO Y Y Y Y Y Y Y ?_|refine hyw _ _ _ _ _ _ _ _ Y ?_|refine Xe Y Y (by omega) Y ?_|refine ZB Y Y gx (ZG _) ?_|refine ZB Y Y gz (ZG _) ?_|refine ruS Y ?_|refine isS Y ?_|refine rkS Y ?_|refine Zp Y ?_|refine Zk Y Y ?_|(refine cm0 Y Y Y ?_ ?_<;>intro _<;>try omega)|(refine cm0 Y Y Y ?_ ?_<;>intro _<;>try omega)|(refine cm0 Y Y Y ?_ ?_<;>intro _<;>try omega)|refine ZL Y Y (by omega) ?_|refine QC Y Y (by omega) ?_|refine Zw Y Y (ZmH _) (hWx _) ?_|refine ZA Y Y (by first|rfl|(simp only[List.nil_append,List.append_nil,List.cons_append,ZH,ZC,ZE];first|done|rfl)) (hWz _) ?_)
  all_goals try first|contradiction|omega
  all_goals exact hnext ver es ts _ (inv.same (by omega))
 by_cases hn:z.bytes=0\/x.bytes=0
 ·have hM:=fun L=>Zso (hR L) vz vx hn (by omega)
  have hM2:=fun L=>ZmI h32 (hB L) vz vx hn (by omega) (by omega)
  have hTr:=fun st=>Zq8 st
  repeat'(first|refine Yu Y ?_|refine Z6 (f:=Stp.av) Y Y hy1 (fun _=>rfl) ?_|refine QW Y Y Y Y Y ?_|refine QI Y Y Y Y ?_|refine QO Y Y Y Y Y Y Y ?_|refine hyw _ _ _ _ _ _ _ _ Y ?_|refine Xe Y Y (by omega) Y ?_|refine ZB Y Y gx (ZG _) ?_|refine ZW8 Y Y Y (by omega) Y ?_|refine ZTb Y Y Y gx (ZG _) ?_|refine ZoM Y Y Y (by simp) (Zjl _ _) ?_|refine ZB Y Y gz (ZG _) ?_|refine ZGv Y ?_|refine ZBC Y Y Y Y Y ?_|refine QI Y Y Y (ZG _) ?_|refine QO Y Y Y Y (Zn _ _ _) (Zx _ _) Y ?_|refine ruS Y ?_|refine isS Y ?_|refine ZB Y Y Y Y ?_|refine rkS Y ?_|refine Zp Y ?_|refine Zk Y Y ?_|(refine cm0 Y Y Y ?_ ?_<;>intro _<;>try omega)|(refine cm0 Y Y Y ?_ ?_<;>intro _<;>try omega)|(refine cm0 Y Y Y ?_ ?_<;>intro _<;>try omega)|(refine cm0 Y Y Y ?_ ?_<;>intro _<;>try omega)|refine ZL Y Y (by omega) ?_|refine QC Y Y (by omega) ?_|refine Zw Y Y (ZmH _) (hWx _) ?_|refine ZA Y Y (by first|rfl|(simp only[List.nil_append,List.append_nil,List.cons_append,ZH,ZC,ZE];first|done|rfl)) (hWz _) ?_|refine ZA Y Y (by first|rfl|(simp only[List.nil_append,List.append_nil,List.cons_append,ZH,ZC,ZE];first|done|rfl)) (hM _) ?_|refine ZA Y Y (by first|rfl|(simp only[List.nil_append,List.append_nil,List.cons_append,ZH,ZC,ZE];first|done|rfl)) (hM2 _) ?_|refine ZA Y Y (by first|rfl|(simp only[List.nil_append,List.append_nil,List.cons_append,ZH,ZC,ZE];first|done|rfl)) (hTr _) ?_)
  all_goals try first|contradiction|omega
  all_goals exact hnext ver es ts _ (inv.same (by omega))
 have wz:=vz.val (by omega)
 have wx:=vx.val (by omega)
 have hM:=fun L=>Zwa hN (hR L) wz wx (by omega)
 have hM2:=fun L=>Zpk hN h32 (hB L) wz wx (by omega)
 have hok:=Jd hN (z.h+x.h) z x wz wx rfl;have hml:=hok.len
 have hmv:=fun t ht=>ZoN hok pz px (t:=t) ht
 have hTr:=fun st=>Zp2 ((QV N (z.h+x.h) z x).map Tr.own) (QV N (z.h+x.h) z x) (by rw[List.length_map];omega) (fun t ht=>by obtain⟨u,hu,rfl⟩:=List.mem_map.1 ht;exact (ZW7 (hmv u hu).1).pos.1) (by rw[List.map_map];exact List.map_congr_left fun t _=>ZU5 t) st
 generalize (QV N (z.h+x.h) z x).map Tr.own=cs' at *
 generalize QV N (z.h+x.h) z x=cs at *
 repeat'(first|refine Yu Y ?_|refine Z6 (f:=Stp.av) Y Y hy1 (fun _=>rfl) ?_|refine QW Y Y Y Y Y ?_|refine QI Y Y Y Y ?_|refine QO Y Y Y Y Y Y Y ?_|refine hyw _ _ _ _ _ _ _ _ Y ?_|refine Xe Y Y (by omega) Y ?_|refine ZB Y Y gx (ZG _) ?_|refine ZW8 Y Y Y (by omega) Y ?_|refine ZTb Y Y Y gx (ZG _) ?_|refine ZoM Y Y Y (by simp) (Zjl _ _) ?_|refine ZB Y Y gz (ZG _) ?_|refine ZGv Y ?_|refine ZBC Y Y Y Y Y ?_|refine QI Y Y Y (ZG _) ?_|refine QO Y Y Y Y (Zn _ _ _) (Zx _ _) Y ?_|refine ZOF (m:=ts.length-2) Y Y (by omega) (by omega) Y ?_|refine ZDC (ts:=ts) (ys:=cs) Y Y (by omega) hele Y (by omega) ?_|refine ruS Y ?_|refine isS Y ?_|refine ZB Y Y Y Y ?_|refine rkS Y ?_|refine Zp Y ?_|refine Zk Y Y ?_|(refine cm0 Y Y Y ?_ ?_<;>intro _<;>try omega)|(refine cm0 Y Y Y ?_ ?_<;>intro _<;>try omega)|(refine cm0 Y Y Y ?_ ?_<;>intro _<;>try omega)|(refine cm0 Y Y Y ?_ ?_<;>intro _<;>try omega)|refine ZL Y Y (by omega) ?_|refine QC Y Y (by omega) ?_|refine Zw Y Y (ZmH _) (hWx _) ?_|refine ZA Y Y (by first|rfl|(simp only[List.nil_append,List.append_nil,List.cons_append,ZH,ZC,ZE];first|done|rfl)) (hWz _) ?_|refine ZA Y Y (by first|rfl|(simp only[List.nil_append,List.append_nil,List.cons_append,ZH,ZC,ZE];first|done|rfl)) (hM _) ?_|refine ZA Y Y (by first|rfl|(simp only[List.nil_append,List.append_nil,List.cons_append,ZH,ZC,ZE];first|done|rfl)) (hM2 _) ?_|refine ZA Y Y (by first|rfl|(simp only[List.nil_append,List.append_nil,List.cons_append,ZH,ZC,ZE];first|done|rfl)) (hTr _) ?_)
 all_goals try first|contradiction|omega
 refine hnext (ver+1) _ (ts.take (ts.length-2)++cs) _ (inv.step (by omega) (by omega) cs ?_ (by omega))
 intro t ht
 have:=hmv t ht
 exact⟨this.1,by omega⟩
theorem ZvG{N:ZF}(hN:GoodN N)(h32:N.length<4294967296)(hR:∀L,Rd ⟨A,false,L⟩ la ixa N)(hB:∀L,RRd ⟨A,false,L⟩ lb ixb N){rs:List Ro}
 (hrv:(rv=.nils/\rs=[])\/(rv=.ref kl kx vr 0 rs.length/\rs≠[]/\∀L,St.get ⟨A,false,L⟩ kl kx=some (.arr 5 vr (rs.map Ro.av)))) (hrs:∀r∈rs,RootOk N r/\r.m.b<=900) (hrl:rs.length<65536) (l:List Stp) (hl:l.length<=30) (ht:∀s∈l,s.text.length<=200)
 {i ver:Nat} {es:LV} {ts:List Tr} {G:List Blk} (inv:RInv N l i es ts) (hlt:i<l.length) {y:Stp} (hy:l[i]?=some y) (hw:4=y.what % 8) {k:List Fr} {Q:Qn}
 (hnext:∀ver' es' ts' G',RInv N l (i+1) es' ts'->Rk (S Tb) k Q .norm [(1,.lit (l.map Stp.av)),(2,.ptr A.length 0 0 0 0),(6,.ref A.length 1 ver' 0 ts'.length),(7,.int .i64 ((i+1:Nat):Int))] ⟨A,false,.arr 3 0 [.agg [.ptr la ixa 0 0 0,.ptr lb ixb 0 0 0,rv]]::.arr 7 ver' es'::G'⟩) :
 Ru (S Tb) p_quartolaw15_Laid_both_59 k Q [(1,.lit (l.map Stp.av)),(2,.ptr A.length 0 0 0 0),(6,.ref A.length 1 ver 0 ts.length),(7,.int .i64 i)] ⟨A,false,.arr 3 0 [.agg [.ptr la ixa 0 0 0,.ptr lb ixb 0 0 0,rv]]::.arr 7 ver es::G⟩:=by
 have hile:=inv.le;have hele:=inv.elen;have htl:=inv.len
 have hl1:∀ {m:Nat} {c:Tr} (h:m<=ts.length),m+[c].length<4294967296:=fun h=>by rw[List.length_singleton];omega
 have hy1:0<=((i:Nat):Int)/\l[((i:Nat):Int).toNat]?=some y:=⟨by omega,by rw[show ((i:Nat):Int).toNat=i by omega];exact hy⟩
 have hs:=ht y (jM hy)
 have e0:∀L:List Blk,(⟨A,false,L⟩:St)=⟨A,false,L++[]⟩:=fun L=>by rw[List.append_nil]
 rw[e0 (.arr 3 0 [.agg [.ptr la ixa 0 0 0,.ptr lb ixb 0 0 0,rv]]::.arr 7 ver es::G)]
 have hyw:∀(st:St) (e:Env) (x:Opd) (d:Nat) (keep:List Nat) (is:List QAbs.PI) (k:List Fr) (Q:Qn),ZY e x=some (.int .u8 y.what)->Is (S Tb) is keep k Q ((d,.int .u8 (4:Nat))::e) st->Is (S Tb) (⟨some d,none,false,.bin .rem x (.v (.int .u8 8))⟩::is) keep k Q e st:=fun st e x d keep is k Q hx h=>ZBZ (b:=8) hx rfl rfl (by decide) (by rw[<- hw];exact h)
 by_cases h2:ts.length<1
 ·repeat'(first|refine Yu Y ?_|refine Z6 (f:=Stp.av) Y Y hy1 (fun _=>rfl) ?_|refine QW Y Y Y Y Y ?_|refine QI Y Y Y Y ?_|refine QO Y Y Y Y Y Y Y ?_|refine hyw _ _ _ _ _ _ _ _ Y ?_|refine ruS Y ?_|refine isS Y ?_|refine rkS Y ?_|refine Zp Y ?_|refine Zk Y Y ?_|(refine cm0 Y Y Y ?_ ?_<;>intro _<;>try omega)|refine ZL Y Y (by omega) ?_)
  all_goals try first|contradiction|omega
  all_goals exact hnext ver es ts _ (inv.same (by omega))
 obtain⟨x,hx⟩:∃x,ts[ts.length-1]?=some x:=⟨ts[ts.length-1]'(by omega),by simp[show ts.length-1<ts.length by omega]⟩
 obtain⟨vx,bx⟩:=inv.vb x (jM hx)
 have gx:es[0+((ts.length:Int)-1).toNat]?=some x.av:=by rw[show 0+((ts.length:Int)-1).toNat=ts.length-1 by omega];exact inv.get hx
 have px:=vx.pos.2
 have hWx:=fun st=>Q3 vx (by omega) st
 have hpk:=ZAx (x:=y.at_) (n:=x.bytes) px
 have hPk:=fun st=>ZW1 y.at_ x.bytes px (by omega) st
 generalize ZQz y.at_ x.bytes=a at *
 have hCu:=fun L=>Zq7 (ZxR hN (hR L).inner vx a hpk.1 hpk.2 (by omega))
 have hC2:=fun L=>Zss (ZUs hN h32 x.h (hB L).inner vx rfl a hpk.1 hpk.2 (by omega))
 have hok:=ZBU hN x.h x a vx rfl hpk.1 hpk.2 (by omega)
 have hb1:=hok.lb;have hb3:=hok.rb;have hv1:=hok.l;have hv3:=hok.r
 have hS1:=fun st=>ZBP (Jg N x.h x a).1.own (ZW7 hv1).pos.1 (Jg N x.h x a).1 (ZU5 _) st
 have hS2:=fun st=>ZBP (Jg N x.h x a).2.own (ZW7 hv3).pos.1 (Jg N x.h x a).2 (ZU5 _) st
 generalize (Jg N x.h x a).1.own=c' at *
 generalize (Jg N x.h x a).2.own=d' at *
 generalize (Jg N x.h x a).1=c at *
 generalize (Jg N x.h x a).2=d at *
 have hl2:ts.length-1+[c,d].length<4294967296:=by simp only[List.length_cons,List.length_nil];omega
 repeat'(first|refine Yu Y ?_|refine Z6 (f:=Stp.av) Y Y hy1 (fun _=>rfl) ?_|refine QW Y Y Y Y Y ?_|refine QI Y Y Y Y ?_|refine QO Y Y Y Y Y Y Y ?_|refine hyw _ _ _ _ _ _ _ _ Y ?_|refine Xe Y Y (by omega) Y ?_|refine ZB Y Y gx (ZG _) ?_|refine ZGv Y ?_|refine ZBC Y Y Y Y Y ?_|refine QI Y Y Y (ZG _) ?_|refine QO Y Y Y Y (Zn _ _ _) (Zx _ _) Y ?_|refine Zst Y Y (ZQ _) (ZQ _) (ZYv 4 _) (ZYv 4 _) ?_|refine ZOF (m:=ts.length-1) Y Y (by omega) (by omega) Y ?_|refine ZDC (ts:=ts) (ys:=[c,d]) Y Y (by omega) hele Y hl2 ?_|refine ruS Y ?_|refine isS Y ?_|refine ZB Y Y Y Y ?_|refine rkS Y ?_|refine Zp Y ?_|refine Zk Y Y ?_|(refine cm0 Y Y Y ?_ ?_<;>intro _<;>try omega)|(refine cm0 Y Y Y ?_ ?_<;>intro _<;>try omega)|(refine cm0 Y Y Y ?_ ?_<;>intro _<;>try omega)|refine ZL Y Y (by omega) ?_|refine QC Y Y (by omega) ?_|refine Zw Y Y (ZmH _) (hWx _) ?_|refine ZA Y Y (by first|rfl|(simp only[List.nil_append,List.append_nil,List.cons_append,ZH,ZC,ZE];first|done|rfl)) (hPk _) ?_|refine YT Y Y Zwh (hCu _) ?_|refine YT Y Y Zwh (hC2 _) ?_|refine ZA Y Y (by first|rfl|(simp only[List.nil_append,List.append_nil,List.cons_append,ZH,ZC,ZE];first|done|rfl)) (hS1 _) ?_|refine ZA Y Y (by first|rfl|(simp only[List.nil_append,List.append_nil,List.cons_append,ZH,ZC,ZE];first|done|rfl)) (hS2 _) ?_)
 all_goals try first|contradiction|omega
 refine hnext (ver+1) _ (ts.take (ts.length-1)++[c,d]) _ (inv.step (by omega) (by omega) [c,d] ?_ (by simp only[List.length_cons,List.length_nil];omega))
 intro t ht;simp only[List.mem_cons,List.not_mem_nil,or_false]at ht
 rcases ht with rfl|rfl
 ·exact⟨hv1,by omega⟩
 ·exact⟨hv3,by omega⟩
theorem ZvH{N:ZF}(hN:GoodN N)(h32:N.length<4294967296)(hR:∀L,Rd ⟨A,false,L⟩ la ixa N)(hB:∀L,RRd ⟨A,false,L⟩ lb ixb N){rs:List Ro}
 (hrv:(rv=.nils/\rs=[])\/(rv=.ref kl kx vr 0 rs.length/\rs≠[]/\∀L,St.get ⟨A,false,L⟩ kl kx=some (.arr 5 vr (rs.map Ro.av)))) (hrs:∀r∈rs,RootOk N r/\r.m.b<=900) (hrl:rs.length<65536) (l:List Stp) (hl:l.length<=30) (ht:∀s∈l,s.text.length<=200)
 {i ver:Nat} {es:LV} {ts:List Tr} {G:List Blk} (inv:RInv N l i es ts) (hlt:i<l.length) {y:Stp} (hy:l[i]?=some y) (hw:5=y.what % 8) {k:List Fr} {Q:Qn}
 (hnext:∀ver' es' ts' G',RInv N l (i+1) es' ts'->Rk (S Tb) k Q .norm [(1,.lit (l.map Stp.av)),(2,.ptr A.length 0 0 0 0),(6,.ref A.length 1 ver' 0 ts'.length),(7,.int .i64 ((i+1:Nat):Int))] ⟨A,false,.arr 3 0 [.agg [.ptr la ixa 0 0 0,.ptr lb ixb 0 0 0,rv]]::.arr 7 ver' es'::G'⟩) :
 Ru (S Tb) p_quartolaw15_Laid_both_59 k Q [(1,.lit (l.map Stp.av)),(2,.ptr A.length 0 0 0 0),(6,.ref A.length 1 ver 0 ts.length),(7,.int .i64 i)] ⟨A,false,.arr 3 0 [.agg [.ptr la ixa 0 0 0,.ptr lb ixb 0 0 0,rv]]::.arr 7 ver es::G⟩:=by
 have hile:=inv.le;have hele:=inv.elen;have htl:=inv.len
 have hl1:∀ {m:Nat} {c:Tr} (h:m<=ts.length),m+[c].length<4294967296:=fun h=>by rw[List.length_singleton];omega
 have hy1:0<=((i:Nat):Int)/\l[((i:Nat):Int).toNat]?=some y:=⟨by omega,by rw[show ((i:Nat):Int).toNat=i by omega];exact hy⟩
 have hs:=ht y (jM hy)
 have e0:∀L:List Blk,(⟨A,false,L⟩:St)=⟨A,false,L++[]⟩:=fun L=>by rw[List.append_nil]
 rw[e0 (.arr 3 0 [.agg [.ptr la ixa 0 0 0,.ptr lb ixb 0 0 0,rv]]::.arr 7 ver es::G)]
 have hyw:∀(st:St) (e:Env) (x:Opd) (d:Nat) (keep:List Nat) (is:List QAbs.PI) (k:List Fr) (Q:Qn),ZY e x=some (.int .u8 y.what)->Is (S Tb) is keep k Q ((d,.int .u8 (5:Nat))::e) st->Is (S Tb) (⟨some d,none,false,.bin .rem x (.v (.int .u8 8))⟩::is) keep k Q e st:=fun st e x d keep is k Q hx h=>ZBZ (b:=8) hx rfl rfl (by decide) (by rw[<- hw];exact h)
 by_cases h2:ts.length<1
 ·repeat'(first|refine Yu Y ?_|refine Z6 (f:=Stp.av) Y Y hy1 (fun _=>rfl) ?_|refine QW Y Y Y Y Y ?_|refine QI Y Y Y Y ?_|refine QO Y Y Y Y Y Y Y ?_|refine hyw _ _ _ _ _ _ _ _ Y ?_|refine ruS Y ?_|refine isS Y ?_|refine rkS Y ?_|refine Zp Y ?_|refine Zk Y Y ?_|(refine cm0 Y Y Y ?_ ?_<;>intro _<;>try omega)|refine ZL Y Y (by omega) ?_)
  all_goals try first|contradiction|omega
  all_goals exact hnext ver es ts _ (inv.same (by omega))
 obtain⟨x,hx⟩:∃x,ts[ts.length-1]?=some x:=⟨ts[ts.length-1]'(by omega),by simp[show ts.length-1<ts.length by omega]⟩
 obtain⟨vx,bx⟩:=inv.vb x (jM hx)
 have gx:es[0+((ts.length:Int)-1).toNat]?=some x.av:=by rw[show 0+((ts.length:Int)-1).toNat=ts.length-1 by omega];exact inv.get hx
 have px:=vx.pos.2
 have hWx:=fun st=>Q3 vx (by omega) st
 have hpk:=ZAx (x:=y.at_) (n:=x.bytes) px
 have hPk:=fun st=>ZW1 y.at_ x.bytes px (by omega) st
 generalize ZQz y.at_ x.bytes=a at *
 have hpk2:=ZAx (x:=y.n) (n:=x.bytes-a) (by omega)
 have hPk2:=fun st=>ZW1 y.n (x.bytes-a) (by omega) (by omega) st
 generalize ZQz y.n (x.bytes-a)=b at *
 have hRe:=fun L=>Zq6 (Zrl hN (hR L).inner vx (a:=a) (n:=b) (s:=y.text) hpk.1 hpk2.1 (by omega) (by omega) (by omega))
 have hR2:=fun L=>Zsr (ZiE hN h32 (hB L).inner vx a b y.text hpk.1 hpk2.1 (by omega) (by omega) (by omega))
 have hok:=ZnX hN vx (a:=a) (n:=b) (s:=y.text) hpk.1 hpk2.1 (by omega) (by omega) (by omega)
 have hve:=hok.ve;have hby:=hok.bytes
 have hSa:=fun st=>ZBP (ZCH N x a b y.text).own (ZW7 hve).pos.1 (ZCH N x a b y.text) (ZU5 _) st
 generalize (ZCH N x a b y.text).own=d at *
 generalize ZCH N x a b y.text=c at *
 repeat'(first|refine Yu Y ?_|refine Z6 (f:=Stp.av) Y Y hy1 (fun _=>rfl) ?_|refine QW Y Y Y Y Y ?_|refine QI Y Y Y Y ?_|refine QO Y Y Y Y Y Y Y ?_|refine hyw _ _ _ _ _ _ _ _ Y ?_|refine Xe Y Y (by omega) Y ?_|refine ZB Y Y gx (ZG _) ?_|refine ZGv Y ?_|refine ZBC Y Y Y Y Y ?_|refine QI Y Y Y (ZG _) ?_|refine QO Y Y Y Y (Zn _ _ _) (Zx _ _) Y ?_|refine Zfr Y (ZQ _) (ZYv 4 _) ?_|refine ZOF (m:=ts.length-1) Y Y (by omega) (by omega) Y ?_|refine ZDC (ts:=ts) (ys:=[c]) Y Y (by omega) hele Y (hl1 (by omega)) ?_|refine ruS Y ?_|refine isS Y ?_|refine ZB Y Y Y Y ?_|refine rkS Y ?_|refine Zp Y ?_|refine Zk Y Y ?_|(refine cm0 Y Y Y ?_ ?_<;>intro _<;>try omega)|(refine cm0 Y Y Y ?_ ?_<;>intro _<;>try omega)|(refine cm0 Y Y Y ?_ ?_<;>intro _<;>try omega)|refine ZL Y Y (by omega) ?_|refine QC Y Y (by omega) ?_|refine ZA Y Y (by first|rfl|(simp only[List.nil_append,List.append_nil,List.cons_append,ZH,ZC,ZE];first|done|rfl)) (hWx _) ?_|refine ZA Y Y (by first|rfl|(simp only[List.nil_append,List.append_nil,List.cons_append,ZH,ZC,ZE];first|done|rfl)) (hPk _) ?_|refine Zcm Y Y Y hPk2 ?_|refine YT Y Y Zp3 (hRe _) ?_|refine YT Y Y Zp3 (hR2 _) ?_|refine ZA Y Y (by first|rfl|(simp only[List.nil_append,List.append_nil,List.cons_append,ZH,ZC,ZE];first|done|rfl)) (hSa _) ?_)
 all_goals try first|contradiction|omega
 refine hnext (ver+1) _ (ts.take (ts.length-1)++[c]) _ (inv.step (by omega) (by omega) [c] ?_ (by simp only[List.length_cons,List.length_nil];omega))
 intro t ht;rw[List.mem_singleton]at ht;subst ht
 exact⟨hve,by omega⟩
theorem ZvI{N:ZF}(hN:GoodN N)(h32:N.length<4294967296)(hR:∀L,Rd ⟨A,false,L⟩ la ixa N)(hB:∀L,RRd ⟨A,false,L⟩ lb ixb N){rs:List Ro}
 (hrv:(rv=.nils/\rs=[])\/(rv=.ref kl kx vr 0 rs.length/\rs≠[]/\∀L,St.get ⟨A,false,L⟩ kl kx=some (.arr 5 vr (rs.map Ro.av)))) (hrs:∀r∈rs,RootOk N r/\r.m.b<=900) (hrl:rs.length<65536) (l:List Stp) (hl:l.length<=30) (ht:∀s∈l,s.text.length<=200)
 {i ver:Nat} {es:LV} {ts:List Tr} {G:List Blk} (inv:RInv N l i es ts) (hlt:i<l.length) {y:Stp} (hy:l[i]?=some y) (hw:6=y.what % 8) {k:List Fr} {Q:Qn}
 (hnext:∀ver' es' ts' G',RInv N l (i+1) es' ts'->Rk (S Tb) k Q .norm [(1,.lit (l.map Stp.av)),(2,.ptr A.length 0 0 0 0),(6,.ref A.length 1 ver' 0 ts'.length),(7,.int .i64 ((i+1:Nat):Int))] ⟨A,false,.arr 3 0 [.agg [.ptr la ixa 0 0 0,.ptr lb ixb 0 0 0,rv]]::.arr 7 ver' es'::G'⟩) :
 Ru (S Tb) p_quartolaw15_Laid_both_59 k Q [(1,.lit (l.map Stp.av)),(2,.ptr A.length 0 0 0 0),(6,.ref A.length 1 ver 0 ts.length),(7,.int .i64 i)] ⟨A,false,.arr 3 0 [.agg [.ptr la ixa 0 0 0,.ptr lb ixb 0 0 0,rv]]::.arr 7 ver es::G⟩:=by
 have hile:=inv.le;have hele:=inv.elen;have htl:=inv.len
 have hl1:∀ {m:Nat} {c:Tr} (h:m<=ts.length),m+[c].length<4294967296:=fun h=>by rw[List.length_singleton];omega
 have hy1:0<=((i:Nat):Int)/\l[((i:Nat):Int).toNat]?=some y:=⟨by omega,by rw[show ((i:Nat):Int).toNat=i by omega];exact hy⟩
 have hs:=ht y (jM hy)
 have e0:∀L:List Blk,(⟨A,false,L⟩:St)=⟨A,false,L++[]⟩:=fun L=>by rw[List.append_nil]
 rw[e0 (.arr 3 0 [.agg [.ptr la ixa 0 0 0,.ptr lb ixb 0 0 0,rv]]::.arr 7 ver es::G)]
 have hyw:∀(st:St) (e:Env) (x:Opd) (d:Nat) (keep:List Nat) (is:List QAbs.PI) (k:List Fr) (Q:Qn),ZY e x=some (.int .u8 y.what)->Is (S Tb) is keep k Q ((d,.int .u8 (6:Nat))::e) st->Is (S Tb) (⟨some d,none,false,.bin .rem x (.v (.int .u8 8))⟩::is) keep k Q e st:=fun st e x d keep is k Q hx h=>ZBZ (b:=8) hx rfl rfl (by decide) (by rw[<- hw];exact h)
 by_cases h2:ts.length<1
 ·repeat'(first|refine Yu Y ?_|refine Z6 (f:=Stp.av) Y Y hy1 (fun _=>rfl) ?_|refine QW Y Y Y Y Y ?_|refine QI Y Y Y Y ?_|refine QO Y Y Y Y Y Y Y ?_|refine hyw _ _ _ _ _ _ _ _ Y ?_|refine ruS Y ?_|refine isS Y ?_|refine rkS Y ?_|refine Zp Y ?_|refine Zk Y Y ?_|(refine cm0 Y Y Y ?_ ?_<;>intro _<;>try omega)|refine ZL Y Y (by omega) ?_)
  all_goals try first|contradiction|omega
  all_goals exact hnext ver es ts _ (inv.same (by omega))
 repeat'(first|refine Yu Y ?_|refine Z6 (f:=Stp.av) Y Y hy1 (fun _=>rfl) ?_|refine QW Y Y Y Y Y ?_|refine QI Y Y Y Y ?_|refine QO Y Y Y Y Y Y Y ?_|refine hyw _ _ _ _ _ _ _ _ Y ?_|refine ZOF (m:=ts.length-1) Y Y (by omega) (by omega) Y ?_|refine ruS Y ?_|refine isS Y ?_|refine rkS Y ?_|refine Zp Y ?_|refine Zk Y Y ?_|(refine cm0 Y Y Y ?_ ?_<;>intro _<;>try omega)|refine ZL Y Y (by omega) ?_|refine QC Y Y (by omega) ?_)
 all_goals try first|contradiction|omega
 have hfin:=fun G'=>hnext ver es (ts.take (ts.length-1)) G' (inv.pop (by omega) (by omega))
 simp only[List.length_take,Nat.min_eq_left (Nat.sub_le ts.length 1)]at hfin;exact hfin _
end Go.Q15
