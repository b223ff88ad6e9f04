/- A part of the proof: SSb, SSc, PDa, PDb, SSd, SSe, SSf, SSg, SSh, SSi, SSj, SSk, SPb, SPc, SPd, SQa, SQb, SQc, SQd, SQe, SSl, SQf, SSm, SSn, ESa, ESb, ESc, ESd, ESe, ESf, STc, STd, ESg, ESh, ESi, ESj, FY, FYs, TYh. No condition. -/
import Derived.SliceStrings
import Derived.Deep.Slices
import Derived.Carry
import Derived.Test.YtbmllhocajbcfaaGreatEhT8
set_option linter.unusedVariables false
set_option linter.unusedSimpArgs false
namespace Go.Q15
open Go Go.QAbs
set_option maxRecDepth 100000
set_option maxHeartbeats 8000000
theorem ZgQ:∀ l:List Tr,(∀ t∈l,4*(t.siz:Int)+4<=t.bytes)->4*(Tr.sizL l:Int)+4*l.length<=Tr.bytesL l
 | [],_=>by simp [Tr.sizL,Tr.bytesL]
 | t::l,h=>by
  have h1:=h t (by simp)
  have h2:=ZgQ l fun u hu=>h u (by simp [hu])
  simp only [Tr.sizL,Tr.bytesL,List.length_cons];omega
theorem ZmI {N:ZP} (hN:GoodN N) {t:Tr} (hv:Val N t):(t.siz:Int)<=t.bytes+1/\(Big t->4*(t.siz:Int)+4<=t.bytes):=by
 have hsz:=hv.size hN;have hps:=hv.pos.2
 induction hv with
 | @kept o h m k x h0 hx hok hh hm hk =>
  have ec:(Tr.mk o h m [] k).siz=1:=by rw [Tr.siz,Tr.sizO_getD,hk];rfl
  have hl:h<=16:=by
   rcases hok with q|⟨n,ks,q⟩
   ·rw [<- hh,q.h];omega
   ·have:=q.n15;have e:=q.eq;subst e;simp only at hh;omega
  rw [ec]
  refine ⟨by omega,fun q=>?_⟩
  have h1:=hsz q;have h2:=(ZEf hl).1;simp only [Tr.h] at h1;omega
 | @leaf s k h1 h2 hk =>
  have ec:(Tr.mk 0 0 .zero s k).siz=1:=by rw [Tr.siz,Tr.sizO_getD,hk];rfl
  rw [ec]
  refine ⟨by omega,fun q=>?_⟩
  have:=q rfl
  omega
 | @inner h l hh h2 h4 hl hb hv ih =>
  have ec:(Tr.mk 0 (h+1) .zero [] (some l)).siz=Tr.sizL l+1:=by rw [Tr.siz,Tr.sizO];omega
  have eb:(Tr.mk 0 (h+1) .zero [] (some l)).bytes=Tr.bytesL l:=by rw [Tr.bytes,Tr.bytesO];simp [Mea.zero]
  have:=ZgQ l fun u hu=>(ih u hu ((hv u hu).size hN) (hv u hu).pos.2).2 (fun q=>hb u hu (by rw [<- hl u hu];exact q))
  rw [ec,eb]
  exact ⟨by omega,fun _=>by omega⟩
theorem ZmJ {N:ZP} {t:Tr} (hv:Val N t):∀ out:List Nat,(∀ h∈out,∃ x,lk N h=some x)->∀ h∈t.kwT out,∃ x,lk N h=some x:=by
 induction hv with
 | @kept o h m k x h0 hx hok hh hm hk =>
  intro out ho a ha;rw [Tr.kwT,Tr.kwO_getD,hk,Tr.kwL] at ha
  split at ha
  ·rcases List.mem_append.1 ha with q|q
   ·exact ho a q
   ·rw [List.mem_singleton.1 q];exact ⟨x,hx⟩
  ·exact ho a ha
 | @leaf s k h1 h2 hk =>
  intro out ho a ha
  rw [Tr.kwT,Tr.kwO_getD,hk,Tr.kwL,if_neg (by simp)] at ha
  exact ho a ha
 | @inner h l hh h2 h4 hl hb hv ih =>
  intro out ho a ha
  rw [Tr.kwT,Tr.kwO,if_neg (by simp)] at ha
  have key:∀ (l:List Tr) (out:List Nat),(∀ t∈l,∀ out:List Nat,(∀ h∈out,∃ x,lk N h=some x)->∀ h∈t.kwT out,∃ x,lk N h=some x)->(∀ h∈out,∃ x,lk N h=some x)->∀ a∈Tr.kwL l out,∃ x,lk N a=some x:=by
   intro l
   induction l with
   | nil=>intro out _ ho a ha;exact ho a ha
   | cons t l ihl =>
    intro out hi ho a ha;rw [Tr.kwL] at ha
    exact ihl (t.kwT out) (fun u hu=>hi u (List.mem_cons_of_mem _ hu)) (hi t (by simp) out ho) a ha
  exact key l out ih ho a ha
theorem ZqJ (h:Nat) (st:St):S Tb YH [.int .u64 h] st=some (.tup [],st):=by
 refine QJ rfl (fun A hA=>?_)
 repeat' (first|refine ZI ?_|refine ZL ?_)
 refine Zg hA (by first|exact .inl rfl|exact .inr rfl) rfl rfl rfl rfl ?_
 rfl
def dr1 (A:List (Bool × List Blk)) (b4 b5 b8:Blk) (u:List Nat):St:=⟨A,false,[b4,b5,b8,.map (YD u),.arr 1 0 [.map A.length 3]]⟩
def dr2 (A:List (Bool × List Blk)) (b4 b5 b8:Blk) (has u o:List Nat):St:=⟨A,false,[b4,b5,b8,.map (YD has),.arr 1 0 [.map A.length 3],.arr 1 o.length (o.map Zu),.arr 1 0 [.ref A.length 5 o.length 0 o.length],.map (YD u)]⟩
theorem Zpo (A:List (Bool × List Blk)) (b4 b5 b8:Blk):Visit (fun u _=>dr1 A b4 b5 b8 u) A.length 3 YH [] where
 len _ _ _ _:=by simp [dr1]
 wr _ _:=by simp [St.wr,dr1]
 get _ _:=St.get_cur ..
 upd _ _ _:=by simp [St.upd,dr1]
 call u w h more L _:=⟨_,ZqJ h _⟩
 wk _:=rfl
 wk2 _ _ _:=rfl
theorem Zpp (A:List (Bool × List Blk)) (b4 b5 b8:Blk) (has u o:List Nat):Cl (dr2 A b4 b5 b8 has u o) [(A.length,5),(A.length,6)] [.arr 1 o.length (o.map Zu),.arr 1 0 [.ref A.length 5 o.length 0 o.length]]:=by
 refine ⟨by simp,rfl,fun k hk=>?_,fun j lv ix b h1 h2=>?_⟩
 ·simp only [List.mem_cons,List.not_mem_nil,or_false] at hk
  rcases hk with rfl|rfl<;>simp [St.wr,dr2]
 ·match j,h1,h2 with
  | 0,h1,h2=>obtain ⟨rfl,rfl⟩:=Prod.mk.inj (Option.some.inj h1);obtain rfl:=Option.some.inj h2;exact St.get_cur ..
  | 1,h1,h2=>obtain ⟨rfl,rfl⟩:=Prod.mk.inj (Option.some.inj h1);obtain rfl:=Option.some.inj h2;exact St.get_cur ..
  | n+2,h1,h2=>simp at h1
theorem Zoc (A:List (Bool × List Blk)) (b4 b5 b8:Blk) (has u o o':List Nat):Jl (dr2 A b4 b5 b8 has u o) [(A.length,5),(A.length,6)] [.arr 1 o'.length (o'.map Zu),.arr 1 0 [.ref A.length 5 o'.length 0 o'.length]]=dr2 A b4 b5 b8 has u o':=by
 simp [Jl,St.upd,dr2]
theorem ZqK (A:List (Bool × List Blk)) (b4 b5 b8:Blk) (has u o:List Nat) (h:Nat) (more:List (Bool × List Blk)) (L:List Blk) (hl:o.length<1000000000) :
 S Tb YI [.int .u64 h,.ptr A.length 4 0 0 0,.ptr A.length 6 0 0 0] ⟨(dr2 A b4 b5 b8 has u o).ps++more,false,L⟩=some (.tup [],⟨(dr2 A b4 b5 b8 has u (if h∈has then o else o++[h])).ps++more,false,L⟩):=by
 have H:=(Zpp A b4 b5 b8 has u o).more more false L;have hm4:St.get ⟨(dr2 A b4 b5 b8 has u o).ps++more,false,L⟩ A.length 4=some (.arr 1 0 [.map A.length 3]):=ZBz (s:=dr2 A b4 b5 b8 has u o) (St.get_cur ..) more false L;have hm3:St.get ⟨(dr2 A b4 b5 b8 has u o).ps++more,false,L⟩ A.length 3=some (.map (YD has)):=ZBz (s:=dr2 A b4 b5 b8 has u o) (St.get_cur ..) more false L
 by_cases hm:h∈has
 ·rw [if_pos hm]
  refine QJ rfl (fun A1 hA=>?_)
  have g4:=fun L'=>ZS hA (ro:=false) (L:=L') hm4
  have hlk:=fun L'=>ZF7 (ZS hA (ro:=false) (L:=L') hm3) h
  simp only [decide_eq_true hm] at hlk
  repeat' (first|refine ZE ?_|refine ZD ?_|refine ZF rfl ?_|refine ZB rfl ?_|refine ZC ?_|refine ZG rfl ?_|refine QZ rfl rfl ?_|refine Z9 rfl (g4 _) rfl rfl ?_|refine XH rfl rfl (hlk _) ?_|refine ZI ?_|refine ZL ?_)
  all_goals try contradiction
  refine Zg hA (by first|exact .inl rfl|exact .inr rfl) rfl rfl rfl rfl ?_
  rfl
 ·rw [if_neg hm]
  have e:Jl ⟨(dr2 A b4 b5 b8 has u o).ps++more,false,L⟩ [(A.length,5),(A.length,6)] [.arr 1 (o++[h]).length ((o++[h]).map Zu),.arr 1 0 [.ref A.length 5 (o++[h]).length 0 (o++[h]).length]]=⟨(dr2 A b4 b5 b8 has u (o++[h])).ps++more,false,L⟩:=by
   rw [ZJJ (fun k hk=>by simp only [List.mem_cons,List.not_mem_nil,or_false] at hk;rcases hk with rfl|rfl<;>exact Nat.le_refl _),Zoc]
  rw [<- e]
  refine ZBD rfl (fun A1 hA=>?_)
  have hA':A1=(Jl ⟨(dr2 A b4 b5 b8 has u o).ps++more,false,L⟩ [(A.length,5),(A.length,6)] [.arr 1 o.length (o.map Zu),.arr 1 0 [.ref A.length 5 o.length 0 o.length]]).ps:=by rw [H.same];exact hA
  have g4:=fun L'=>ZS hA (ro:=false) (L:=L') hm4
  have hlk:=fun L'=>ZF7 (ZS hA (ro:=false) (L:=L') hm3) h
  simp only [decide_eq_false hm] at hlk
  have g6:=fun L'=>H.old hA' rfl rfl (ro:=false) (L:=L') (j:=1) rfl rfl
  repeat' (first|refine ZE ?_|refine ZD ?_|refine ZF rfl ?_|refine ZB rfl ?_|refine ZC ?_|refine ZV rfl ?_|refine QZ rfl rfl ?_|refine QK rfl rfl rfl rfl ?_|refine Z9 rfl (g4 _) rfl rfl ?_|refine XH rfl rfl (hlk _) ?_|refine Z9 rfl (g6 _) rfl rfl ?_)
  all_goals try contradiction
  refine Zd3 (es:=o.map Zu) (ys:=[.int .u64 h]) H hA' rfl rfl (j:=0) rfl rfl (by rw [List.length_map];rfl) rfl rfl rfl rfl (by rw [List.length_map,List.length_singleton];omega) (by decide) (fun A2 hA2 _=>?_)
  skip
  refine Zhb H hA2 rfl rfl (j:=1) rfl rfl rfl rfl rfl (JP _ (Nat.lt_succ_self _)) rfl (fun A3 hA3 _=>?_)
  repeat' (first|refine ZB rfl ?_|refine ZL ?_)
  have e3:((([Blk.arr 1 o.length (o.map Zu),Blk.arr 1 0 [.ref A.length 5 o.length 0 o.length]].set 0 (.arr 1 (o.length+1) (o.map Zu++[.int .u64 h]))).set 1 (.arr 1 0 ([AV.ref A.length 5 o.length 0 o.length].set 0 (.ref A.length 5 (o.length+1) 0 ((o.map Zu).length+[AV.int .u64 (h:Int)].length))))))=[.arr 1 (o++[h]).length ((o++[h]).map Zu),.arr 1 0 [.ref A.length 5 (o++[h]).length 0 (o++[h]).length]]:=by
   simp [Zu]
  replace hA3:A3=(Jl ⟨(dr2 A b4 b5 b8 has u o).ps++more,false,L⟩ [(A.length,5),(A.length,6)] [.arr 1 (o++[h]).length ((o++[h]).map Zu),.arr 1 0 [.ref A.length 5 (o++[h]).length 0 (o++[h]).length]]).ps:=by rw [<- e3];exact hA3
  refine Zg hA3 (.inl rfl) rfl rfl rfl rfl ?_;rfl
theorem Zpq (A:List (Bool × List Blk)) (b4 b5 b8:Blk) (has:List Nat):Visit (fun u w=>dr2 A b4 b5 b8 has u (w.filter fun h=>decide (h∉has))) A.length 7 YI [.ptr A.length 4 0 0 0,.ptr A.length 6 0 0 0] where
 len _ _ _ _:=by simp [dr2]
 wr _ _:=by simp [St.wr,dr2]
 get _ _:=St.get_cur ..
 upd _ _ _:=by simp [St.upd,dr2]
 call u w h more L hl:=by
  refine ⟨.tup [],(ZqK A b4 b5 b8 has u (w.filter fun h=>decide (h∉has)) h more L (Nat.lt_of_le_of_lt (List.length_filter_le ..) hl)).trans ?_⟩
  rw [List.filter_append]
  by_cases hm:h∈has
  ·rw [if_pos hm,show ([h].filter fun h=>decide (h∉has))=[] by simp [hm],lN]
  ·rw [if_neg hm,show ([h].filter fun h=>decide (h∉has))=[h] by simp [hm]]
 wk _:=rfl
 wk2 _ _ _:=rfl
def ZJr (N:ZP) (l:List Nat):List Nat:=l.foldl (fun s h=>bel N (ZCn N h).h h s) []
def ZDM (N:ZP) (r:Ro) (t:Tr):List Nat:=if r.at_=0 then [] else (bel N r.h r.at_ []).filter fun h=>decide (h∉ZJr N (t.kwT []))
theorem Zpr {N:ZP} (hN:GoodN N) {h:Nat} {x:Nd} (h0:h≠0) (hx:lk N h=some x):x.h<=13 :=
 RtOk.h13 hN (r:=⟨h,x.h,x.mea⟩) (.inr ⟨h0,x,hx,(hN h x hx).1,rfl,rfl⟩)
def Lv (N:ZP) (l:List Nat):Prop:=l.Nodup/\∀ o∈l,∃ x,lk N o=some x
theorem Lv.snoc {N:ZP} {l:List Nat} (h:Lv N l) {o:Nat} (ho:∃ x,lk N o=some x) (hn:o∉l):Lv N (l++[o]):=by
 refine ⟨?_,fun a ha=>?_⟩
 ·rw [List.nodup_append]
  refine ⟨h.1,by simp,fun x hx y hy=>?_⟩
  rw [List.mem_singleton] at hy;intro e;rw [e,hy] at hx;exact hn hx
 ·rcases List.mem_append.1 ha with q|q
  ·exact h.2 a q
  ·rw [List.mem_singleton.1 q];exact ho
theorem ZmK {N:ZP} (hN:GoodN N):∀ (n h:Nat) (s:List Nat) (x:Nd),lk N h=some x->x.h=n->Lv N s->Lv N (bel N n h s):=by
 intro n
 induction n with
 | zero =>
  intro h s x hx hh hs;rw [bel]
  split
  ·exact hs
  ·rename_i q;exact hs.snoc ⟨x,hx⟩ q
 | succ n ih =>
  intro h s x hx hh hs;rw [bel,JD hx]
  split
  ·exact hs
  ·rename_i q
   have key:∀ (ks:List Kid) (s:List Nat),(∀ k∈ks,∃ y,lk N k.at_=some y/\y.h=n)->Lv N s->Lv N (ks.foldl (fun s k=>bel N n k.at_ s) s):=by
    intro ks
    induction ks with
    | nil=>intro s _ h;exact h
    | cons k l ihl =>
     intro s hk h
     obtain ⟨y,y1,y2⟩:=hk k (by simp)
     exact ihl _ (fun z hz=>hk z (List.mem_cons_of_mem _ hz)) (ih k.at_ s y y1 y2 h)
   exact key x.ks _ (fun k hk=>by obtain ⟨_,y,y1,y2,_⟩:=(hN h x hx).2 k hk;exact ⟨y,y1,by omega⟩) (hs.snoc ⟨x,hx⟩ q)
theorem Zod {N:ZP} (hN:GoodN N) {l:List Nat} (hl:∀ h∈l,∃ x,lk N h=some x):Lv N (ZJr N l):=by
 have key:∀ (l s:List Nat),(∀ h∈l,∃ x,lk N h=some x)->Lv N s->Lv N (l.foldl (fun s h=>bel N (ZCn N h).h h s) s):=by
  intro l
  induction l with
  | nil=>intro s _ h;exact h
  | cons a l ih =>
   intro s hl h
   obtain ⟨x,hx⟩:=hl a (by simp)
   refine ih _ (fun z hz=>hl z (List.mem_cons_of_mem _ hz)) ?_
   show Lv N (bel N (ZCn N a).h a s)
   rw [JD hx];exact ZmK hN _ a s x hx rfl h
 exact key l [] hl ⟨by simp,by simp⟩
theorem ZmL {N:ZP} (hN:∀ o x,lk N o=some x->o≠0) {t:Tr} (hv:VE N t):∀ h∈t.kwT [],h≠0/\∃ x,lk N h=some x:=by
 intro h hh
 rcases hv with q|q
 ·obtain ⟨o,th,m,s,k⟩:=t
  have e1:=q.old;have e2:=q.ks;simp only [Tr.old,Tr.ks] at e1 e2;rw [Tr.kwT,Tr.kwO_getD,e2,Tr.kwL,e1] at hh
  simp at hh
 ·obtain ⟨x,hx⟩:=ZmJ q [] (by simp) h hh
  exact ⟨hN h x hx,x,hx⟩
theorem ZmM {N:ZP} (hN:GoodN N) {t:Tr} (hv:VE N t) (hb:t.bytes<=65536):t.siz<4294967296:=by
 rcases hv with q|q
 ·obtain ⟨o,th,m,s,k⟩:=t
  have e2:=q.ks;simp only [Tr.ks] at e2;rw [Tr.siz,Tr.sizO_getD,e2,Tr.sizL];omega
 ·have:=(ZmI hN q).1;omega
theorem ZkE {st:St} {la b:Nat} {N:ZP} (hN:GoodN N) (hK:∀ l,Lv N l->l.length<=16384) (hz:∀ o x,lk N o=some x->o≠0) (hR:Rd st la (b+5) N) {r:Ro} (hr:RtOk N r) {t:Tr} (hv:VE N t) (hb:t.bytes<=65536) :
 S Tb ZCA [.ptr la (b+5) 0 0 0,r.av,t.av] st=some (.tup [.lit ((ZDM N r t).map Zu),.int .i64 0],st):=by
 refine QJ rfl (fun A hA=>?_)
 have hRA:=fun L=>hR.push hA (ro:=false) (L:=L)
 have hKp:=fun L=>ZJI (hRA L) hr
 have hCk:=fun L=>ZIp (hRA L) hv hb
 have hKt:=fun st=>Zpd hv.pos.1 (ZmM hN hv hb) st
 have hkw:=ZmL hz hv;have hkl:=Tr.kwT_len t [];have hsz:=ZmM hN hv hb;unfold ZDM
 generalize t.kwT []=kl at *
 simp only [List.length_nil] at hkl
 have hP13:∀ n,n<=13->4 ^ (n+1)<=268435456:=fun n hn=>by
  have:4 ^ (n+1)<=4 ^ 14:=Nat.pow_le_pow_right (by decide) (by omega)
  exact this
 have hB1:∀ (i h:Nat),kl[i]?=some h->S Tb JW [.ptr la (b+5) 0 0 0,.int .u64 h,.map A.length 3,.func (.func YH) [] []] (dr1 A (.arr 5 0 [r.av]) (.arr 7 0 [t.av]) (.arr 7 0 [(Jm r).av]) (ZJr N (kl.take i)))=some (.int .i64 0,dr1 A (.arr 5 0 [r.av]) (.arr 7 0 [t.av]) (.arr 7 0 [(Jm r).av]) (ZJr N (kl.take (i+1)))):=by
  intro i h hi;obtain ⟨h0,x,hx⟩:=hkw h (jM hi)
  have hlv:=Zod hN (l:=kl.take i) (fun z hz=>(hkw z (List.mem_of_mem_take hz)).2)
  have:=hK _ hlv
  have:=hP13 _ (Zpr hN h0 hx)
  have e:ZJr N (kl.take (i+1))=bel N x.h h (ZJr N (kl.take i)):=by
   rw [Zb hi];unfold ZJr;rw [List.foldl_append,List.foldl_cons,List.foldl_nil,JD hx]
  rw [e]
  exact Ziy (Zpo A _ _ _) hN (fun _ _=>hRA _) x.h h x _ hx rfl (by omega) (more:=[]) (lN _).symm (lN _).symm
 have hB2:r.at_≠0->S Tb JW [.ptr la (b+5) 0 0 0,.int .u64 r.at_,.map A.length 7,.func (.func YI) [] [.ptr A.length 4 0 0 0,.ptr A.length 6 0 0 0]] (dr2 A (.arr 5 0 [r.av]) (.arr 7 0 [t.av]) (.arr 7 0 [(Jm r).av]) (ZJr N kl) [] [])=some (.int .i64 0,dr2 A (.arr 5 0 [r.av]) (.arr 7 0 [t.av]) (.arr 7 0 [(Jm r).av]) (ZJr N kl) (bel N r.h r.at_ []) ((bel N r.h r.at_ []).filter fun h=>decide (h∉ZJr N kl))):=by
  intro h0
  obtain ⟨x,x1,x2,x3,x4⟩:∃ x,lk N r.at_=some x/\NdOk x/\x.h=r.h/\x.mea=r.m:=by
   rcases hr with rfl|w
   ·exact absurd rfl h0
   ·exact w.2
  have:=hP13 _ (hr.h13 hN)
  exact Ziy (Zpq A (.arr 5 0 [r.av]) (.arr 7 0 [t.av]) (.arr 7 0 [(Jm r).av]) (ZJr N kl)) hN (fun _ _=>hRA _) r.h r.at_ x [] x1 x3 (by simp only [List.length_nil];omega) (more:=[]) (lN _).symm (lN _).symm
 have hkll:kl.length<1000000000:=by
  have:kl.length<=t.siz:=by omega
  have h2:(t.siz:Int)<=65537:=by
   rcases hv with q|q
   ·obtain ⟨o,th,m,s,k⟩:=t
    have e2:=q.ks;simp only [Tr.ks] at e2;rw [Tr.siz,Tr.sizO_getD,e2,Tr.sizL];decide
   ·have:=(ZmI hN q).1;omega
  omega
 unfold dr1 at hB1;unfold dr2 at hB2;obtain ⟨ra,rh,rm⟩:=r
 unfold Ro.av at *
 generalize Jm ⟨ra,rh,rm⟩=kt at *
 repeat' (first|refine ZE ?_|refine ZD ?_|refine ZF rfl ?_|refine ZO rfl rfl rfl rfl ?_|refine Zq rfl rfl ?_|refine ZB rfl ?_|refine ZC ?_|(refine Zl rfl rfl (fun _=>?_) (fun _=>?_)<;>try (exfalso;omega))|refine ZG rfl ?_|refine Ze rfl rfl rfl ?_|refine ZB9 rfl ?_|refine ZA rfl rfl (by first|rfl|(simp only [lE,lN,lC,ZZ,ZW,ZX];first|done|rfl)) (hKp _) ?_|refine ZA rfl rfl (by first|rfl|(simp only [lE,lN,lC,ZZ,ZW,ZX];first|done|rfl)) (hCk _) ?_|refine ZO rfl rfl rfl (Zk _) ?_|refine Zr rfl rfl rfl (QH _ _ _) (Qc _ _) rfl ?_|refine Z1 rfl (Z2 _) (QB _) ?_|refine ZI ?_)
 all_goals try contradiction
 refine Zr rfl rfl rfl (by simp only [ZY,QD,if_pos (Nat.lt_succ_self _)]) rfl rfl ?_
 repeat' (first|refine ZO rfl rfl rfl (Zk _) ?_|refine YS rfl ?_|refine ZE ?_|refine ZD ?_|refine ZF rfl ?_|refine ZB rfl ?_|refine ZC ?_|refine ZA rfl rfl (by first|rfl|(simp only [lE,lN,lC,ZZ,ZW,ZX];first|done|rfl)) (hKt _) ?_|refine ZJ ?_)
 refine Zx (α:=Nat) (fun i=>[(0,.ptr la (b+5) 0 0 0),(4,.ptr A.length 0 0 0 0),(11,.ptr A.length 4 0 0 0),(34,.lit (kl.map Zu)),(35,.int .i64 kl.length),(36,.int .i64 i)])
  (fun i=>⟨A,false,[.arr 5 0 [Ro.av ⟨ra,rh,rm⟩],.arr 7 0 [t.av],.arr 7 0 [kt.av],.map (YD (ZJr N (kl.take i))),.arr 1 0 [.map A.length 3]]⟩) (fun i=>i<=kl.length) (fun i=>kl.length-i) 0 rfl rfl (Nat.zero_le _) ?_
 intro i hi;replace hi:i<=kl.length:=hi;unfold Ro.av
 rcases Nat.lt_or_ge i kl.length with hlt|hge
 ·obtain ⟨h,hh⟩:∃ x,kl[i]?=some x:=⟨kl[i]'hlt,jE _⟩
  have q:0<=((i:Nat):Int)/\kl[((i:Nat):Int).toNat]?=some h:=⟨by omega,by rw [show ((i:Nat):Int).toNat=i by omega];exact hh⟩
  have hB:=hB1 i h hh
  repeat' (first|refine JC (f:=Zu) rfl rfl q (fun _=>rfl) ?_|refine ZA rfl rfl rfl hB ?_|refine ZE ?_|refine ZD ?_|refine ZF rfl ?_|refine ZO rfl rfl rfl rfl ?_|refine ZB rfl ?_|refine ZC ?_|refine QI rfl rfl ?_|(refine Zh rfl rfl (fun _=>?_) (fun _=>?_)<;>try (exfalso;omega))|(refine Zl rfl rfl (fun _=>?_) (fun _=>?_)<;>try (exfalso;omega))|refine ZV rfl ?_|refine ZG rfl ?_|refine Zj rfl rfl (by omega) ?_|refine ZI ?_|refine ZJ ?_|refine Zy ?_|refine Z8 ?_)
  all_goals try contradiction
  all_goals try (exfalso;omega)
  exact ⟨i+1,⟨rfl,rfl⟩,by omega,by omega⟩
 ·obtain rfl:i=kl.length:=by omega
  rw [List.take_length]
  by_cases h0:ra=0
  ·subst h0
   repeat' (first|refine ZLR ?_|refine ZE ?_|refine ZD ?_|refine ZF rfl ?_|refine ZU rfl rfl ?_|refine ZO rfl rfl rfl rfl ?_|refine ZB rfl ?_|refine ZC ?_|(refine Zh rfl rfl (fun _=>?_) (fun _=>?_)<;>try (exfalso;omega))|(refine Zp rfl rfl (fun _=>?_) (fun _=>?_)<;>try (exfalso;omega))|refine ZV rfl ?_|refine ZG rfl ?_|refine YY rfl rfl ?_|refine ZB9 rfl ?_|refine ZI ?_|refine ZQ ?_|refine Zs ?_|refine ZL ?_|refine Za ?_|refine Zd ?_|refine Zc rfl ?_|refine Zo ?_)
   all_goals try contradiction
   all_goals try (exfalso;omega)
   refine Zg hA (by first|exact .inl rfl|exact .inr rfl) rfl rfl rfl rfl ?_
   rfl
  ·have hB:=hB2 h0
   have h0i:((ra:Nat):Int)≠0:=by omega
   simp only [if_neg h0]
   generalize (bel N rh ra []).filter (fun h=>decide (h∉ZJr N kl))=out at *
   repeat' (first|refine ZLR ?_|refine ZA rfl rfl rfl hB ?_|refine ZE ?_|refine ZD ?_|refine ZF rfl ?_|refine ZU rfl rfl ?_|refine ZO rfl rfl rfl rfl ?_|refine ZB rfl ?_|refine ZC ?_|(refine Zh rfl rfl (fun _=>?_) (fun _=>?_)<;>try (exfalso;omega))|(refine Zp rfl rfl (fun _=>?_) (fun _=>?_)<;>try (exfalso;omega))|(refine Zl rfl rfl (fun _=>?_) (fun _=>?_)<;>try (exfalso;omega))|refine ZG rfl ?_|refine YY rfl rfl ?_|refine ZB9 rfl ?_|refine ZI ?_|refine ZQ ?_|refine Zs ?_|refine ZL ?_|refine Zd ?_|refine Zc rfl ?_|refine Zo ?_)
   all_goals try contradiction
   all_goals try (exfalso;omega)
   exact ZDo hA (.inr rfl) rfl rfl (by simp) (fun v hv=>by obtain ⟨x,_,rfl⟩:=List.mem_map.1 hv;rfl) rfl rfl
theorem Xd:∀ (v w:List Nat) (x:Nat),x∈v.foldl QL w↔x∈w\/x∈v
 | [],w,x=>by simp
 | a::v,w,x=>by
  rw [List.foldl_cons,Xd v (QL w a) x,Zbx,List.mem_cons]
  constructor
  ·rintro ((h|h)|h)<;>simp [h]
  ·rintro (h|h|h)<;>simp [h]
theorem ZKB:∀ (v w:List Nat),(∀ x∈v,x∈w)->v.foldl QL w=w
 | [],w,_=>rfl
 | a::v,w,h=>by
  rw [List.foldl_cons,show QL w a=w by unfold QL;rw [if_pos (h a (by simp))]]
  exact ZKB v w (fun x hx=>h x (by simp [hx]))
theorem ZRL (p:Nat->Bool):∀ (v w:List Nat),(v.filter p).foldl QL (w.filter p)=(v.foldl QL w).filter p
 | [],w=>rfl
 | a::v,w=>by
  rw [List.foldl_cons,<- ZRL p v (QL w a)]
  have e:(QL w a).filter p=if p a=true then QL (w.filter p) a else w.filter p:=by
   unfold QL
   by_cases q:a∈w
   ·rw [if_pos q]
    split
    ·rename_i hp;rw [if_pos (List.mem_filter.2 ⟨q,hp⟩)]
    ·rfl
   ·rw [if_neg q,List.filter_append]
    split
    ·rename_i hp
     rw [if_neg (fun h=>q (List.mem_filter.1 h).1)]
     simp [List.filter_cons,hp]
    ·rename_i hp
     simp [List.filter_cons,hp]
  rw [e,List.filter_cons]
  split
  ·rw [List.foldl_cons]
  ·rfl
theorem ZN7 (p:Nat->Bool) (v:List Nat):QR (v.filter p)=(QR v).filter p:=ZRL p v []
theorem ZUU {N:ZP} (hN:GoodN N):∀ (n h:Nat) (x:Nd),lk N h=some x->x.h=n->∀ o∈Qn N n h,∃ y,lk N o=some y/\y.h<=n/\∀ z∈Qn N y.h o,z∈Qn N n h:=by
 intro n
 induction n with
 | zero =>
  intro h x hx hh o ho;rw [Qn,List.mem_singleton] at ho;subst ho
  exact ⟨x,hx,by omega,fun z hz=>by rw [hh] at hz;exact hz⟩
 | succ n ih =>
  intro h x hx hh o ho;have hg:=(hN h x hx).2;rw [Qn,JD hx,List.mem_cons] at ho
  rcases ho with rfl|ho
  ·exact ⟨x,hx,by omega,fun z hz=>by rw [hh] at hz;exact hz⟩
  ·obtain ⟨k,hk,ho⟩:=List.mem_flatMap.1 ho
   obtain ⟨_,y,y1,y2,_⟩:=hg k hk
   obtain ⟨w,w1,w2,w3⟩:=ih k.at_ y y1 (by omega) o ho
   refine ⟨w,w1,by omega,fun z hz=>?_⟩
   rw [Qn,JD hx,List.mem_cons];exact .inr (List.mem_flatMap.2 ⟨k,hk,w3 z hz⟩)
def ClN (N:ZP) (n:Nat) (s:List Nat):Prop:=∀ o∈s,∀ y,lk N o=some y->y.h<=n->∀ z∈Qn N y.h o,z∈s
theorem Ziz {N:ZP} (hN:GoodN N):∀ (n h:Nat) (x:Nd) (s:List Nat),lk N h=some x->x.h=n->ClN N n s->bel N n h s=(Qn N n h).foldl QL s/\ClN N n (bel N n h s):=by
 intro n
 induction n with
 | zero =>
  intro h x s hx hh hs
  have e:bel N 0 h s=(Qn N 0 h).foldl QL s:=by rw [bel,Qn];rfl
  refine ⟨e,?_⟩;rw [e];intro o ho y hy hy0 z hz;rw [Xd] at ho ⊢
  rcases ho with ho|ho
  ·exact .inl (hs o ho y hy hy0 z hz)
  ·obtain ⟨w,w1,w2,w3⟩:=ZUU hN 0 h x hx hh o ho
   rw [hy] at w1;obtain rfl:=Option.some.inj w1;exact .inr (w3 z hz)
 | succ n ih =>
  intro h x s hx hh hs;have hg:=(hN h x hx).2;rw [bel]
  by_cases hm:h∈s
  ·rw [if_pos hm]
   refine ⟨(ZKB _ _ (fun z hz=>hs h hm x hx (by omega) z (by rw [hh];exact hz))).symm,hs⟩
  ·rw [if_neg hm]
   have key:∀ (ks:List Kid) (s:List Nat),(∀ k∈ks,k∈x.ks)->ClN N n s->ks.foldl (fun s k=>bel N n k.at_ s) s=(ks.flatMap fun k=>Qn N n k.at_).foldl QL s/\ClN N n (ks.foldl (fun s k=>bel N n k.at_ s) s):=by
    intro ks
    induction ks with
    | nil=>intro s _ hc;exact ⟨rfl,hc⟩
    | cons k ks ihk =>
     intro s hk hc
     obtain ⟨_,y,y1,y2,_⟩:=hg k (hk k (by simp))
     obtain ⟨b1,b2⟩:=ih k.at_ y s y1 (by omega) hc
     rw [List.foldl_cons,List.flatMap_cons,List.foldl_append,<- b1]
     exact ihk _ (fun z hz=>hk z (by simp [hz])) b2
   have hc:ClN N n (s++[h]):=by
    intro o ho y hy hyn z hz
    rcases List.mem_append.1 ho with ho|ho
    ·exact List.mem_append.2 (.inl (hs o ho y hy (by omega) z hz))
    ·rw [List.mem_singleton] at ho
     subst ho;rw [hx] at hy;obtain rfl:=Option.some.inj hy;omega
   rw [JD hx]
   obtain ⟨k1,k2⟩:=key x.ks (s++[h]) (fun k hk=>hk) hc
   have e:x.ks.foldl (fun s k=>bel N n k.at_ s) (s++[h])=(Qn N (n+1) h).foldl QL s:=by
    rw [k1,Qn,JD hx,List.foldl_cons,show QL s h=s++[h] by unfold QL;rw [if_neg hm]]
   refine ⟨e,?_⟩;rw [e];intro o ho y hy hyn z hz;rw [Xd] at ho ⊢
   rcases ho with ho|ho
   ·exact .inl (hs o ho y hy hyn z hz)
   ·obtain ⟨w,w1,w2,w3⟩:=ZUU hN (n+1) h x hx hh o ho
    rw [hy] at w1;obtain rfl:=Option.some.inj w1;exact .inr (w3 z hz)
theorem ZmN {N:ZP} (hN:GoodN N) {h:Nat} {x:Nd} (hx:lk N h=some x):bel N x.h h []=QR (Qn N x.h h) :=
 (Ziz hN x.h h x [] hx rfl (fun o ho=>by simp at ho)).1
theorem ZmO {N:ZP} (hN:GoodN N) (l:List Nat) (hl:∀ h∈l,∃ x,lk N h=some x) (o:Nat):o∈ZJr N l↔∃ k∈l,o∈Qn N (ZCn N k).h k:=by
 have key:∀ (l:List Nat) (s:List Nat),(∀ h∈l,∃ x,lk N h=some x)->(∀ n,ClN N n s)->(∀ n,ClN N n (l.foldl (fun s h=>bel N (ZCn N h).h h s) s))/\∀ o,o∈l.foldl (fun s h=>bel N (ZCn N h).h h s) s↔o∈s\/∃ k∈l,o∈Qn N (ZCn N k).h k:=by
  intro l
  induction l with
  | nil=>intro s _ hc;exact ⟨hc,fun o=>by simp⟩
  | cons a l ih =>
   intro s hl hc
   obtain ⟨x,hx⟩:=hl a (by simp)
   rw [List.foldl_cons,JD hx];obtain ⟨b1,b2⟩:=Ziz hN x.h a x s hx rfl (hc _)
   have hc2:∀ n,ClN N n (bel N x.h a s):=by
    intro n o ho y hy hyn z hz;rw [b1,Xd] at ho ⊢
    rcases ho with ho|ho
    ·exact .inl (hc n o ho y hy hyn z hz)
    ·obtain ⟨w,w1,w2,w3⟩:=ZUU hN x.h a x hx rfl o ho
     rw [hy] at w1;obtain rfl:=Option.some.inj w1;exact .inr (w3 z hz)
   obtain ⟨i1,i2⟩:=ih _ (fun h hh=>hl h (by simp [hh])) hc2
   refine ⟨i1,fun o=>?_⟩
   rw [i2,b1,Xd]
   constructor
   ·rintro ((h|h)|⟨k,hk,h⟩)
    ·exact .inl h
    ·exact .inr ⟨a,by simp,by rw [JD hx];exact h⟩
    ·exact .inr ⟨k,by simp [hk],h⟩
   ·rintro (h|⟨k,hk,h⟩)
    ·exact .inl (.inl h)
    ·rcases List.mem_cons.1 hk with rfl|hk
     ·rw [JD hx] at h;exact .inl (.inr h)
     ·exact .inr ⟨k,hk,h⟩
 have:=(key l [] hl (fun n o ho=>by simp at ho)).2 o
 unfold ZJr;rw [this];simp
namespace Tr
mutual
def und (N:ZP):Tr->List Nat
 | .mk o _ _ _ k=>if o=0 then undO N k else Qn N (ZCn N o).h o
def undO (N:ZP):Option (List Tr)->List Nat
 | none=>[]
 | some l=>undL N l
def undL (N:ZP):List Tr->List Nat
 | []=>[]
 | t::l=>t.und N++undL N l
end
theorem undO_getD (N:ZP) (k:Option (List Tr)):undO N k=undL N (k.getD []):=by cases k<;>rfl
end Tr
theorem Zps {N:ZP} {t:Tr} (hv:Val N t):∀ (out:List Nat) (o:Nat),(∃ k∈t.kwT out,o∈Qn N (ZCn N k).h k)↔(∃ k∈out,o∈Qn N (ZCn N k).h k)\/o∈t.und N:=by
 induction hv with
 | @kept a h m k x h0 hx hok hh hm hk =>
  intro out o;rw [Tr.kwT,Tr.kwO_getD,hk,Tr.kwL,Tr.und,if_neg h0]
  by_cases q:a∈out
  ·rw [if_neg (fun w=>w.2 q)]
   constructor
   ·exact .inl
   ·rintro (h|h)
    ·exact h
    ·exact ⟨a,q,h⟩
  ·rw [if_pos ⟨h0,q⟩]
   constructor
   ·rintro ⟨k,hk,h⟩
    rcases List.mem_append.1 hk with hk|hk
    ·exact .inl ⟨k,hk,h⟩
    ·rw [List.mem_singleton] at hk;subst hk;exact .inr h
   ·rintro (⟨k,hk,h⟩|h)
    ·exact ⟨k,by simp [hk],h⟩
    ·exact ⟨a,by simp,h⟩
 | @leaf s k h1 h2 hk =>
  intro out o
  rw [Tr.kwT,Tr.kwO_getD,hk,Tr.kwL,Tr.und,if_pos rfl,Tr.undO_getD,hk,Tr.undL,if_neg (by simp)]
  simp
 | @inner h l hh h2 h4 hl hb hv ih =>
  intro out o
  rw [Tr.kwT,Tr.kwO,Tr.und,if_pos rfl,Tr.undO,if_neg (by simp)]
  have key:∀ (l:List Tr),(∀ t∈l,∀ (out:List Nat) (o:Nat),(∃ k∈t.kwT out,o∈Qn N (ZCn N k).h k)↔(∃ k∈out,o∈Qn N (ZCn N k).h k)\/o∈t.und N)->∀ (out:List Nat),(∃ k∈Tr.kwL l out,o∈Qn N (ZCn N k).h k)↔(∃ k∈out,o∈Qn N (ZCn N k).h k)\/o∈Tr.undL N l:=by
   intro l
   induction l with
   | nil=>intro _ out;rw [Tr.kwL,Tr.undL];simp
   | cons a l ihl =>
    intro hl out
    rw [Tr.kwL,Tr.undL,ihl (fun t ht=>hl t (by simp [ht])),hl a (by simp),List.mem_append,or_assoc]
  exact key l ih out
theorem Zoe {N:ZP} (hN:GoodN N) (hz:∀ o x,lk N o=some x->o≠0) {t:Tr} (hv:VE N t) (o:Nat):o∈ZJr N (t.kwT [])↔o∈t.und N:=by
 rw [ZmO hN _ (fun h hh=>(ZmL hz hv h hh).2)]
 rcases hv with h|h
 ·obtain ⟨a,h',m,s,k⟩:=t
  obtain ⟨h1,h2,h3,h4,h5⟩:=h
  simp only [Tr.old,Tr.h,Tr.m,Tr.text,Tr.ks] at *
  subst h1
  rw [Tr.kwT,Tr.kwO_getD,h5,Tr.kwL,Tr.und,if_pos rfl,Tr.undO_getD,h5,Tr.undL,if_neg (by simp)]
  simp
 ·rw [Zps h];simp
theorem ZmP {N:ZP} (hN:GoodN N) (hz:∀ o x,lk N o=some x->o≠0) {r:Ro} (hr:RtOk N r) {t:Tr} (hv:VE N t):ZDM N r t=QR ((Z5 N r).filter fun o=>decide (o∉t.und N)):=by
 unfold ZDM Z5
 split
 ·rfl
 ·rename_i h0
  obtain ⟨x,x1,x2,x3,x4⟩:∃ x,lk N r.at_=some x/\NdOk x/\x.h=r.h/\x.mea=r.m:=by
   rcases hr with rfl|w
   ·exact absurd rfl h0
   ·exact w.2
  rw [ZN7,<- x3,ZmN hN x1]
  refine List.filter_congr fun o _=>?_
  rw [decide_eq_decide,Zoe hN hz hv]
end Go.Q15
namespace Go.Q15
open Go Go.QAbs
set_option maxRecDepth 100000
set_option maxHeartbeats 16000000
theorem ZmQ {st:St} {lv ix ver n:Nat} {l:List Nat} (hn:n=l.length) (hg:st.get lv ix=some (.arr 1 ver (l.map Zu))) (hb:l.length<1000000000) :
 S Tb Jx [.ref lv ix ver 0 n] st=some (.lit ((QR l).map Zu),st):=by
 subst hn
 refine QJ rfl (fun A hA=>?_)
 have g0:=fun L=>ZS hA (ro:=false) (L:=L) hg
 have hwi:∀ L,wIs 1 ver (St.get ⟨A,false,L⟩ lv ix)=true:=fun L=>by rw [g0];simp [wIs]
 repeat' (first|refine ZE ?_|refine ZD ?_|refine ZF rfl ?_|refine ZB rfl ?_|refine ZC ?_|refine YF rfl ?_|refine ZJ ?_)
 refine Zx (α:=Nat) (fun i=>[(0,.ref lv ix ver 0 l.length),(3,.ref A.length 0 (QR (l.take i)).length 0 (QR (l.take i)).length),(4,.int .i64 i)]) (fun i=>⟨A,false,[.arr 1 (QR (l.take i)).length ((QR (l.take i)).map Zu)]⟩) (fun i=>i<=l.length) (fun i=>l.length-i) 0 rfl rfl (by omega) ?_
 rintro i hi
 replace hi:i<=l.length:=hi;have hw:=(Ye (l.take i)).2.2;rw [List.length_take,Nat.min_eq_left hi] at hw
 rcases Nat.lt_or_ge i l.length with hlt|hge
 ·obtain ⟨x,hx⟩:∃ x,l[i]?=some x:=⟨l[i]'hlt,jE _⟩
  have q1:(l.map Zu)[0+((i:Nat):Int).toNat]?=some (AV.int .u64 x):=by
   rw [show 0+((i:Nat):Int).toNat=i by omega,jG,hx];rfl
  have hs:QR (l.take (i+1))=QL (QR (l.take i)) x:=by rw [Zb hx,ZLS]
  generalize QR (l.take i)=w at *
  have hH:=ZeL (st:=⟨A,false,[.arr 1 w.length (w.map Zu)]⟩) (lv:=A.length) (ix:=0) (ver:=w.length) (l:=w) rfl (St.get_cur ..) (by omega) x
  have hl2:(w.map Zu).length+[AV.int .u64 (x:Int)].length<4294967296:=by simp;omega
  have hl3:w.length=(w.map Zu).length:=by simp
  by_cases hm:x∈w
  ·simp only [decide_eq_true hm] at hH
   repeat' (first|refine Y4 rfl rfl (by omega) (hwi _) ?_|refine Z9 rfl (g0 _) q1 rfl ?_|refine ZE ?_|refine ZD ?_|refine ZF rfl ?_|refine ZB rfl ?_|refine ZC ?_|refine Qd rfl ?_|(refine Zh rfl rfl (fun _=>?_) (fun _=>?_)<;>try (exfalso;omega))|refine ZV rfl ?_|refine ZG rfl ?_|refine QZ rfl rfl ?_|refine Zj rfl rfl (by omega) ?_|refine ZA rfl rfl rfl (hH) ?_|refine ZI ?_|refine ZJ ?_|refine Zy ?_|refine Z8 ?_)
   all_goals try (exfalso;omega)
   all_goals try contradiction
   refine ⟨i+1,⟨?_,?_⟩,by omega,by omega⟩
   ·rw [hs];unfold QL;rw [if_pos hm];rfl
   ·rw [hs];unfold QL;rw [if_pos hm]
  ·simp only [decide_eq_false hm] at hH
   repeat' (first|refine Y4 rfl rfl (by omega) (hwi _) ?_|refine Z9 rfl (g0 _) q1 rfl ?_|refine Yw rfl rfl rfl hl3 rfl rfl hl2 (by decide) ?_|refine ZE ?_|refine ZD ?_|refine ZF rfl ?_|refine ZB rfl ?_|refine ZC ?_|refine Qd rfl ?_|(refine Zh rfl rfl (fun _=>?_) (fun _=>?_)<;>try (exfalso;omega))|refine ZV rfl ?_|refine QZ rfl rfl ?_|refine Zj rfl rfl (by omega) ?_|refine QK rfl rfl rfl rfl ?_|refine ZA rfl rfl rfl (hH) ?_|refine ZI ?_|refine ZJ ?_|refine Zy ?_|refine Z8 ?_)
   all_goals try (exfalso;omega)
   all_goals try contradiction
   refine ⟨i+1,⟨?_,?_⟩,by omega,by omega⟩
   ·rw [hs];unfold QL;rw [if_neg hm,lL];rfl
   ·rw [hs];unfold QL;rw [if_neg hm,lL,List.map_append];rfl
 ·obtain rfl:i=l.length:=by omega
  rw [List.take_length]
  repeat' (first|refine ZE ?_|refine ZD ?_|refine ZF rfl ?_|refine ZB rfl ?_|refine ZC ?_|refine Qd rfl ?_|(refine Zh rfl rfl (fun _=>?_) (fun _=>?_)<;>try (exfalso;omega))|refine ZG rfl ?_|refine ZQ ?_|refine Zs ?_|refine ZL ?_|refine Zd ?_|refine Zc rfl ?_|refine Zo ?_)
  all_goals try (exfalso;omega)
  refine ZAr (es:=(QR l).map Zu) hA (.inr rfl) rfl rfl (by simp) (by intro v hv;obtain ⟨x,_,rfl⟩:=List.mem_map.1 hv;rfl) ?_
  rfl
def DrOk (M:Nat) (G:List Blk) (dv:AV) (w:List Nat):Prop:=(w=[]/\dv=.nils)\/∃ j ver,dv=.ref M (j+4) ver 0 w.length/\w≠[]/\G[j]?=some (.arr 1 ver (w.map Zu))
def chL (b6:Blk) (t:Tr) (dv:AV) (w:List Nat) (G:List Blk):List Blk :=
 b6::.arr 7 0 [t.av]::.arr 7 0 [.agg [.int .u64 0,.int .i64 0,.int .i64 0,.int .i64 0,.int .i64 0,.nils,dv]]::.map (YD w)::G
theorem ZgR {O:Orc} {k:List Fr} {Q:YO} {e:Env} {A:List (Bool × List Blk)} {L:List Blk} {keep:List Nat} {is:List QAbs.PI} {x i v:Opd} {ix h:Nat} {w:AV} {es es':List (AV × AV)} (hx:Zf e x=some (.map A.length ix)) (hi:Zf e i=some (.int .u64 h)) (hv:Zf e v=some w) (hg:L[ix]?=some (.map es))
 (hs:ZY QD (A.length+1) ⟨A,false,L⟩ w=some (w,⟨A,false,L⟩)) (hp:ZEn (.int .u64 h) w es=some es')
 (hh:Is O is keep k Q e ⟨A,false,L.set ix (.map es')⟩):Is O (⟨none,none,false,.mupd 0 x i v⟩::is) keep k Q e ⟨A,false,L⟩:=by
 have hlt:=(List.getElem?_eq_some_iff.1 hg).1;refine Z4 (od:=none) (v:=.undef) (st':=⟨A,false,L.set ix (.map es')⟩) ?_ hh;simp only [Zi,evalPO,ZH hx,ZH hi,ZH hv,ZJs,Yg,if_true,hs,oS,ZLW,St.get_cur,hg,vis,ZLV,hp,St.put,if_false,jB,if_pos hlt,ZBI]
theorem Zb1:∀ (l w:List Nat),(l.foldl QL w).length<=w.length+l.length:=by
 intro l
 induction l with
 | nil=>intro w;simp
 | cons a l ih =>
  intro w;rw [List.foldl_cons]
  have h1:(QL w a).length<=w.length+1:=by unfold QL;split<;>simp
  have h2:=ih (QL w a);rw [List.length_cons];omega
theorem ZmR {A:List (Bool × List Blk)} {b6:Blk} {t:Tr} {dv:AV} {w dl:List Nat} {G:List Blk} (h0:DrOk A.length G dv w) (hl:w.length+dl.length<100000000) {v0 v29 v30 v31:AV} {k:List Fr} {Q:YO}
 (hQ:∀ G' dv',DrOk A.length G' dv' (dl.foldl QL w)->Rk (S Tb) k Q .norm [(0,v0),(6,.ptr A.length 0 0 0 0),(8,.ptr A.length 1 0 0 0),(10,.ptr A.length 2 0 0 0),(11,.map A.length 3),(29,v29),(30,v30),(31,v31),(46,.lit (dl.map Zu)),(47,.int .i64 dl.length),(48,.int .i64 dl.length),(49,.bool false)] ⟨A,false,chL b6 t dv' (dl.foldl QL w) G'⟩) :
 Ru (S Tb) p_edit_change_19.loop (.blk 2::k) Q [(0,v0),(6,.ptr A.length 0 0 0 0),(8,.ptr A.length 1 0 0 0),(10,.ptr A.length 2 0 0 0),(11,.map A.length 3),(29,v29),(30,v30),(31,v31),(46,.lit (dl.map Zu)),(47,.int .i64 dl.length),(48,.int .i64 0)] ⟨A,false,chL b6 t dv w G⟩:=by
 refine Zx (α:=Nat × AV × List Blk) (fun p=>[(0,v0),(6,.ptr A.length 0 0 0 0),(8,.ptr A.length 1 0 0 0),(10,.ptr A.length 2 0 0 0),(11,.map A.length 3),(29,v29),(30,v30),(31,v31),(46,.lit (dl.map Zu)),(47,.int .i64 dl.length),(48,.int .i64 p.1)])
  (fun p=>⟨A,false,chL b6 t p.2.1 ((dl.take p.1).foldl QL w) p.2.2⟩) (fun p=>p.1<=dl.length/\DrOk A.length p.2.2 p.2.1 ((dl.take p.1).foldl QL w)) (fun p=>dl.length-p.1) (0,dv,G) rfl rfl ⟨Nat.zero_le _,h0⟩ ?_
 rintro ⟨i,dv1,G1⟩ ⟨hi,hD⟩
 simp only at hi hD ⊢
 have hwl:=Zb1 (dl.take i) w;rw [List.length_take,Nat.min_eq_left hi] at hwl
 rcases Nat.lt_or_ge i dl.length with hlt|hge
 ·obtain ⟨h,hh⟩:∃ x,dl[i]?=some x:=⟨dl[i]'hlt,jE _⟩
  have q:0<=((i:Nat):Int)/\dl[((i:Nat):Int).toNat]?=some h:=⟨by omega,by rw [show ((i:Nat):Int).toNat=i by omega];exact hh⟩
  have hnx:(dl.take (i+1)).foldl QL w=QL ((dl.take i).foldl QL w) h:=by rw [Zb hh,List.foldl_append];rfl
  generalize (dl.take i).foldl QL w=W at *
  have hlk:=ZF7 (st:=⟨A,false,chL b6 t dv1 W G1⟩) (lv:=A.length) (mx:=3) (St.get_cur ..) h
  by_cases hm:h∈W
  ·simp only [decide_eq_true hm] at hlk
   rw [show QL W h=W by unfold QL;rw [if_pos hm]] at hnx
   unfold chL at *
   repeat' (first|refine JC (f:=Zu) rfl rfl q (fun _=>rfl) ?_|refine ZE ?_|refine ZD ?_|refine ZF rfl ?_|refine ZB rfl ?_|refine ZC ?_|refine QI rfl rfl ?_|(refine Zh rfl rfl (fun _=>?_) (fun _=>?_)<;>try (exfalso;omega))|refine ZV rfl ?_|refine ZG rfl ?_|refine QZ rfl rfl ?_|refine Zj rfl rfl (by omega) ?_|refine XH rfl rfl hlk ?_|refine ZI ?_|refine ZJ ?_|refine Zy ?_|refine Z8 ?_)
   all_goals try contradiction
   all_goals try (exfalso;omega)
   exact ⟨(i+1,dv1,G1),⟨rfl,by simp only [hnx]⟩,⟨by simp only;omega,by simp only [hnx];exact hD⟩,by simp only;omega⟩
  ·simp only [decide_eq_false hm] at hlk
   rw [show QL W h=W++[h] by unfold QL;rw [if_neg hm]] at hnx
   have hpe:=ZN1 h W hm
   rcases hD with ⟨rfl,rfl⟩|⟨j,ver,rfl,hW,hg⟩
   ·unfold chL at *
    repeat' (first|refine JC (f:=Zu) rfl rfl q (fun _=>rfl) ?_|refine ZE ?_|refine ZD ?_|refine ZF rfl ?_|refine ZB rfl ?_|refine ZC ?_|refine QI rfl rfl ?_|(refine Zh rfl rfl (fun _=>?_) (fun _=>?_)<;>try (exfalso;omega))|refine ZV rfl ?_|refine QZ rfl rfl ?_|refine XH rfl rfl hlk ?_|refine ZI ?_|refine ZJ ?_)
    all_goals try contradiction
    all_goals try (exfalso;omega)
    refine ZgR rfl rfl rfl rfl rfl hpe ?_
    repeat' (first|refine ZD ?_|refine ZF rfl ?_|refine ZU rfl rfl ?_|refine ZO rfl rfl rfl rfl ?_|refine ZB rfl ?_|refine ZC ?_|refine QK rfl rfl rfl rfl ?_)
    refine ZF4 (vx:=.lit [.int .u64 h]) (ys:=[.int .u64 h]) (bytes:=8) rfl rfl rfl (by simp) (by decide) rfl ?_
    repeat' (first|refine ZD ?_|refine ZF rfl ?_|refine ZU rfl rfl ?_|refine ZB rfl ?_|refine ZC ?_|refine Zj rfl rfl (by omega) ?_|refine Q7 rfl rfl rfl rfl (JP _ (Nat.lt_succ_self _)) rfl ?_|refine Zy ?_|refine Z8 ?_)
    refine ⟨(i+1,.ref A.length (G1.length+4) 0 0 1,G1++[.arr 1 0 [.int .u64 h]]),⟨rfl,?_⟩,⟨by simp only;omega,?_⟩,by simp only;omega⟩
    ·simp only [hnx];rfl
    ·simp only [hnx]
     exact .inr ⟨G1.length,0,rfl,by simp,List.getElem?_concat_length ..⟩
   ·have hj:=(List.getElem?_eq_some_iff.1 hg).1
    have hg2:∀ b0 b1 b2 b3:Blk,(b0::b1::b2::b3::G1)[j+4]?=some (.arr 1 ver (W.map Zu)):=fun _ _ _ _=>hg
    unfold chL at *
    repeat' (first|refine JC (f:=Zu) rfl rfl q (fun _=>rfl) ?_|refine ZE ?_|refine ZD ?_|refine ZF rfl ?_|refine ZB rfl ?_|refine ZC ?_|refine QI rfl rfl ?_|(refine Zh rfl rfl (fun _=>?_) (fun _=>?_)<;>try (exfalso;omega))|refine ZV rfl ?_|refine QZ rfl rfl ?_|refine XH rfl rfl hlk ?_|refine ZI ?_|refine ZJ ?_)
    all_goals try contradiction
    all_goals try (exfalso;omega)
    refine ZgR rfl rfl rfl rfl rfl hpe ?_
    repeat' (first|refine ZD ?_|refine ZF rfl ?_|refine ZU rfl rfl ?_|refine ZO rfl rfl rfl rfl ?_|refine ZB rfl ?_|refine ZC ?_|refine QK rfl rfl rfl rfl ?_)
    refine Yw (es:=W.map Zu) (ys:=[.int .u64 h]) rfl rfl (hg2 _ _ _ _) (by rw [List.length_map]) rfl rfl (by simp;omega) (by decide) ?_
    repeat' (first|refine ZD ?_|refine ZF rfl ?_|refine ZU rfl rfl ?_|refine ZB rfl ?_|refine ZC ?_|refine Zj rfl rfl (by omega) ?_|refine Q7 rfl rfl rfl rfl (JP _ (Nat.lt_succ_self _)) rfl ?_|refine Zy ?_|refine Z8 ?_)
    refine ⟨(i+1,.ref A.length (j+4) (ver+1) 0 (W.length+1),G1.set j (.arr 1 (ver+1) (W.map Zu++[.int .u64 h]))),⟨rfl,?_⟩,⟨by simp only;omega,?_⟩,by simp only;omega⟩
    ·simp only [hnx];rfl
    ·simp only [hnx]
     refine .inr ⟨j,ver+1,by simp,by simp,?_⟩
     rw [List.getElem?_set_self hj,List.map_append];rfl
 ·obtain rfl:i=dl.length:=by omega
  rw [List.take_length] at hD ⊢
  repeat' (first|refine ZE ?_|refine ZD ?_|refine ZB rfl ?_|refine ZC ?_|(refine Zh rfl rfl (fun _=>?_) (fun _=>?_)<;>try (exfalso;omega))|refine ZG rfl ?_|refine Zs ?_|refine Zd ?_|refine Zc rfl ?_|refine Zo ?_)
  all_goals try (exfalso;omega)
  exact hQ G1 dv1 hD
def slH (l:List Nat):AV:=if l=[] then .nils else .lit (l.map Zu)
def Qo (ro:Ro) (fresh:List Nat) (d:AV):AV:=.agg [.int .u64 ro.at_,.int .i64 ro.h,.int .i64 ro.m.b,.int .i64 ro.m.r,.int .i64 ro.m.l,.lit (fresh.map Zu),d]
def chZ:AV:=.agg [.int .u64 0,.int .i64 0,.int .i64 0,.int .i64 0,.int .i64 0,.nils,.nils]
theorem ZmS {b lv ix ver q n:Nat} {ro:Ro} {fr:List Nat} (st:St) (hl:lv<b):ZY QD b st (Qo ro fr (.ref lv ix ver q n))=some (Qo ro fr (.ref lv ix ver q n),st):=by
 show (mapSt (keepN (ZY 5 b)) _ _).bind ZJM=_
 simp only [mapSt,keepN,Xm,jB,if_false,ZY,oS,if_pos hl,Yf,ZJM];rfl
theorem ZmT {A:List (Bool × List Blk)} {L:List Blk} {ix ver n:Nat} {ro:Ro} {fr d:List Nat} {z:Int} (hg:L[ix]?=some (.arr 1 ver (d.map Zu))) (hn:n=d.length) :
 ZY QD A.length ⟨A,false,L⟩ (.tup [Qo ro fr (.ref A.length ix ver 0 n),.int .i64 z])=some (.tup [Qo ro fr (.lit (d.map Zu)),.int .i64 z],⟨A,false,L.set ix .dead⟩):=by
 subst hn
 have h1:=ZI6 (n:=3) (A:=A) (s:=0) (m:=d.length) hg (by simp) (es':=d.map Zu) (by
  rw [List.drop_zero,List.take_of_length_le (by simp)]
  exact ZQk (k:=.u64) (fun n:Nat=>(n:Int)) 2 0 _ d)
 show (mapSt (ZY 5 A.length) _ _).bind Zb7=_
 have h2:ZY 5 A.length ⟨A,false,L⟩ (Qo ro fr (.ref A.length ix ver 0 d.length))=some (Qo ro fr (.lit (d.map Zu)),⟨A,false,L.set ix .dead⟩):=by
  show (mapSt (keepN (ZY 4 A.length)) _ _).bind ZJM=_
  simp only [mapSt,keepN,Xm,jB,if_false,oS];simp only [ZY,oS] at h1 ⊢;simp only [h1,oS,Yf,ZJM];rfl
 simp only [mapSt,h2,oS];rfl
theorem ZBQ {e:Env} {A:List (Bool × List Blk)} {st:St} {L L':List Blk} {x:Ex} {c4 c5 j4 w4 v4:Nat} {v w:AV} {cs:List AV} {z:Int} (hA:A=st.A++[(st.ro,st.L)]) (hx:x=.norm\/x=.ret) (h4:J0 e c4=some (.ptr A.length j4 v4 0 0)) (hg4:L[j4]?=some (.arr w4 v4 [v])) (hv:v=.agg cs) (hc:cs.length=7) (h5:J0 e c5=some (.int .i64 z))
 (hs:ZY QD A.length ⟨A,false,L⟩ (.tup [v,.int .i64 z])=some (.tup [w,.int .i64 z],⟨A,false,L'⟩)):Jh false [.c c4 true 7,.s c5] (x,e,⟨A,false,L⟩)=some (.tup [w,.int .i64 z],st):=by
 refine ZDR (v:=.tup [v,.int .i64 z]) hA hx ?_ hs rfl
 have h1:ZBJ ⟨A,false,L⟩ e (.c c4 true 7)=some v:=by
  subst hv;simp only [ZBJ,QN h4,loadP,St.get_cur,hg4,vis,ZF8,if_true,List.getElem?_cons_zero,oS,Qj,AV.cells,List.drop_zero]
  rw [List.take_of_length_le (by omega)]
  simp [hc]
  rfl
 simp only [QV,ZDP,h1,oS];simp only [ZBJ,QN h5,oS,Option.map_some,ZF9]
def YM (N:ZP) (rs:List Ro) (t:Tr):List Nat:=(rs.flatMap fun r=>ZDM N r t).foldl QL []
theorem AROk.lv {r:AR} (h:AROk r):∀ l,Lv r.nodes l->l.length<=16384:=fun l hl=>h.few hl.1 hl.2
theorem AROk.nz {r:AR} (h:AROk r):∀ o x,lk r.nodes o=some x->o≠0:=fun o x hx=>(h.hnd hx).2
theorem Zb2 {N:ZP} (hN:GoodN N) (hK:∀ l,Lv N l->l.length<=16384) {r:Ro} (hr:RtOk N r) (t:Tr):(ZDM N r t).length<=16384:=by
 unfold ZDM
 split
 ·simp
 ·rename_i h0
  obtain ⟨x,x1,x2,x3,x4⟩:∃ x,lk N r.at_=some x/\NdOk x/\x.h=r.h/\x.mea=r.m:=by
   rcases hr with rfl|w
   ·exact absurd rfl h0
   ·exact w.2
  have:=hK _ (ZmK hN r.h r.at_ [] x x1 x3 ⟨by simp,by simp⟩)
  exact Nat.le_trans (List.length_filter_le ..) this
theorem ZmU {N:ZP} (hN:GoodN N) (hK:∀ l,Lv N l->l.length<=16384) (t:Tr):∀ {rs:List Ro},(∀ r∈rs,RtOk N r)->(rs.flatMap fun r=>ZDM N r t).length<=rs.length*16384:=by
 intro rs
 induction rs with
 | nil=>intro _;simp
 | cons r l ih =>
  intro h
  have h1:=Zb2 hN hK (h r (by simp)) t
  have h2:=ih (fun z hz=>h z (List.mem_cons_of_mem _ hz))
  rw [List.flatMap_cons,lL,List.length_cons];omega
theorem DrOk.app {M:Nat} {G:List Blk} {dv:AV} {w:List Nat} (h:DrOk M G dv w) (T:List Blk):DrOk M (G++T) dv w:=by
 rcases h with h|⟨j,ver,h1,h2,h3⟩
 ·exact .inl h
 ·exact .inr ⟨j,ver,h1,h2,by rw [jL (List.getElem?_eq_some_iff.1 h3).1];exact h3⟩
theorem ZRM {A:List (Bool × List Blk)} {N:ZP} (hN:GoodN N) (hK:∀ l,Lv N l->l.length<=16384) (hz:∀ o x,lk N o=some x->o≠0) {la b:Nat} (hR:∀ L,Rd ⟨A,false,L⟩ la (b+5) N) {rs:List Ro} (hrs:∀ r∈rs,RtOk N r) (hl:rs.length<=3) {t:Tr} (hv:VE N t) (hb:t.bytes<=65536) {b6:Blk} {k:List Fr} {Q:YO}
 (hQ:∀ G dv,DrOk A.length G dv (YM N rs t)->Rk (S Tb) k Q .norm [(0,.ptr la (b+5) 0 0 0),(6,.ptr A.length 0 0 0 0),(8,.ptr A.length 1 0 0 0),(10,.ptr A.length 2 0 0 0),(11,.map A.length 3),(29,.lit (rs.map Ro.av)),(30,.int .i64 rs.length),(31,.int .i64 rs.length),(32,.bool false)] ⟨A,false,chL b6 t dv (YM N rs t) G⟩) :
 Ru (S Tb) p_edit_change_21.loop (.blk 0::k) Q [(0,.ptr la (b+5) 0 0 0),(6,.ptr A.length 0 0 0 0),(8,.ptr A.length 1 0 0 0),(10,.ptr A.length 2 0 0 0),(11,.map A.length 3),(29,.lit (rs.map Ro.av)),(30,.int .i64 rs.length),(31,.int .i64 0)] ⟨A,false,chL b6 t .nils [] []⟩:=by
 refine Zx (α:=Nat × AV × List Blk) (fun p=>[(0,.ptr la (b+5) 0 0 0),(6,.ptr A.length 0 0 0 0),(8,.ptr A.length 1 0 0 0),(10,.ptr A.length 2 0 0 0),(11,.map A.length 3),(29,.lit (rs.map Ro.av)),(30,.int .i64 rs.length),(31,.int .i64 p.1)])
  (fun p=>⟨A,false,chL b6 t p.2.1 (YM N (rs.take p.1) t) p.2.2⟩) (fun p=>p.1<=rs.length/\DrOk A.length p.2.2 p.2.1 (YM N (rs.take p.1) t)) (fun p=>rs.length-p.1) (0,.nils,[]) rfl rfl ⟨Nat.zero_le _,.inl ⟨rfl,rfl⟩⟩ ?_
 rintro ⟨i,dv,G⟩ ⟨hi,hD⟩
 simp only at hi hD ⊢
 rcases Nat.lt_or_ge i rs.length with hlt|hge
 ·obtain ⟨ro,hro⟩:∃ x,rs[i]?=some x:=⟨rs[i]'hlt,jE _⟩
  have q:0<=((i:Nat):Int)/\rs[((i:Nat):Int).toNat]?=some ro:=⟨by omega,by rw [show ((i:Nat):Int).toNat=i by omega];exact hro⟩
  have hrt:=hrs ro (jM hro)
  have hDp:=fun L=>ZkE hN hK hz (hR L) hrt hv hb
  have hdl:=Zb2 hN hK hrt t
  have hfl:=ZmU hN hK t (rs:=rs.take i) (fun z hz=>hrs z (List.mem_of_mem_take hz))
  rw [List.length_take,Nat.min_eq_left hi] at hfl
  have hwl:=Zb1 ((rs.take i).flatMap fun r=>ZDM N r t) []
  change (YM N (rs.take i) t).length<=_ at hwl
  simp only [List.length_nil] at hwl
  have hnx:YM N (rs.take (i+1)) t=(ZDM N ro t).foldl QL (YM N (rs.take i) t):=by
   unfold YM;rw [Zb hro,List.flatMap_append,List.foldl_append];simp
  have hin:=fun k Q hQ=>ZmR (A:=A) (b6:=b6) (t:=t) (dl:=ZDM N ro t) (hD.app [.arr 5 0 [ro.av]]) (by omega) (v0:=.ptr la (b+5) 0 0 0) (v29:=.lit (rs.map Ro.av)) (v30:=.int .i64 rs.length) (v31:=.int .i64 i) (k:=k) (Q:=Q) hQ
  rw [<- hnx] at hin
  generalize ZDM N ro t=dl at *
  generalize YM N (rs.take i) t=W at *
  have f13:∀ b0 b1 b2 b3:Blk,(b0::b1::b2::b3::G++[Blk.arr 5 0 [ro.av]])[(b0::b1::b2::b3::G).length]?=some (.arr 5 0 [ro.av]):=fun _ _ _ _=>List.getElem?_concat_length ..
  obtain ⟨ra,rh,rm⟩:=ro
  unfold chL Ro.av at *
  repeat' (first|refine hin _ _ (fun G' dv' hD'=>?_)|refine JC (f:=Ro.av) rfl rfl q (fun _=>rfl) ?_|refine YS rfl ?_|refine ZE ?_|refine ZD ?_|refine ZF rfl ?_|refine Zq rfl rfl ?_|refine ZB rfl ?_|refine ZC ?_|refine Q1 rfl rfl rfl ?_|refine QI rfl rfl ?_|(refine Zh rfl rfl (fun _=>?_) (fun _=>?_)<;>try (exfalso;omega))|(refine Zl rfl rfl (fun _=>?_) (fun _=>?_)<;>try (exfalso;omega))|refine ZV rfl ?_|refine ZG rfl ?_|refine Zj rfl rfl (by omega) ?_|refine Z1 rfl rfl rfl ?_|refine Yr rfl rfl rfl rfl rfl rfl ?_|refine ZA rfl rfl (by first|rfl|(simp only [lE,lN,lC,ZZ,ZW,ZX];first|done|rfl)) (hDp _) ?_|refine ZO rfl rfl rfl (Zk _) ?_|refine ZI ?_|refine ZJ ?_|refine Zy ?_|refine Z8 ?_)
  all_goals try contradiction
  all_goals try (exfalso;omega)
  exact ⟨(i+1,dv',G'),⟨rfl,rfl⟩,⟨by simp only;omega,hD'⟩,by simp only;omega⟩
 ·obtain rfl:i=rs.length:=by omega
  rw [List.take_length] at hD ⊢
  repeat' (first|refine ZE ?_|refine ZD ?_|refine ZB rfl ?_|refine ZC ?_|(refine Zh rfl rfl (fun _=>?_) (fun _=>?_)<;>try (exfalso;omega))|refine ZG rfl ?_|refine Zs ?_|refine Zd ?_|refine Zc rfl ?_|refine Zo ?_)
  all_goals try (exfalso;omega)
  exact hQ G dv hD
theorem ZRN {st:St} {la b:Nat} {r:AR} (hA:Has st la b r) (ho:AROk r) (hg:GoodN r.nodes) {rs:List Ro} (hrs:∀ r'∈rs,RtOk r.nodes r') (hl:rs.length<=3) {t:Tr} (hv:VE r.nodes t) (hb:t.bytes<=65536) {mk:FuncId} {caps:List AV}
 (hmk:∀ A L,A=st.ps->S Tb mk caps ⟨A,false,L⟩=some (.tup [t.av,.int .i64 0],⟨A,false,L⟩)) (hwk:ZX (ZZ ([]++[]++caps))=some caps) (hn:r.n<nw t) :
 S Tb XZ [.ptr la (b+5) 0 0 0,.func (.func mk) [] caps,.lit (rs.map Ro.av)] st=some (.tup [chZ,.int .i64 6],st):=by
 refine QJ rfl (fun A hA'=>?_)
 have hM:=fun L=>hmk A L hA'
 have hlp:=fun k Q hQ=>ZRM (A:=A) hg ho.lv ho.nz (fun L=>(hA.r.push hA' (ro:=false) (L:=L)).rd) hrs hl hv hb (b6:=.arr 7 0 [chZ]) (k:=k) (Q:=Q) hQ
 have hWr:=fun L=>ZYV (hA.push hA' (ro:=false) (L:=L)) ho hg hv hb hn
 unfold chL at hlp
 unfold chZ at *
 repeat' (first|refine ZA rfl rfl hwk (hM _) ?_|refine hlp _ _ (fun G dv hD=>?_)|refine YS rfl ?_|refine ZE ?_|refine ZD ?_|refine ZF rfl ?_|refine Zq rfl rfl ?_|refine ZB rfl ?_|refine ZC ?_|(refine Zl rfl rfl (fun _=>?_) (fun _=>?_)<;>try (exfalso;omega))|refine ZG rfl ?_|refine Zt rfl rfl rfl ?_|refine Ze rfl rfl rfl ?_|refine Zr rfl rfl rfl rfl rfl rfl ?_|refine ZB9 rfl ?_|refine ZO rfl rfl rfl (Zk _) ?_|refine Zr rfl rfl rfl (QH _ _ _) (Qc _ _) rfl ?_|refine ZI ?_|refine ZJ ?_)
 all_goals try contradiction
 rcases hD with ⟨_,rfl⟩|⟨j,ver,rfl,_,_⟩
 ·repeat' (first|refine ZE ?_|refine ZD ?_|refine ZF rfl ?_|refine ZU rfl rfl ?_|refine Zq rfl rfl ?_|refine ZB rfl ?_|refine ZC ?_|(refine Zl rfl rfl (fun _=>?_) (fun _=>?_)<;>try (exfalso;omega))|refine ZV rfl ?_|refine Zt rfl rfl rfl ?_|refine Q7 rfl rfl rfl rfl rfl rfl ?_|refine ZA rfl rfl (by first|rfl|(simp only [lE,lN,lC,ZZ,ZW,ZX];first|done|rfl)) (hWr _) ?_|refine ZQ ?_|refine ZL ?_|refine Za ?_)
  all_goals try contradiction
  exact ZBQ hA' (.inr rfl) rfl rfl rfl rfl rfl rfl
 ·repeat' (first|refine ZE ?_|refine ZD ?_|refine ZF rfl ?_|refine ZU rfl rfl ?_|refine Zq rfl rfl ?_|refine ZB rfl ?_|refine ZC ?_|(refine Zl rfl rfl (fun _=>?_) (fun _=>?_)<;>try (exfalso;omega))|refine ZV rfl ?_|refine Zt rfl rfl rfl ?_|refine Q7 rfl rfl rfl rfl rfl rfl ?_|refine ZA rfl rfl (by first|rfl|(simp only [lE,lN,lC,ZZ,ZW,ZX];first|done|rfl)) (hWr _) ?_|refine ZQ ?_|refine ZL ?_|refine Za ?_)
  all_goals try contradiction
  exact ZBQ hA' (.inr rfl) rfl rfl rfl rfl rfl rfl
theorem ZgS {st:St} {la b:Nat} {r:AR} (hA:Has st la b r) (ho:AROk r) (hg:GoodN r.nodes) {rs:List Ro} (hrs:∀ r'∈rs,RtOk r.nodes r') (hl:rs.length<=3) {t:Tr} (hv:VE r.nodes t) (hb:t.bytes<=65536) {mk:FuncId} {caps:List AV}
 (hmk:∀ A L,A=st.ps->S Tb mk caps ⟨A,false,L⟩=some (.tup [t.av,.int .i64 0],⟨A,false,L⟩)) (hwk:ZX (ZZ ([]++[]++caps))=some caps) (hn:nw t<=r.n) :
 S Tb XZ [.ptr la (b+5) 0 0 0,.func (.func mk) [] caps,.lit (rs.map Ro.av)] st=some (.tup [Qo (wrV t r).2.1 (wrV t r).2.2 (slH (YM r.nodes rs t)),.int .i64 0],Qb st la b (wrV t r).1):=by
 refine ZBD rfl (fun A hA'=>?_)
 have hM:=fun L=>hmk A L hA'
 have hlp:=fun k Q hQ=>ZRM (A:=A) hg ho.lv ho.nz (fun L=>(hA.r.push hA' (ro:=false) (L:=L)).rd) hrs hl hv hb (b6:=.arr 7 0 [chZ]) (k:=k) (Q:=Q) hQ
 have hle:=hA.le
 have hWr:=fun L=>ZeG (hA.push hA' (ro:=false) (L:=L)) ho hg hv hb hn
 simp only [XP hA' hle] at hWr
 have hAl:A.length=((Qb st la b (wrV t r).1).ps).length:=by rw [hA'];simp [ZDd]
 generalize (wrV t r).2.1=ro at *
 generalize (wrV t r).2.2=fr at *
 obtain ⟨A2,hA2⟩:∃ A2,A2=(Qb st la b (wrV t r).1).ps:=⟨_,rfl⟩;rw [<- hA2] at hWr hAl;unfold chL at hlp
 unfold chZ at *
 repeat' (first|refine ZA rfl rfl hwk (hM _) ?_|refine hlp _ _ (fun G dv hD=>?_)|refine YS rfl ?_|refine ZE ?_|refine ZD ?_|refine ZF rfl ?_|refine Zq rfl rfl ?_|refine ZB rfl ?_|refine ZC ?_|(refine Zl rfl rfl (fun _=>?_) (fun _=>?_)<;>try (exfalso;omega))|refine ZG rfl ?_|refine Zt rfl rfl rfl ?_|refine Ze rfl rfl rfl ?_|refine Zr rfl rfl rfl rfl rfl rfl ?_|refine ZB9 rfl ?_|refine ZO rfl rfl rfl (Zk _) ?_|refine Zr rfl rfl rfl (QH _ _ _) (Qc _ _) rfl ?_|refine ZI ?_|refine ZJ ?_)
 all_goals try contradiction
 obtain ⟨ra,rh,rm⟩:=ro;unfold Ro.av at hWr
 rcases hD with ⟨e,rfl⟩|⟨j,ver,rfl,hne,hgd⟩
 ·rw [e]
  repeat' (first|refine ZF rfl ?_|refine ZU rfl rfl ?_|refine Zq rfl rfl ?_|refine ZA rfl rfl (by first|rfl|(simp only [lE,lN,lC,ZZ,ZW,ZX];first|done|rfl)) (hWr _) ?_)
  rw [hAl]
  repeat' (first|refine ZE ?_|refine ZD ?_|refine ZF rfl ?_|refine ZU rfl rfl ?_|refine ZO rfl rfl rfl rfl ?_|refine ZB rfl ?_|refine ZC ?_|(refine Zl rfl rfl (fun _=>?_) (fun _=>?_)<;>try (exfalso;omega))|refine ZG rfl ?_|refine Q7 rfl rfl rfl rfl rfl rfl ?_|refine ZI ?_|refine ZQ ?_|refine ZL ?_)
  all_goals try contradiction
  exact ZBQ (w:=Qo ⟨ra,rh,rm⟩ fr .nils) hA2 (.inr rfl) rfl rfl rfl rfl rfl rfl
 ·have hg3:∀ b0 b1 b2 b3:Blk,(b0::b1::b2::b3::G)[j+4]?=some (.arr 1 ver ((YM r.nodes rs t).map Zu)):=fun _ _ _ _=>hgd
  unfold slH;rw [if_neg hne]
  generalize YM r.nodes rs t=dd at *
  repeat' (first|refine ZF rfl ?_|refine ZU rfl rfl ?_|refine Zq rfl rfl ?_|refine ZA rfl rfl (by first|rfl|(simp only [lE,lN,lC,ZZ,ZW,ZX];first|done|rfl)) (hWr _) ?_)
  rw [hAl]
  repeat' (first|refine Q7 rfl rfl rfl rfl (ZmS (ro:=⟨ra,rh,rm⟩) (fr:=fr) _ (Nat.lt_succ_self _)) rfl ?_|refine ZE ?_|refine ZD ?_|refine ZF rfl ?_|refine ZU rfl rfl ?_|refine ZO rfl rfl rfl rfl ?_|refine ZB rfl ?_|refine ZC ?_|(refine Zl rfl rfl (fun _=>?_) (fun _=>?_)<;>try (exfalso;omega))|refine ZG rfl ?_|refine Q7 rfl rfl rfl rfl rfl rfl ?_|refine ZI ?_|refine ZQ ?_|refine ZL ?_)
  all_goals try contradiction
  exact ZBQ (v:=Qo ⟨ra,rh,rm⟩ fr (.ref A2.length (j+4) ver 0 dd.length)) (w:=Qo ⟨ra,rh,rm⟩ fr (.lit (dd.map Zu))) hA2 (.inr rfl) rfl rfl rfl rfl rfl (ZmT (hg3 _ _ _ _) rfl)
noncomputable def edV (N:ZP) (ro:Ro) (a n:Int) (s:List UInt8):Tr:=(ZCl N (Jm ro) a n s).own
noncomputable def apV (N:ZP) (x y:Ro):Tr:=(Ym N (Jm x) (Jm y)).own
structure EdOk (N:ZP) (ro:Ro) (s0:List UInt8) (a n:Int) (s:List UInt8):Prop where
 rt:Rt N ro s0
 a0:0<=a
 n0:0<=n
 le:a+n<=s0.length
 b1:s0.length<=60000
 b2:s.length<=2000
theorem EdOk.ok {N:ZP} (hN:GoodN N) {ro:Ro} {s0:List UInt8} {a n:Int} {s:List UInt8} (h:EdOk N ro s0 a n s) :
 VE N (edV N ro a n s)/\(edV N ro a n s).bytes=s0.length-n+s.length/\(edV N ro a n s).txt N=s0.take a.toNat++s++s0.drop (a+n).toNat:=by
 obtain ⟨hk,htx⟩:=h.rt.keep;have hb:=(h.rt.b hN).1;have h1:=h.a0;have h2:=h.n0;have h3:=h.le;have h4:=h.b1;have h5:=h.b2
 have:=ZNs hN (s:=s) hk h1 h2 (by omega) (by omega) (by omega)
 refine ⟨Zhx this.ve,?_,?_⟩
 ·show (Tr.own _).bytes=_;rw [ZEj,this.bytes,hb]
 ·show (Tr.own _).txt N=_;rw [Ziv,this.txt,htx]
theorem Zh0 {N:ZP} (hN:GoodN N) {x y:Ro} {s t:List UInt8} (hx:Rt N x s) (hy:Rt N y t) (hb:s.length+t.length<=65536):VE N (apV N x y)/\(apV N x y).bytes=s.length+t.length/\(apV N x y).txt N=s++t:=by
 obtain ⟨k1,t1⟩:=hx.keep;obtain ⟨k2,t2⟩:=hy.keep;have b1:=(hx.b hN).1;have b2:=(hy.b hN).1
 have:=Xc hN k1 k2 (by omega)
 refine ⟨Zhx this.ve,?_,?_⟩
 ·show (Tr.own _).bytes=_;rw [ZEj,this.bytes];omega
 ·show (Tr.own _).txt N=_;rw [Ziv,this.txt,t1,t2]
theorem ZmV {st:St} {la b:Nat} {N:ZP} (hN:GoodN N) (hR:Rd st la (b+5) N) {ro:Ro} {s0:List UInt8} {a n:Int} {s:List UInt8} (h:EdOk N ro s0 a n s) :
 S Tb ZHW [.ptr la (b+5) 0 0 0,ro.av,.int .i64 a,.int .i64 n,.str s] st=some (.tup [(edV N ro a n s).av,.int .i64 0],st):=by
 refine QJ rfl (fun A hA=>?_)
 have hRA:=fun L=>hR.push hA (ro:=false) (L:=L)
 have hKp:=fun L=>ZJI (hRA L) h.rt.rt
 obtain ⟨hk,htx⟩:=h.rt.keep;have hb:=(h.rt.b hN).1;have h1:=h.a0;have h2:=h.n0;have h3:=h.le;have h4:=h.b1;have h5:=h.b2
 have hRp:=fun L=>Zbt hN (hRA L) hk (a:=a) (n:=n) (s:=s) h1 h2 (by omega) (by omega) (by omega)
 unfold edV
 generalize (ZCl N (Jm ro) a n s).own=t at *
 generalize Jm ro=kt at *
 obtain ⟨ra,rh,rm⟩:=ro
 unfold Ro.av at *
 repeat' (first|refine ZA rfl rfl Ziw (hRp _) ?_|refine ZE ?_|refine ZD ?_|refine ZF rfl ?_|refine ZO rfl rfl rfl rfl ?_|refine Zq rfl rfl ?_|refine ZB rfl ?_|refine ZC ?_|(refine Zl rfl rfl (fun _=>?_) (fun _=>?_)<;>try (exfalso;omega))|refine ZG rfl ?_|refine Ze rfl rfl rfl ?_|refine ZA rfl rfl (by first|rfl|(simp only [lE,lN,lC,ZZ,ZW,ZX];first|done|rfl)) (hKp _) ?_|refine ZO rfl rfl rfl (Zk _) ?_|refine Zr rfl rfl rfl (QH _ _ _) (Qc _ _) rfl ?_|refine ZI ?_|refine ZQ ?_|refine ZL ?_)
 all_goals try contradiction
 all_goals try (exfalso;omega)
 exact ZAy hA (.inr rfl) rfl rfl rfl rfl
theorem ZgT {st:St} {la b lv:Nat} {N:ZP} (hN:GoodN N) (hR:Rd st la (b+5) N) {ro:Ro} {s0:List UInt8} {a n:Int} {s:List UInt8} (h:EdOk N ro s0 a n s)
 (g0:st.get lv 0=some (.arr 1 0 [.ptr la (b+5) 0 0 0])) (g1:st.get lv 1=some (.arr 5 0 [ro.av])) (g2:st.get lv 2=some (.arr 1 0 [.int .i64 a])) (g3:st.get lv 3=some (.arr 1 0 [.int .i64 n])) (g4:st.get lv 4=some (.arr 1 0 [.str s])) :
 S Tb YK [.ptr lv 0 0 0 0,.ptr lv 1 0 0 0,.ptr lv 2 0 0 0,.ptr lv 3 0 0 0,.ptr lv 4 0 0 0] st=some (.tup [(edV N ro a n s).av,.int .i64 0],st):=by
 refine QJ rfl (fun A hA=>?_)
 have hPl:=fun L=>ZmV hN (hR.push hA (ro:=false) (L:=L)) h
 have k0:=fun L=>ZS hA (ro:=false) (L:=L) g0
 have k1:=fun L=>ZS hA (ro:=false) (L:=L) g1
 have k2:=fun L=>ZS hA (ro:=false) (L:=L) g2
 have k3:=fun L=>ZS hA (ro:=false) (L:=L) g3
 have k4:=fun L=>ZS hA (ro:=false) (L:=L) g4
 generalize edV N ro a n s=t at *
 repeat' (first|refine Z9 rfl (k0 _) rfl rfl ?_|refine Z9 rfl (k1 _) rfl (XQ _) ?_|refine Z9 rfl (k2 _) rfl rfl ?_|refine Z9 rfl (k3 _) rfl rfl ?_|refine Z9 rfl (k4 _) rfl rfl ?_|refine ZE ?_|refine ZD ?_|refine ZF rfl ?_|refine Zq rfl rfl ?_|refine ZB rfl ?_|refine ZC ?_|refine Ze rfl rfl rfl ?_|refine ZA rfl rfl (by first|rfl|(simp only [lE,lN,lC,ZZ,ZW,ZX];first|done|rfl)) (hPl _) ?_|refine Zr rfl rfl rfl (QH _ _ _) (Qc _ _) rfl ?_|refine ZQ ?_|refine ZL ?_)
 all_goals try contradiction
 exact ZAy hA (.inr rfl) rfl rfl rfl rfl
theorem ZYc {st:St} {la b:Nat} {r:AR} (hA:Has st la b r) (ho:AROk r) (hg:GoodN r.nodes) {ro:Ro} {s0:List UInt8} {a n:Int} {s:List UInt8} (h:EdOk r.nodes ro s0 a n s) (hn:nw (edV r.nodes ro a n s)<=r.n) :
 S Tb Y6 [.ptr la (b+5) 0 0 0,ro.av,.int .i64 a,.int .i64 n,.str s] st=some (.tup [Qo (wrV (edV r.nodes ro a n s) r).2.1 (wrV (edV r.nodes ro a n s) r).2.2 (slH (YM r.nodes [ro] (edV r.nodes ro a n s))),.int .i64 0],Qb st la b (wrV (edV r.nodes ro a n s) r).1):=by
 refine ZBD rfl (fun A hA'=>?_)
 have hle:=hA.le;obtain ⟨hv,hvb,_⟩:=h.ok hg;have h1:=h.n0;have h4:=h.b1;have h5:=h.b2
 have hCh:=ZgS (st:=⟨A,false,[.arr 1 0 [.ptr la (b+5) 0 0 0],.arr 5 0 [ro.av],.arr 1 0 [.int .i64 a],.arr 1 0 [.int .i64 n],.arr 1 0 [.str s],.arr 7 0 [chZ]]⟩) (hA.push hA') ho hg (rs:=[ro]) (fun z hz=>by rw [List.mem_singleton] at hz;rw [hz];exact h.rt.rt) (by simp) hv (by omega) (mk:=YK) (caps:=[.ptr A.length 0 0 0 0,.ptr A.length 1 0 0 0,.ptr A.length 2 0 0 0,.ptr A.length 3 0 0 0,.ptr A.length 4 0 0 0])
  (fun A2 L h2=>ZgT hg ((hA.push hA').r.rd.push h2) h (ZS h2 (St.get_cur ..)) (ZS h2 (St.get_cur ..)) (ZS h2 (St.get_cur ..)) (ZS h2 (St.get_cur ..)) (ZS h2 (St.get_cur ..))) rfl hn
 rw [XP hA' hle] at hCh
 have hAl:A.length=((Qb st la b (wrV (edV r.nodes ro a n s) r).1).ps).length:=by rw [hA'];simp [ZDd]
 generalize (wrV (edV r.nodes ro a n s) r).2.1=r2 at *
 generalize (wrV (edV r.nodes ro a n s) r).2.2=fr at *
 generalize YM r.nodes [ro] (edV r.nodes ro a n s)=dd at *
 obtain ⟨A2,hA2⟩:∃ A2,A2=(Qb st la b (wrV (edV r.nodes ro a n s) r).1).ps:=⟨_,rfl⟩;rw [<- hA2] at hCh hAl;simp only [jC,List.map_nil] at hCh;obtain ⟨x1,x2,x3⟩:=r2;unfold chZ at hCh;unfold Ro.av at hCh ⊢
 by_cases hd:dd=[]
 ·subst hd
  rw [show slH []=.nils from rfl] at hCh ⊢
  unfold Qo at hCh
  repeat' (first|refine ZE ?_|refine ZD ?_|refine ZF rfl ?_|refine ZO rfl rfl rfl rfl ?_|refine Zq rfl rfl ?_|refine ZB rfl ?_|refine ZC ?_|refine YY rfl rfl ?_|refine Ze rfl rfl rfl ?_|refine QK rfl rfl rfl rfl ?_|refine ZA rfl rfl rfl (hCh) ?_)
  rw [hAl]
  repeat' (first|refine ZF rfl ?_|refine ZB rfl ?_|refine ZC ?_|refine Zr rfl rfl rfl rfl rfl rfl ?_|refine ZQ ?_|refine ZL ?_)
  all_goals try contradiction
  exact ZBQ (w:=Qo ⟨x1,x2,x3⟩ fr .nils) hA2 (.inr rfl) rfl rfl rfl rfl rfl rfl
 ·rw [show slH dd=.lit (dd.map Zu) from if_neg hd] at hCh ⊢
  unfold Qo at hCh
  repeat' (first|refine ZE ?_|refine ZD ?_|refine ZF rfl ?_|refine ZO rfl rfl rfl rfl ?_|refine Zq rfl rfl ?_|refine ZB rfl ?_|refine ZC ?_|refine YY rfl rfl ?_|refine Ze rfl rfl rfl ?_|refine QK rfl rfl rfl rfl ?_|refine ZA rfl rfl rfl (hCh) ?_)
  rw [hAl]
  repeat' (first|refine ZF rfl ?_|refine ZB rfl ?_|refine ZC ?_|refine Zr rfl rfl rfl rfl rfl rfl ?_|refine ZQ ?_|refine ZL ?_)
  all_goals try contradiction
  exact ZBQ (w:=Qo ⟨x1,x2,x3⟩ fr (.lit (dd.map Zu))) hA2 (.inr rfl) rfl rfl rfl rfl rfl rfl
theorem Zi0 {st:St} {la b lv:Nat} {N:ZP} (hN:GoodN N) (hR:Rd st la (b+5) N) {x y:Ro} {s t:List UInt8} (hx:Rt N x s) (hy:Rt N y t) (hb:s.length+t.length<=65536)
 (g0:st.get lv 0=some (.arr 1 0 [.ptr la (b+5) 0 0 0])) (g1:st.get lv 1=some (.arr 5 0 [x.av])) (g2:st.get lv 2=some (.arr 5 0 [y.av])) :
 S Tb Yk [.ptr lv 0 0 0 0,.ptr lv 1 0 0 0,.ptr lv 2 0 0 0] st=some (.tup [(apV N x y).av,.int .i64 0],st):=by
 refine QJ rfl (fun A hA=>?_)
 have hRA:=fun L=>hR.push hA (ro:=false) (L:=L)
 have hK1:=fun L=>ZJI (hRA L) hx.rt
 have hK2:=fun L=>ZJI (hRA L) hy.rt
 obtain ⟨v1,_⟩:=hx.keep;obtain ⟨v2,_⟩:=hy.keep;have b1:=(hx.b hN).1;have b2:=(hy.b hN).1
 have hCo:=fun L=>Zlj hN (hRA L) v1 v2 (by omega)
 have k0:=fun L=>ZS hA (ro:=false) (L:=L) g0
 have k1:=fun L=>ZS hA (ro:=false) (L:=L) g1
 have k2:=fun L=>ZS hA (ro:=false) (L:=L) g2
 unfold apV
 generalize (Ym N (Jm x) (Jm y)).own=u at *
 generalize Jm x=kx at *
 generalize Jm y=ky at *
 repeat' (first|refine Z9 rfl (k0 _) rfl rfl ?_|refine Z9 rfl (k1 _) rfl (XQ _) ?_|refine Z9 rfl (k2 _) rfl (XQ _) ?_|refine ZE ?_|refine ZD ?_|refine ZF rfl ?_|refine Zq rfl rfl ?_|refine ZB rfl ?_|refine ZC ?_|(refine Zl rfl rfl (fun _=>?_) (fun _=>?_)<;>try (exfalso;omega))|refine ZG rfl ?_|refine Ze rfl rfl rfl ?_|refine ZA rfl rfl (by first|rfl|(simp only [lE,lN,lC,ZZ,ZW,ZX];first|done|rfl)) (hK1 _) ?_|refine ZA rfl rfl (by first|rfl|(simp only [lE,lN,lC,ZZ,ZW,ZX];first|done|rfl)) (hK2 _) ?_|refine ZA rfl rfl (by first|rfl|(simp only [lE,lN,lC,ZZ,ZW,ZX];first|done|rfl)) (hCo _) ?_|refine ZO rfl rfl rfl (Zk _) ?_|refine Zr rfl rfl rfl (QH _ _ _) (Qc _ _) rfl ?_|refine ZI ?_|refine ZQ ?_|refine ZL ?_)
 all_goals try contradiction
 all_goals exact ZAy hA (.inr rfl) rfl rfl rfl rfl
theorem ZkF {st:St} {la b:Nat} {r:AR} (hA:Has st la b r) (ho:AROk r) (hg:GoodN r.nodes) {x y:Ro} {s t:List UInt8} (hx:Rt r.nodes x s) (hy:Rt r.nodes y t) (hb:s.length+t.length<=65536) (hn:nw (apV r.nodes x y)<=r.n) :
 S Tb ZAt [.ptr la (b+5) 0 0 0,x.av,y.av] st=some (.tup [Qo (wrV (apV r.nodes x y) r).2.1 (wrV (apV r.nodes x y) r).2.2 (slH (YM r.nodes [x,y] (apV r.nodes x y))),.int .i64 0],Qb st la b (wrV (apV r.nodes x y) r).1):=by
 refine ZBD rfl (fun A hA'=>?_)
 have hle:=hA.le;obtain ⟨hv,hvb,_⟩:=Zh0 hg hx hy hb
 have hCh:=ZgS (st:=⟨A,false,[.arr 1 0 [.ptr la (b+5) 0 0 0],.arr 5 0 [x.av],.arr 5 0 [y.av],.arr 7 0 [chZ]]⟩) (hA.push hA') ho hg (rs:=[x,y]) (fun z hz=>by rw [List.mem_cons,List.mem_singleton] at hz;rcases hz with hz|hz<;>rw [hz];exact hx.rt;exact hy.rt) (by simp) hv (by omega) (mk:=Yk) (caps:=[.ptr A.length 0 0 0 0,.ptr A.length 1 0 0 0,.ptr A.length 2 0 0 0])
  (fun A2 L h2=>Zi0 hg ((hA.push hA').r.rd.push h2) hx hy hb (ZS h2 (St.get_cur ..)) (ZS h2 (St.get_cur ..)) (ZS h2 (St.get_cur ..))) rfl hn
 rw [XP hA' hle] at hCh
 have hAl:A.length=((Qb st la b (wrV (apV r.nodes x y) r).1).ps).length:=by rw [hA'];simp [ZDd]
 generalize (wrV (apV r.nodes x y) r).2.1=r2 at *
 generalize (wrV (apV r.nodes x y) r).2.2=fr at *
 generalize YM r.nodes [x,y] (apV r.nodes x y)=dd at *
 obtain ⟨A2,hA2⟩:∃ A2,A2=(Qb st la b (wrV (apV r.nodes x y) r).1).ps:=⟨_,rfl⟩;rw [<- hA2] at hCh hAl;simp only [jC,List.map_nil] at hCh;obtain ⟨x1,x2,x3⟩:=r2;unfold chZ at hCh;unfold Ro.av at hCh ⊢
 by_cases hd:dd=[]
 ·subst hd
  rw [show slH []=.nils from rfl] at hCh ⊢
  unfold Qo at hCh
  repeat' (first|refine ZE ?_|refine ZD ?_|refine ZF rfl ?_|refine ZO rfl rfl rfl rfl ?_|refine Zq rfl rfl ?_|refine ZB rfl ?_|refine ZC ?_|refine YY rfl rfl ?_|refine Ze rfl rfl rfl ?_|refine QK rfl rfl rfl rfl ?_|refine ZA rfl rfl rfl (hCh) ?_)
  rw [hAl]
  repeat' (first|refine ZF rfl ?_|refine ZB rfl ?_|refine ZC ?_|refine Zr rfl rfl rfl rfl rfl rfl ?_|refine ZQ ?_|refine ZL ?_)
  all_goals try contradiction
  exact ZBQ (w:=Qo ⟨x1,x2,x3⟩ fr .nils) hA2 (.inr rfl) rfl rfl rfl rfl rfl rfl
 ·rw [show slH dd=.lit (dd.map Zu) from if_neg hd] at hCh ⊢
  unfold Qo at hCh
  repeat' (first|refine ZE ?_|refine ZD ?_|refine ZF rfl ?_|refine ZO rfl rfl rfl rfl ?_|refine Zq rfl rfl ?_|refine ZB rfl ?_|refine ZC ?_|refine YY rfl rfl ?_|refine Ze rfl rfl rfl ?_|refine QK rfl rfl rfl rfl ?_|refine ZA rfl rfl rfl (hCh) ?_)
  rw [hAl]
  repeat' (first|refine ZF rfl ?_|refine ZB rfl ?_|refine ZC ?_|refine Zr rfl rfl rfl rfl rfl rfl ?_|refine ZQ ?_|refine ZL ?_)
  all_goals try contradiction
  exact ZBQ (w:=Qo ⟨x1,x2,x3⟩ fr (.lit (dd.map Zu))) hA2 (.inr rfl) rfl rfl rfl rfl rfl rfl
theorem ZbC {st:St} {la b:Nat} {r:AR} (hA:Has st la b r) (ho:AROk r) (hg:GoodN r.nodes) {ro:Ro} {s0:List UInt8} {a n:Int} {s:List UInt8} (h:EdOk r.nodes ro s0 a n s) (hn:r.n<nw (edV r.nodes ro a n s)) :
 S Tb Y6 [.ptr la (b+5) 0 0 0,ro.av,.int .i64 a,.int .i64 n,.str s] st=some (.tup [chZ,.int .i64 6],st):=by
 refine QJ rfl (fun A hA'=>?_)
 have hle:=hA.le;obtain ⟨hv,hvb,_⟩:=h.ok hg;have h1:=h.n0;have h4:=h.b1;have h5:=h.b2
 have hCh:=ZRN (st:=⟨A,false,[.arr 1 0 [.ptr la (b+5) 0 0 0],.arr 5 0 [ro.av],.arr 1 0 [.int .i64 a],.arr 1 0 [.int .i64 n],.arr 1 0 [.str s],.arr 7 0 [chZ]]⟩) (hA.push hA') ho hg (rs:=[ro]) (fun z hz=>by rw [List.mem_singleton] at hz;rw [hz];exact h.rt.rt) (by simp) hv (by omega) (mk:=YK) (caps:=[.ptr A.length 0 0 0 0,.ptr A.length 1 0 0 0,.ptr A.length 2 0 0 0,.ptr A.length 3 0 0 0,.ptr A.length 4 0 0 0])
  (fun A2 L h2=>ZgT hg ((hA.push hA').r.rd.push h2) h (ZS h2 (St.get_cur ..)) (ZS h2 (St.get_cur ..)) (ZS h2 (St.get_cur ..)) (ZS h2 (St.get_cur ..)) (ZS h2 (St.get_cur ..))) rfl hn
 simp only [jC,List.map_nil] at hCh;unfold chZ at hCh ⊢;unfold Ro.av at hCh ⊢
 repeat' (first|refine ZE ?_|refine ZD ?_|refine ZF rfl ?_|refine ZO rfl rfl rfl rfl ?_|refine Zq rfl rfl ?_|refine ZB rfl ?_|refine ZC ?_|refine YY rfl rfl ?_|refine Ze rfl rfl rfl ?_|refine Zr rfl rfl rfl rfl rfl rfl ?_|refine QK rfl rfl rfl rfl ?_|refine ZA rfl rfl rfl (hCh) ?_|refine ZQ ?_|refine ZL ?_)
 all_goals try contradiction
 exact ZBQ (w:=chZ) hA' (.inr rfl) rfl rfl rfl rfl rfl rfl
theorem ZeM {st:St} {la b:Nat} {r:AR} (hA:Has st la b r) (ho:AROk r) (hg:GoodN r.nodes) {x y:Ro} {s t:List UInt8} (hx:Rt r.nodes x s) (hy:Rt r.nodes y t) (hb:s.length+t.length<=65536) (hn:r.n<nw (apV r.nodes x y)) :
 S Tb ZAt [.ptr la (b+5) 0 0 0,x.av,y.av] st=some (.tup [chZ,.int .i64 6],st):=by
 refine QJ rfl (fun A hA'=>?_)
 have hle:=hA.le;obtain ⟨hv,hvb,_⟩:=Zh0 hg hx hy hb
 have hCh:=ZRN (st:=⟨A,false,[.arr 1 0 [.ptr la (b+5) 0 0 0],.arr 5 0 [x.av],.arr 5 0 [y.av],.arr 7 0 [chZ]]⟩) (hA.push hA') ho hg (rs:=[x,y]) (fun z hz=>by rw [List.mem_cons,List.mem_singleton] at hz;rcases hz with hz|hz<;>rw [hz];exact hx.rt;exact hy.rt) (by simp) hv (by omega) (mk:=Yk) (caps:=[.ptr A.length 0 0 0 0,.ptr A.length 1 0 0 0,.ptr A.length 2 0 0 0])
  (fun A2 L h2=>Zi0 hg ((hA.push hA').r.rd.push h2) hx hy hb (ZS h2 (St.get_cur ..)) (ZS h2 (St.get_cur ..)) (ZS h2 (St.get_cur ..))) rfl hn
 simp only [jC,List.map_nil] at hCh;unfold chZ at hCh ⊢;unfold Ro.av at hCh ⊢
 repeat' (first|refine ZE ?_|refine ZD ?_|refine ZF rfl ?_|refine ZO rfl rfl rfl rfl ?_|refine Zq rfl rfl ?_|refine ZB rfl ?_|refine ZC ?_|refine YY rfl rfl ?_|refine Ze rfl rfl rfl ?_|refine Zr rfl rfl rfl rfl rfl rfl ?_|refine QK rfl rfl rfl rfl ?_|refine ZA rfl rfl rfl (hCh) ?_|refine ZQ ?_|refine ZL ?_)
 all_goals try contradiction
 exact ZBQ (w:=chZ) hA' (.inr rfl) rfl rfl rfl rfl rfl rfl
theorem ZIx (w:List Nat) (hl:w.length<9223372036854775808) (st:St):S Tb Qs [.lit (w.map Zu),.lit (w.map Zu)] st=some (.bool true,st):=by
 refine QJ rfl (fun A hA=>?_)
 repeat' (first|refine YS rfl ?_|refine ZE ?_|refine ZD ?_|refine ZF rfl ?_|refine ZB rfl ?_|refine ZC ?_|(refine Zl rfl rfl (fun _=>?_) (fun _=>?_)<;>try (exfalso;omega))|refine ZG rfl ?_|refine ZI ?_|refine ZJ ?_)
 all_goals try contradiction
 refine Zx (α:=Nat) (fun i=>[(0,.lit (w.map Zu)),(1,.lit (w.map Zu)),(5,.int .i64 i)]) (fun i=>⟨A,false,[]⟩) (fun i=>i<=w.length) (fun i=>w.length-i) 0 rfl rfl (Nat.zero_le _) ?_
 intro i hi;replace hi:i<=w.length:=hi
 rcases Nat.lt_or_ge i w.length with hlt|hge
 ·obtain ⟨k,hk⟩:∃ k,w[i]?=some k:=⟨w[i]'hlt,jE _⟩
  have q:0<=((i:Nat):Int)/\w[((i:Nat):Int).toNat]?=some k:=⟨by omega,by rw [show ((i:Nat):Int).toNat=i by omega];exact hk⟩
  repeat' (first|refine YS rfl ?_|refine JC (f:=Zu) rfl rfl q (fun _=>rfl) ?_|refine ZE ?_|refine ZD ?_|refine ZF rfl ?_|refine ZB rfl ?_|refine ZC ?_|refine QI rfl rfl ?_|(refine Zh rfl rfl (fun _=>?_) (fun _=>?_)<;>try (exfalso;omega))|(refine Zl rfl rfl (fun _=>?_) (fun _=>?_)<;>try (exfalso;omega))|refine ZV rfl ?_|refine ZG rfl ?_|refine Zj rfl rfl (by omega) ?_|refine ZI ?_|refine ZJ ?_|refine Zy ?_|refine Z8 ?_)
  all_goals try contradiction
  all_goals try (exfalso;omega)
  all_goals first|exact absurd rfl ‹_›|exact ⟨i+1,⟨rfl,rfl⟩,by omega,by omega⟩
 ·obtain rfl:i=w.length:=by omega
  repeat' (first|refine YS rfl ?_|refine ZE ?_|refine ZD ?_|refine ZF rfl ?_|refine ZB rfl ?_|refine ZC ?_|(refine Zh rfl rfl (fun _=>?_) (fun _=>?_)<;>try (exfalso;omega))|refine ZG rfl ?_|refine ZQ ?_|refine Zs ?_|refine ZL ?_|refine Zd ?_|refine Zc rfl ?_|refine Zo ?_)
  all_goals try (exfalso;omega)
  refine Zg hA (by first|exact .inl rfl|exact .inr rfl) rfl rfl rfl rfl ?_
  rfl
structure Op where
 at_:Int
 num:Int
 text:List UInt8
def Op.av (y:Op):AV:=.agg [.int .i64 y.at_,.int .i64 y.num,.str y.text]
def ZqL (l:List Op):Prop:=∃ s∈l,300<s.text.length
noncomputable instance (l:List Op):Decidable (ZqL l):=Classical.propDecidable _
def exU:List UInt8:=[97,98,99,100,101,102,103,104,105,106,107,108,109,110,111,112,113]
theorem ZJL:Qm exU=.mk 0 1 .zero [] (some [Js [97,98,99,100,101,102,103,104,105],Js [106,107,108,109,110,111,112,113]]):=by
 rfl
noncomputable def exUR:AR:=(wrV (Qm exU) (JH 8 4)).1
theorem ZmW:(wrV (Qm exU) (JH 8 4)).2.1=⟨65538,1,⟨17,17,0⟩⟩:=by
 rw [ZJL];rfl
theorem ZmX:nw (Qm exU)=3:=by rw [ZJL];rfl
theorem ZqM:exUR.n=5:=by unfold exUR;rw [ZJL];rfl
theorem Zpt:nw (edV exUR.nodes ⟨65538,1,⟨17,17,0⟩⟩ 9 0 [120,121,122])<=5:=by
 unfold exUR;rw [ZJL]
 decide +kernel
def exURo:Ro:=⟨65538,1,⟨17,17,0⟩⟩
theorem ZkG (A:List (Bool × List Blk)):S Tb YG [] ⟨A,false,[]⟩=some (.tup [.ptr A.length 6 0 0 0,exURo.av,.bool true],⟨A,false,[.arr 5 0 [exURo.av]]++(arB A.length 1 exUR++[.arr 5 0 [exURo.av]])⟩):=by
 have hN:=Zik 8 4 (by omega) (by omega) A [.arr 5 0 [Ro.zero.av]]
 have h1:=Ziu (Yy A [.arr 5 0 [Ro.zero.av]] [] (JH 8 4)) (ZYW 8 4 (by omega) (by omega)) ZNt exU (by decide) (by rw [ZmX];decide)
 rw [ZN4,ZmW] at h1
 change S Tb ZCB [.ptr A.length 6 0 0 0,.str exU] ⟨A,false,_⟩=some (_,⟨A,false,[.arr 5 0 [Ro.zero.av]]++(arB A.length 1 exUR++[])⟩) at h1
 refine ZAg rfl ?_
 repeat' (first|refine ZE ?_|refine ZD ?_|refine ZF rfl ?_|refine QE rfl ?_|refine Zn rfl rfl rfl rfl ?_|refine Zq rfl rfl ?_|refine ZB rfl ?_|refine ZC ?_|(refine Zl rfl rfl (fun _=>?_) (fun _=>?_)<;>try (exfalso;omega))|refine ZG rfl ?_|refine JO rfl rfl rfl rfl ?_|refine Ze rfl rfl rfl ?_|refine ZA rfl rfl rfl (hN) ?_|refine ZI ?_)
 all_goals try contradiction
 all_goals try (exfalso;omega)
 unfold exU at h1;refine ZA rfl rfl rfl h1 ?_
 change Is _ _ _ _ _ _ ⟨A,false,[.arr 5 0 [Ro.zero.av],exUR.b0,exUR.b1,exUR.b2,exUR.b3 A.length 1,exUR.b4,exUR.b5 A.length 1]⟩
 generalize hb0:exUR.b0=b0 at *
 generalize hb1:exUR.b1=b1 at *
 generalize hb2:exUR.b2=b2 at *
 generalize hb3:exUR.b3 A.length 1=b3 at *
 generalize hb4:exUR.b4=b4 at *
 generalize hb5:exUR.b5 A.length 1=b5 at *
 repeat' (first|refine ZJF rfl rfl rfl rfl rfl rfl ?_|refine ZF0 rfl rfl rfl rfl rfl rfl rfl ?_|refine ZE ?_|refine ZD ?_|refine ZF rfl ?_|refine ZU rfl rfl ?_|refine ZO rfl rfl rfl rfl ?_|refine QE rfl ?_|refine Zn rfl rfl rfl rfl ?_|refine Zq rfl rfl ?_|refine ZB rfl ?_|refine ZC ?_|(refine Zp rfl rfl (fun _=>?_) (fun _=>?_)<;>try (exfalso;omega))|refine Ze rfl rfl rfl ?_|refine Zr rfl rfl rfl rfl rfl rfl ?_|refine ZQ ?_|refine ZL ?_)
 all_goals first|exact absurd rfl ‹_›|(refine (ZpJ (.inr rfl) rfl rfl rfl rfl rfl).trans ?_;subst hb0 hb1 hb2 hb3 hb4 hb5;rfl)
theorem exU_ok:AROk exUR/\GoodN exUR.nodes/\Rt exUR.nodes exURo exU:=by
 obtain ⟨b1,b2,b3⟩:=XO ZNt (s:=exU) (by decide)
 have ho:=ZYW 8 4 (by omega) (by omega)
 obtain ⟨w1,w2⟩:=ZRJ (r:=JH 8 4) (Yy [] [] [] _) ho ZNt b1 (by rw [b3];decide) (by rw [ZmX];decide)
 rw [show (JH 8 4).nodes=[] from rfl,b2,ZmW] at w2
 exact ⟨w1.ok,w1.good,w2⟩
theorem exU_edOk:EdOk exUR.nodes exURo exU 9 0 [120,121,122]:=⟨exU_ok.2.2,by decide,by decide,by decide,by decide,by decide⟩
theorem Zi1:nw (edV exUR.nodes exURo 9 0 [120,121,122])<=exUR.n:=by rw [ZqM];exact Zpt
theorem ZmY {st:St} {la b:Nat} {r:AR} (hA:Has st la b r) (ho:AROk r) (hg:GoodN r.nodes) {ro:Ro} {s0:List UInt8} {a:Int} {s:List UInt8} (h:EdOk r.nodes ro s0 a 0 s) (hn:nw (edV r.nodes ro a 0 s)<=r.n) :
 S Tb ZAu [.ptr la (b+5) 0 0 0,ro.av,.int .i64 a,.str s] st=some (.tup [Qo (wrV (edV r.nodes ro a 0 s) r).2.1 (wrV (edV r.nodes ro a 0 s) r).2.2 (slH (YM r.nodes [ro] (edV r.nodes ro a 0 s))),.int .i64 0],Qb st la b (wrV (edV r.nodes ro a 0 s) r).1):=by
 refine ZBD rfl (fun A hA'=>?_)
 have hle:=hA.le
 have hCh:=fun L=>ZYc (hA.push hA' (ro:=false) (L:=L)) ho hg h hn
 simp only [XP hA' hle] at hCh
 have hAl:A.length=((Qb st la b (wrV (edV r.nodes ro a 0 s) r).1).ps).length:=by rw [hA'];simp [ZDd]
 generalize (wrV (edV r.nodes ro a 0 s) r).2.1=r2 at *
 generalize (wrV (edV r.nodes ro a 0 s) r).2.2=fr at *
 generalize YM r.nodes [ro] (edV r.nodes ro a 0 s)=dd at *
 obtain ⟨A2,hA2⟩:∃ A2,A2=(Qb st la b (wrV (edV r.nodes ro a 0 s) r).1).ps:=⟨_,rfl⟩;rw [<- hA2] at hCh hAl;obtain ⟨x1,x2,x3⟩:=r2;unfold Ro.av at hCh ⊢
 by_cases hd:dd=[]
 ·subst hd
  rw [show slH []=.nils from rfl] at hCh ⊢
  unfold Qo at hCh
  repeat' (first|refine ZE ?_|refine ZD ?_|refine ZF rfl ?_|refine ZO rfl rfl rfl rfl ?_|refine Zq rfl rfl ?_|refine ZB rfl ?_|refine ZC ?_|refine Ze rfl rfl rfl ?_|refine ZA rfl rfl rfl (hCh _) ?_)
  rw [hAl]
  repeat' (first|refine ZF rfl ?_|refine ZB rfl ?_|refine ZC ?_|refine Zr rfl rfl rfl rfl rfl rfl ?_|refine ZQ ?_|refine ZL ?_)
  all_goals try contradiction
  exact ZBQ (w:=Qo ⟨x1,x2,x3⟩ fr .nils) hA2 (.inr rfl) rfl rfl rfl rfl rfl rfl
 ·rw [show slH dd=.lit (dd.map Zu) from if_neg hd] at hCh ⊢
  unfold Qo at hCh
  repeat' (first|refine ZE ?_|refine ZD ?_|refine ZF rfl ?_|refine ZO rfl rfl rfl rfl ?_|refine Zq rfl rfl ?_|refine ZB rfl ?_|refine ZC ?_|refine Ze rfl rfl rfl ?_|refine ZA rfl rfl rfl (hCh _) ?_)
  rw [hAl]
  repeat' (first|refine ZF rfl ?_|refine ZB rfl ?_|refine ZC ?_|refine Zr rfl rfl rfl rfl rfl rfl ?_|refine ZQ ?_|refine ZL ?_)
  all_goals try contradiction
  exact ZBQ (w:=Qo ⟨x1,x2,x3⟩ fr (.lit (dd.map Zu))) hA2 (.inr rfl) rfl rfl rfl rfl rfl rfl
theorem Zb3 (st:St):S T3 QX [] st=some (.bool true,st):=by
 refine QJ (le3 QX (.pf XW) rfl) (fun A hA=>?_)
 obtain ⟨o1,o2,o3⟩:=exU_ok;have hS:=up3 (ZkG A);obtain ⟨v1,v2,v3⟩:=exU_edOk.ok o2
 obtain ⟨w1,w2⟩:=ZRJ (r:=exUR) (Yy [] [] [] _) o1 o2 v1 (by rw [v2];decide) Zi1
 rw [v3] at w2
 have hI:=fun T=>up3 (ZmY (Yy A [.arr 5 0 [exURo.av]] T exUR) o1 o2 exU_edOk Zi1)
 simp only [ZN4] at hI
 generalize edV exUR.nodes exURo 9 0 [120,121,122]=t at *
 generalize YM exUR.nodes [exURo] t=dd at *
 have hT:=fun T=>Zl6 w1.good (Yy A [.arr 5 0 [exURo.av]] T (wrV t exUR).1).r.rd w2.rt (by rw [w2.leaves w1.good];decide)
 rw [w2.leaves w1.good] at hT
 generalize (wrV t exUR).2.2=fr at *
 generalize (wrV t exUR).2.1=r2 at *
 generalize (wrV t exUR).1=R2 at *
 change ∀ T,S T3 ZA6 [.ptr A.length 6 0 0 0,r2.av] ⟨A,false,.arr 5 0 [exURo.av]::R2.b0::R2.b1::R2.b2::R2.b3 A.length 1::R2.b4::R2.b5 A.length 1::T⟩=some (_,⟨A,false,.arr 5 0 [exURo.av]::R2.b0::R2.b1::R2.b2::R2.b3 A.length 1::R2.b4::R2.b5 A.length 1::T⟩) at hT
 change ∀ T,S T3 ZAu [.ptr A.length 6 0 0 0,exURo.av,.int .i64 9,.str [120,121,122]] ⟨A,false,.arr 5 0 [exURo.av]::exUR.b0::exUR.b1::exUR.b2::exUR.b3 A.length 1::exUR.b4::exUR.b5 A.length 1::T⟩=some (_,⟨A,false,.arr 5 0 [exURo.av]::R2.b0::R2.b1::R2.b2::R2.b3 A.length 1::R2.b4::R2.b5 A.length 1::T⟩) at hI
 change S T3 YG [] ⟨A,false,[]⟩=some (_,⟨A,false,.arr 5 0 [exURo.av]::exUR.b0::exUR.b1::exUR.b2::exUR.b3 A.length 1::exUR.b4::exUR.b5 A.length 1::[.arr 5 0 [exURo.av]]⟩) at hS
 generalize exUR.b0=b0 at *
 generalize exUR.b1=b1 at *
 generalize exUR.b2=b2 at *
 generalize exUR.b3 A.length 1=b3 at *
 generalize exUR.b4=b4 at *
 generalize exUR.b5 A.length 1=b5 at *
 generalize R2.b0=c0 at *
 generalize R2.b1=c1 at *
 generalize R2.b2=c2 at *
 generalize R2.b3 A.length 1=c3 at *
 generalize R2.b4=c4 at *
 generalize R2.b5 A.length 1=c5 at *
 obtain ⟨x1,x2,x3⟩:=r2;unfold Qo at hI
 unfold exURo Ro.av at *
 unfold exU at hT
 by_cases hd:dd=[]
 ·subst hd
  rw [show slH []=.nils from rfl] at hI
  repeat' (first|refine ZE ?_|refine ZD ?_|refine ZF rfl ?_|refine ZU rfl rfl ?_|refine ZO rfl rfl rfl rfl ?_|refine QE rfl ?_|refine Zn rfl rfl rfl rfl ?_|refine Zq rfl rfl ?_|refine ZB rfl ?_|refine ZC ?_|(refine Zp rfl rfl (fun _=>?_) (fun _=>?_)<;>try (exfalso;omega))|(refine YW rfl rfl (fun _=>?_) (fun _=>?_)<;>try contradiction)|refine ZG rfl ?_|refine QZ rfl rfl ?_|refine Ze rfl rfl rfl ?_|refine Zr rfl rfl rfl rfl rfl rfl ?_|refine ZA rfl rfl rfl (hS) ?_|refine ZA rfl rfl rfl (hI _) ?_|refine ZA rfl rfl rfl (hT _) ?_|refine ZI ?_|refine ZQ ?_|refine ZL ?_)
  all_goals try contradiction
  all_goals try (exfalso;omega)
  all_goals try exact absurd rfl ‹_›
  refine Zg hA (by first|exact .inl rfl|exact .inr rfl) rfl rfl rfl rfl ?_
  rfl
 ·rw [show slH dd=.lit (dd.map Zu) from if_neg hd] at hI
  repeat' (first|refine ZE ?_|refine ZD ?_|refine ZF rfl ?_|refine ZU rfl rfl ?_|refine ZO rfl rfl rfl rfl ?_|refine QE rfl ?_|refine Zn rfl rfl rfl rfl ?_|refine Zq rfl rfl ?_|refine ZB rfl ?_|refine ZC ?_|(refine Zp rfl rfl (fun _=>?_) (fun _=>?_)<;>try (exfalso;omega))|(refine YW rfl rfl (fun _=>?_) (fun _=>?_)<;>try contradiction)|refine ZG rfl ?_|refine QZ rfl rfl ?_|refine Ze rfl rfl rfl ?_|refine Zr rfl rfl rfl rfl rfl rfl ?_|refine ZA rfl rfl rfl (hS) ?_|refine ZA rfl rfl rfl (hI _) ?_|refine ZA rfl rfl rfl (hT _) ?_|refine ZI ?_|refine ZQ ?_|refine ZL ?_)
  all_goals try contradiction
  all_goals try (exfalso;omega)
  all_goals try exact absurd rfl ‹_›
  refine Zg hA (by first|exact .inl rfl|exact .inr rfl) rfl rfl rfl rfl ?_
  rfl
def ZDN (texts:List (List UInt8)) (ys:List Ed):Prop:=ZRK texts\/ZYZ ys\/12<ys.length
noncomputable instance (texts:List (List UInt8)) (ys:List Ed):Decidable (ZDN texts ys):=Classical.propDecidable _
theorem ZmZ (texts:List (List UInt8)) (ys:List Ed) (hb:texts.length<9223372036854775808) (hbs:∀ s∈texts,s.length<9223372036854775808) (hy:ys.length<9223372036854775808) (hys:∀ y∈ys,y.text.length<9223372036854775808) (st:St) :
 S Tb Y5 [.lit (texts.map .str),.lit (ys.map Ed.av)] st=some (.bool (decide (ZDN texts ys)),st):=by
 refine QJ rfl (fun A hA=>?_)
 have hLg:=fun st=>Zpk texts hb hbs st
 have hMn:=fun st=>ZmB ys hy hys st
 by_cases hl:ZRK texts
 ·rw [decide_eq_true (show ZDN texts ys from .inl hl)]
  simp only [decide_eq_true hl] at hLg
  repeat' (first|refine ZE ?_|refine ZD ?_|refine ZF rfl ?_|refine Jq rfl rfl ?_|refine Zn rfl rfl rfl rfl ?_|refine ZB rfl ?_|refine ZC ?_|refine ZA rfl rfl rfl (hLg _) ?_|refine ZQ ?_|refine ZL ?_)
  all_goals try contradiction
  all_goals refine Zg hA (by first|exact .inl rfl|exact .inr rfl) rfl rfl rfl rfl ?_
  all_goals rfl
 simp only [decide_eq_false hl] at hLg
 by_cases hm:ZYZ ys
 ·rw [decide_eq_true (show ZDN texts ys from .inr (.inl hm))]
  simp only [decide_eq_true hm] at hMn
  repeat' (first|refine ZE ?_|refine ZD ?_|refine ZF rfl ?_|refine QE rfl ?_|refine Jq rfl rfl ?_|refine Zn rfl rfl rfl rfl ?_|refine ZB rfl ?_|refine ZC ?_|refine ZA rfl rfl rfl (hLg _) ?_|refine ZA rfl rfl rfl (hMn _) ?_|refine ZQ ?_|refine ZL ?_)
  all_goals try contradiction
  all_goals refine Zg hA (by first|exact .inl rfl|exact .inr rfl) rfl rfl rfl rfl ?_
  all_goals rfl
 simp only [decide_eq_false hm] at hMn
 by_cases h12:12<ys.length
 ·rw [decide_eq_true (show ZDN texts ys from .inr (.inr h12))]
  repeat' (first|refine YS rfl ?_|refine ZE ?_|refine ZD ?_|refine ZF rfl ?_|refine QE rfl ?_|refine Zn rfl rfl rfl rfl ?_|refine ZB rfl ?_|refine ZC ?_|(refine Qe rfl rfl (fun _=>?_) (fun _=>?_)<;>try (exfalso;omega))|refine ZA rfl rfl rfl (hLg _) ?_|refine ZA rfl rfl rfl (hMn _) ?_|refine ZQ ?_|refine ZL ?_)
  all_goals try contradiction
  all_goals try (exfalso;omega)
  all_goals refine Zg hA (by first|exact .inl rfl|exact .inr rfl) rfl rfl rfl rfl ?_
  all_goals rfl
 ·rw [decide_eq_false (show ¬ ZDN texts ys from fun q=>q.elim hl fun q=>q.elim hm h12)]
  repeat' (first|refine YS rfl ?_|refine ZE ?_|refine ZD ?_|refine ZF rfl ?_|refine QE rfl ?_|refine Zn rfl rfl rfl rfl ?_|refine ZB rfl ?_|refine ZC ?_|(refine Qe rfl rfl (fun _=>?_) (fun _=>?_)<;>try (exfalso;omega))|refine ZA rfl rfl rfl (hLg _) ?_|refine ZA rfl rfl rfl (hMn _) ?_|refine ZQ ?_|refine ZL ?_)
  all_goals try contradiction
  all_goals try (exfalso;omega)
  all_goals refine Zg hA (by first|exact .inl rfl|exact .inr rfl) rfl rfl rfl rfl ?_
  all_goals rfl
theorem ZeN (x n:Int) (h0:0<=n) (h1:n<4611686018427387904) (st:St):S Tb JQ [.int .i64 x,.int .i64 n] st=some (.int .i64 (JI x n),st):=by
 refine QJ rfl (fun A hA=>?_)
 have hP:=fun st=>ZeK x n h0 h1 st
 repeat' (first|refine ZE ?_|refine ZD ?_|refine ZF rfl ?_|refine ZB rfl ?_|refine ZC ?_|refine ZA rfl rfl rfl (hP _) ?_|refine ZQ ?_|refine ZL ?_)
 refine Zg hA (by first|exact .inl rfl|exact .inr rfl) rfl rfl rfl rfl ?_
 rfl
theorem Zi2 {T:Tab} {g:FuncId} {ws:List AV} {A:List (Bool × List Blk)} {L L':List Blk} {v:AV} (hc:S T g ws ⟨A++[(false,L)],false,[]⟩=some (v,⟨A++[(false,L')],false,[]⟩))
 (hs:ZY QD (A++[(false,L')]).length ⟨A++[(false,L')],false,[]⟩ v=some (v,⟨A++[(false,L')],false,[]⟩)):Q3 (S T) .inner g ws ⟨A,false,L⟩=some (v,⟨A,false,L'⟩):=by
 simp only [Q3,St.push,hc,oS,ZKE,ZBR];rw [hs];simp only [oS,Jo,ZEt,ZLY]
theorem Zma (b:Nat) (st:St) (x:Ro) (fr dd:List Nat) (z:Int):ZY QD b st (.tup [Qo x fr (slH dd),.int .i64 z])=some (.tup [Qo x fr (slH dd),.int .i64 z],st):=by
 unfold slH Qo
 split<;>rfl
theorem Zmb (b:Nat) (st:St) (z:Int):ZY QD b st (.tup [chZ,.int .i64 z])=some (.tup [chZ,.int .i64 z],st):=rfl
theorem Zb4 (j:Nat):∀ L:List Blk,findH j (L++[Blk.hole j])=some L.length
 | []=>by simp [findH]
 | b::L=>by simp only [lC,findH,Zb4 j L,List.length_cons]
section
variable {O:Orc} {k:List Fr} {Q:YO} {e:Env} {A:List (Bool × List Blk)} {L:List Blk} {keep:List Nat} {is:List QAbs.PI} {d:Nat}
theorem ZYd {j w:Nat} {x:Opd} {v:AV} (hx:Zf e x=some v) (hw:v.wide=some w) (h:Is O is keep k Q ((d,.ptr A.length L.length 0 0 0)::e) ⟨A,false,L++[Blk.arr w 0 [v]]⟩) :
 Is O (⟨some d,none,false,.w (.here j) (.box x)⟩::is) keep k Q e ⟨A,false,L++[Blk.hole j]⟩:=by
 have hf:findH j (L++[Blk.hole j])=some L.length:=by
  exact Zb4 j L
 refine Z4 (v:=.ptr A.length L.length 0 0 0) (st':=⟨A,false,L++[Blk.arr w 0 [v]]⟩) ?_ h;simp only [Zi,QC,newOf,ZH hx,hw,oS,ZUb,ZeY,and_self,if_true,hf,ZUa]
 simp
end
theorem Zi3 (ro:Ro) (fr:List Nat) (d:AV):Qj (Qo ro fr d) true 0 5=some ro.av:=rfl
theorem Zof (b:Nat) (st:St) (ro:Ro) (fr dd:List Nat):ZY QD b st (Qo ro fr (slH dd))=some (Qo ro fr (slH dd),st):=by
 unfold slH Qo
 split<;>rfl
theorem Zpu (y:AV) (ro:Ro) (fr dd:List Nat):(JJ 7 y 0 7 (Qo ro fr (slH dd))).bind YZ=some (Qo ro fr (slH dd)):=by
 unfold slH Qo
 split<;>rfl
theorem ZN8 {N M:ZP} (hN:GoodN N) (hs:Ext N M):∀ n o x,lk N o=some x->x.h=n->Qn M n o=Qn N n o:=by
 intro n
 induction n with
 | zero=>intro o x hx hh;rfl
 | succ n ih =>
  intro o x hx hh;obtain ⟨hok,hk⟩:=hN o x hx;rw [ZN2 hx hok hh,ZN2 (hs _ _ hx) hok hh]
  have key:∀ l:List Kid,(∀ k∈l,k∈x.ks)->(l.flatMap fun k=>Qn M n k.at_)=l.flatMap fun k=>Qn N n k.at_:=by
   intro l
   induction l with
   | nil=>intro _;rfl
   | cons k l ih2 =>
    intro h
    obtain ⟨_,y,y1,y2,_⟩:=hk k (h k (by simp))
    rw [List.flatMap_cons,List.flatMap_cons,ih k.at_ y y1 (by omega),ih2 (fun q hq=>h q (by simp [hq]))]
  rw [show n+1-1=n by omega,key x.ks fun _ h=>h]
theorem Zh1 {N M:ZP} (hN:GoodN N) (hE:Ext N M) {r:Ro} (h:RtOk N r):Z5 M r=Z5 N r:=by
 unfold Z5
 split
 ·rfl
 ·rename_i q
  rcases h with e|⟨_,x,h1,_,h2,_⟩
  ·rw [e] at q;exact absurd rfl q
  ·exact ZN8 hN hE _ _ x h1 h2
def InP (N:ZP) (P:Nat->Prop) (t:Tr):Prop:=∀ o∈t.und N,P o
def InL (N:ZP) (P:Nat->Prop) (l:List Tr):Prop:=∀ t∈l,InP N P t
theorem undL_mem {N:ZP} {o:Nat}:∀ {l:List Tr},o∈Tr.undL N l↔∃ t∈l,o∈t.und N
 | []=>by simp [Tr.undL]
 | t::l=>by rw [Tr.undL,List.mem_append,undL_mem (l:=l)];simp
section
variable {N:ZP} {P:Nat->Prop}
theorem Zb5 {t:Tr} (h:IsEmpty t):t.und N=[]:=by
 obtain ⟨o,h',m,s,k⟩:=t;obtain ⟨h1,h2,h3,h4,h5⟩:=h
 simp only [Tr.old,Tr.h,Tr.m,Tr.text,Tr.ks] at *
 subst h1;rw [Tr.und,if_pos rfl,Tr.undO_getD,h5,Tr.undL]
theorem Zmc {t:Tr} (h:IsEmpty t):InP N P t:=fun o ho=>by rw [Zb5 h] at ho;simp at ho
theorem ZN9:InP N P .zero:=Zmc zero_empty
theorem ZUV (s:List UInt8):InP N P (Js s):=fun o ho=>by
 rw [Js,Tr.und,if_pos rfl,Tr.undO] at ho;simp at ho
theorem ZEl (hN:GoodN N) {t:Tr} (hv:Val N t) (hg:1<=t.h) (h:InP N P t):InL N P (Z0 N t):=by
 cases hv with
 | kept h0 hx hok hh hm hk =>
  rename_i o h' m k x
  intro u hu q hq;simp only [Z0,if_neg h0,hx] at hu;obtain ⟨kd,hkd,rfl⟩:=List.mem_map.1 hu;obtain ⟨k0,y,y1,y2,y3⟩:=(hN o x hx).2 kd hkd;rw [Xl,Tr.und,if_neg k0,JD y1] at hq;refine h q ?_;rw [Tr.und,if_neg h0,JD hx,ZN2 hx hok rfl,List.mem_cons]
  exact .inr (List.mem_flatMap.2 ⟨kd,hkd,by rw [show x.h-1=y.h by omega];exact hq⟩)
 | leaf h1 h2 hk=>simp [Tr.h] at hg
 | inner hh h2 h4 hl hb hv =>
  rename_i h' l
  intro u hu q hq;refine h q ?_;rw [Tr.und,if_pos rfl,Tr.undO];exact undL_mem.2 ⟨u,hu,hq⟩
theorem ZCp {l:List Tr} (h:InL N P l):InP N P (grp l):=by
 match l,h with
 | [],_=>exact ZN9
 | [t],h=>exact h t (by simp)
 | t::u::r,h =>
  intro q hq
  rw [ZI9 (by simp),Tr.und,if_pos rfl,Tr.undO] at hq
  obtain ⟨w,hw,hq⟩:=undL_mem.1 hq;exact h w hw q hq
theorem InL.app {l m:List Tr} (h:InL N P l) (g:InL N P m):InL N P (l++m):=fun t ht=>by
 rcases List.mem_append.1 ht with q|q
 ·exact h t q
 ·exact g t q
theorem InL.tk {l:List Tr} (h:InL N P l) (n:Nat):InL N P (l.take n):=fun t ht=>h t (List.mem_of_mem_take ht)
theorem InL.dr {l:List Tr} (h:InL N P l) (n:Nat):InL N P (l.drop n):=fun t ht=>h t (List.mem_of_mem_drop ht)
theorem Zi4 {l:List Tr} (h:InL N P l):InL N P (ZCk l):=by
 unfold ZCk
 split
 ·intro t ht;rw [List.mem_singleton] at ht;rw [ht];exact ZCp h
 ·intro t ht
  simp only [List.mem_cons,List.not_mem_nil,or_false] at ht
  rcases ht with rfl|rfl
  ·exact ZCp (h.tk _)
  ·exact ZCp (h.dr _)
theorem Zmd {x y:Tr} (hx:InP N P x) (hy:InP N P y):InL N P [x,y]:=fun t ht=>by
 simp only [List.mem_cons,List.not_mem_nil,or_false] at ht
 rcases ht with rfl|rfl<;>assumption
theorem ZYe (hN:GoodN N):∀ n x y,Val N x->Val N y->n=x.h+y.h->InP N P x->InP N P y->InL N P (Ja N n x y)
 | 0,x,y,hx,hy,hn,ix,iy=>by
  rw [Ja];unfold ZDK
  split
  ·exact Zmd ix iy
  ·intro t ht
   obtain ⟨s,_,rfl⟩:=List.mem_map.1 ht;exact ZUV s
 | n+1,x,y,hx,hy,hn,ix,iy=>by
  rw [Ja]
  split
  ·have cx:=ZEl hN hx (by omega) ix
   have cy:=ZEl hN hy (by omega) iy
   split
   ·intro t ht;rw [List.mem_singleton] at ht;rw [ht];exact ZCp (cx.app cy)
   ·exact Zmd ix iy
  ·split
   ·have cx:=ZEl hN hx (by omega) ix
    obtain ⟨c1,c2,c3,c4⟩:=JF hN hx (by omega)
    have hum:(Z0 N x)[(Z0 N x).length-1]?.getD Tr.zero∈Z0 N x:=by rw [jE (by omega)];simp
    obtain ⟨u1,u2,u3⟩:=c1 _ hum
    exact Zi4 ((cx.tk _).app (ZYe hN n _ y u1 hy (by omega) (cx _ hum) iy))
   ·have cy:=ZEl hN hy (by omega) iy
    obtain ⟨c1,c2,c3,c4⟩:=JF hN hy (by omega)
    have hum:(Z0 N y)[0]?.getD Tr.zero∈Z0 N y:=by rw [jE (by omega)];simp
    obtain ⟨u1,u2,u3⟩:=c1 _ hum
    exact Zi4 ((ZYe hN n x _ hx u1 (by omega) ix (cy _ hum)).app (cy.dr _))
theorem ZOA (hN:GoodN N) {x y:Tr} (hx:VE N x) (hy:VE N y) (ix:InP N P x) (iy:InP N P y):InP N P (Ym N x y):=by
 unfold Ym
 split
 ·exact iy
 ·rename_i h
  split
  ·exact ix
  ·rename_i h2
   exact ZCp (ZYe hN _ x y (hx.val h) (hy.val h2) rfl ix iy)
theorem Zme (hN:GoodN N):∀ n t a,VE N t->t.h=n->0<=a->a<=t.bytes->t.bytes<=65536->InP N P t->InP N P (Xv N n t a).1/\InP N P (Xv N n t a).2:=by
 intro n
 induction n with
 | zero =>
  intro t a ht hh h0 h1 hb it;rw [Xv]
  split
  ·exact ⟨ZN9,it⟩
  ·split
   ·exact ⟨it,ZN9⟩
   ·exact ⟨ZUV _,ZUV _⟩
 | succ n ih =>
  intro t a ht hh h0 h1 hb it;rw [Xv]
  split
  ·exact ⟨ZN9,it⟩
  ·split
   ·exact ⟨it,ZN9⟩
   ·rename_i q1 q2
    have vt:=ht.val (by omega)
    have h16:=vt.h16
    have ic:=ZEl hN vt (by omega) it
    obtain ⟨c1,c2,c3,c4⟩:=JF hN vt (by omega)
    generalize Z0 N t=l at *
    obtain ⟨s1,s2,s3,s4⟩:=ZNo l a (by omega) (fun u hu=>by have:=(c1 u hu).1.pos.2;omega) h0 (by omega)
    generalize hk:(JG l a).1=k at *
    generalize hb2:(JG l a).2=b at *
    have hl:∀ u∈l,Val N u/\u.h=n/\Big u:=fun u hu=>⟨(c1 u hu).1,by have:=(c1 u hu).2.1;omega,(c1 u hu).2.2⟩
    split
    ·exact ⟨ZCp (ic.tk _),ZCp (ic.dr _)⟩
    ·obtain ⟨u,hu⟩:∃ u,l[k]?=some u:=⟨l[k],by simp [s1]⟩
     have hum:=jM hu;have hbu:=s4 u hu;have iu:=ic u hum;rw [hu];simp only [Option.getD_some];obtain ⟨u1,u2,u3⟩:=hl u hum
     have hub:u.bytes<=Tr.bytesL l:=by
      have hsum:Tr.bytesL l=Tr.bytesL (l.take k)+Tr.bytesL (l.drop k):=by rw [<- Tr.bytesL_append,List.take_append_drop]
      have hd:l.drop k=u::l.drop (k+1):=by
       obtain ⟨w1,w2⟩:=List.getElem?_eq_some_iff.1 hu;rw [List.drop_eq_getElem_cons w1,w2]
      rw [hd,Tr.bytesL] at hsum
      have n1:=Tr.bytesL_nonneg (l:=l.take k) (fun w hw=>(hl w (List.mem_of_mem_take hw)).1.pos.1.nonneg)
      have n2:=Tr.bytesL_nonneg (l:=l.drop (k+1)) (fun w hw=>(hl w (List.mem_of_mem_drop hw)).1.pos.1.nonneg)
      omega
     have hc:=ZDL hN n u b (.inr u1) u2 s2 (by omega) (by omega)
     obtain ⟨i1,i2⟩:=ih u b (.inr u1) u2 s2 (by omega) (by omega) iu
     have g1:=(ZFz (l:=l.take k) (h:=n) (by rw [List.length_take];omega) (by omega) (fun w hw=>hl w (List.mem_of_mem_take hw))).1
     have g2:=(ZFz (l:=l.drop (k+1)) (h:=n) (by rw [List.length_drop];omega) (by omega) (fun w hw=>hl w (List.mem_of_mem_drop hw))).1
     exact ⟨ZOA hN g1 hc.l (ZCp (ic.tk _)) i1,ZOA hN hc.r g2 i2 (ZCp (ic.dr _))⟩
theorem Zi5:∀ (n:Nat) (row:List Tr),InL N P row->InL N P (XC n row)
 | 0,row,h=>by rw [XC];exact h
 | n+1,row,h=>by
  rw [XC]
  split
  ·exact h
  ·refine Zi5 n _ (fun t ht=>?_)
   unfold ZBE at ht;obtain ⟨i,hi,rfl⟩:=List.mem_map.1 ht
   exact ZCp (fun u hu=>h u (List.mem_of_mem_drop (List.mem_of_mem_take hu)))
theorem Zmf (s:List UInt8):InP N P (Qm s):=by
 unfold Qm
 refine ZCp (Zi5 _ _ (fun t ht=>?_))
 obtain ⟨c,_,rfl⟩:=List.mem_map.1 ht;exact ZUV c
theorem Zog (hN:GoodN N) {t:Tr} (ht:VE N t) {a n:Int} {s:List UInt8} (h0:0<=a) (h1:0<=n) (h2:a+n<=t.bytes) (hb:t.bytes<=65536) (hs:t.bytes-n+s.length<=65536) (it:InP N P t):InP N P (ZCl N t a n s):=by
 unfold ZCl
 split
 ·exact it
 ·have c1:=ZDL hN t.h t a ht rfl h0 (by omega) hb
  obtain ⟨i1,i2⟩:=Zme hN t.h t a ht rfl h0 (by omega) hb it
  generalize Xv N t.h t a=q at *
  obtain ⟨l,m⟩:=q
  simp only at *
  have hm:=c1.rb;have hl:=c1.lb
  simp only at hm hl
  have c2:=ZDL hN m.h m n c1.r rfl h1 (by omega) (by omega)
  obtain ⟨i3,i4⟩:=Zme hN m.h m n c1.r rfl h1 (by omega) (by omega) i2
  generalize Xv N m.h m n=q at *
  obtain ⟨d,r⟩:=q
  simp only at *
  obtain ⟨b1,b2,b3⟩:=XO hN (s:=s) (by omega)
  have k1:=Xc hN c1.l b1 (by rw [b3];simp only;omega)
  exact ZOA hN k1.ve c2.r (ZOA hN c1.l b1 i1 (Zmf s)) i4
theorem Zi6 (t:Tr):t.own.und N=t.und N:=by
 induction t using Tr.ind with
 | step o h m s k ih =>
  rw [Tr.own,Tr.und,Tr.und]
  split
  ·rw [Tr.undO_getD,Tr.undO_getD,ZB0]
   generalize k.getD []=l at ih
   induction l with
   | nil=>rfl
   | cons a l ih2=>rw [jC,Tr.undL,Tr.undL,ih a (by simp),ih2 (fun t ht=>ih t (by simp [ht]))]
  ·rfl
end
theorem ZYf {N:ZP} {r:Ro} (h:RtOk N r):(Jm r).und N=Z5 N r:=by
 unfold Jm Z5
 split
 ·rfl
 ·rename_i h0
  obtain ⟨x,x1,x2,x3,x4⟩:∃ x,lk N r.at_=some x/\NdOk x/\x.h=r.h/\x.mea=r.m:=by
   rcases h with rfl|w
   ·exact absurd rfl h0
   ·exact w.2
  rw [Tr.keep,Tr.und,if_neg h0,JD x1,x3]
theorem Zpv {N:ZP} (hN:GoodN N) {ro:Ro} {s0:List UInt8} {a n:Int} {s:List UInt8} (h:EdOk N ro s0 a n s):∀ o∈(edV N ro a n s).und N,o∈Z5 N ro:=by
 obtain ⟨hk,htx⟩:=h.rt.keep;have hb:=(h.rt.b hN).1;have h1:=h.a0;have h2:=h.n0;have h3:=h.le;have h4:=h.b1;have h5:=h.b2;unfold edV;rw [Zi6]
 exact Zog (P:=fun o=>o∈Z5 N ro) hN hk h1 h2 (by omega) (by omega) (by omega) (fun o ho=>by rw [ZYf h.rt.rt] at ho;exact ho)
theorem Zpw {N:ZP} (hN:GoodN N) {x y:Ro} {s t:List UInt8} (hx:Rt N x s) (hy:Rt N y t):∀ o∈(apV N x y).und N,o∈Z5 N x++Z5 N y:=by
 obtain ⟨k1,t1⟩:=hx.keep;obtain ⟨k2,t2⟩:=hy.keep;unfold apV;rw [Zi6]
 exact ZOA (P:=fun o=>o∈Z5 N x++Z5 N y) hN k1 k2 (fun o ho=>by rw [ZYf hx.rt] at ho;exact List.mem_append_left _ ho) (fun o ho=>by rw [ZYf hy.rt] at ho;exact List.mem_append_right _ ho)
def WU (N:ZP) (t:Tr):Prop:=∀ r:AR,AROk r->GoodN r.nodes->Ext N r.nodes->t.cnt<=r.n->∀ o,o∈Qn (t.wr r).1.nodes t.h (t.wr r).2.1.at_↔o∈(t.wr r).2.2\/o∈t.und N
theorem Zpx {N:ZP} {t:Tr} (hv:Val N t) (hb:t.bytes<=65536) {r:AR} (ho:AROk r) (hg:GoodN r.nodes) (hE:Ext N r.nodes) (hc:t.cnt<=r.n) :
 WrB r t.cnt (t.wr r).1 (t.wr r).2.2/\∃ y,lk (t.wr r).1.nodes (t.wr r).2.1.at_=some y/\y.h=t.h:=by
 have hv2:=hv.ext hE
 obtain ⟨h1,h2⟩:=Zl7 (Yy [] [] [] r) ho hg (.inr hv2) hb (by rw [ZF6 hv2];exact hc)
 rw [ZUT hv2,ZF6 hv2] at *
 refine ⟨h1,?_⟩
 rcases h2 with ⟨he,_⟩|⟨_,h2⟩
 ·exact absurd he hv.not_empty
 ·obtain ⟨y,y1,y2,y3,y4⟩:=h2.live
  exact ⟨y,y1,y3⟩
structure WLs (N:ZP) (l:List Tr) (h:Nat) (r:AR):Prop where
 ok:AROk (Tr.wrL l r).1
 good:GoodN (Tr.wrL l r).1.nodes
 ext:Ext r.nodes (Tr.wrL l r).1.nodes
 n:(Tr.wrL l r).1.n+Tr.cntL l=r.n
 live:∀ k∈(Tr.wrL l r).2.1,∃ y,lk (Tr.wrL l r).1.nodes k.at_=some y/\y.h=h
 und:∀ o,(∃ k∈(Tr.wrL l r).2.1,o∈Qn (Tr.wrL l r).1.nodes h k.at_)↔o∈(Tr.wrL l r).2.2\/o∈Tr.undL N l
theorem Zoh {N:ZP} {h:Nat}:∀ (l:List Tr),(∀ u∈l,Val N u/\u.h=h/\u.bytes<=65536/\WU N u)->∀ r,AROk r->GoodN r.nodes->Ext N r.nodes->Tr.cntL l<=r.n->WLs N l h r:=by
 intro l
 induction l with
 | nil =>
  intro _ r ho hg hE hc
  exact ⟨ho,hg,.refl _,by simp [Tr.wrL,Tr.cntL],fun k hk=>by simp [Tr.wrL] at hk,fun o=>by simp [Tr.wrL,Tr.undL]⟩
 | cons t l ih =>
  intro hl r ho hg hE hc;rw [Tr.cntL] at hc
  obtain ⟨v1,v2,v3,v4⟩:=hl t (by simp)
  obtain ⟨b,y,y1,y2⟩:=Zpx v1 v3 ho hg hE (by omega)
  have hn:=b.n
  have w:=ih (fun u hu=>hl u (by simp [hu])) (t.wr r).1 b.ok b.good (hE.trans b.ext) (by omega)
  have hu:=v4 r ho hg hE (by omega)
  have hka:((t.wr r).2.1.kid).at_=(t.wr r).2.1.at_:=rfl
  have he:Qn (Tr.wrL l (t.wr r).1).1.nodes h (t.wr r).2.1.at_=Qn (t.wr r).1.nodes t.h (t.wr r).2.1.at_:=by
   rw [<- v2];exact ZN8 b.good w.ext t.h _ y y1 y2
  refine ⟨w.ok,w.good,b.ext.trans w.ext,?_,?_,?_⟩
  ·show (Tr.wrL l (t.wr r).1).1.n+_=_
   rw [Tr.cntL];have:=w.n;omega
  ·intro k hk
   rcases List.mem_cons.1 hk with rfl|q
   ·exact ⟨y,w.ext _ _ y1,by rw [y2,v2]⟩
   ·exact w.live k q
  ·intro o
   have hw:=w.und o;have ho2:=hu o
   show (∃ k∈(t.wr r).2.1.kid::(Tr.wrL l (t.wr r).1).2.1,o∈Qn (Tr.wrL l (t.wr r).1).1.nodes h k.at_)↔o∈(t.wr r).2.2++(Tr.wrL l (t.wr r).1).2.2\/_
   rw [Tr.undL,List.mem_append,List.mem_append]
   constructor
   ·rintro ⟨k,hk,q⟩
    rcases List.mem_cons.1 hk with rfl|hk
    ·rw [hka,he] at q
     rcases ho2.1 q with q|q
     ·exact .inl (.inl q)
     ·exact .inr (.inl q)
    ·rcases hw.1 ⟨k,hk,q⟩ with q|q
     ·exact .inl (.inr q)
     ·exact .inr (.inr q)
   ·rintro ((q|q)|(q|q))
    ·exact ⟨_,List.mem_cons_self ..,by rw [hka,he];exact ho2.2 (.inl q)⟩
    ·obtain ⟨k,hk,q⟩:=hw.2 (.inl q);exact ⟨k,List.mem_cons_of_mem _ hk,q⟩
    ·exact ⟨_,List.mem_cons_self ..,by rw [hka,he];exact ho2.2 (.inr q)⟩
    ·obtain ⟨k,hk,q⟩:=hw.2 (.inr q);exact ⟨k,List.mem_cons_of_mem _ hk,q⟩
theorem Zpy {N:ZP} (hN:GoodN N) {t:Tr} (hv:Val N t):t.bytes<=65536->WU N t:=by
 induction hv with
 | @kept o h m k x h0 hx hok hh hm hk =>
  intro _ r ho hg hE hc q
  have e:(Tr.mk o h m [] k).wr r=(r,⟨o,h,m⟩,[]):=by rw [Tr.wr,if_pos h0]
  rw [e]
  show q∈Qn r.nodes h o↔_
  rw [ZN8 hN hE h o x hx hh,Tr.und,if_neg h0,JD hx,hh]
  simp
 | @leaf s k h1 h2 hk =>
  intro _ r ho hg hE hc q
  have e:(Tr.mk 0 0 .zero s k).wr r=(r.add ⟨0,s,none⟩,⟨r.next,0,XM s⟩,[r.next]):=by rw [Tr.wr];simp
  rw [e]
  show q∈Qn (r.add _).nodes 0 r.next↔_
  rw [Qn,Tr.und,if_pos rfl,Tr.undO_getD,hk,Tr.undL]
  simp
 | @inner h l hh h2 h4 hl hb hv ih =>
  intro hb2 r ho hg hE hc q
  have eb:(Tr.mk 0 (h+1) .zero [] (some l)).bytes=Tr.bytesL l:=by rw [Tr.bytes,Tr.bytesO];simp [Mea.zero]
  have hbs:∀ u∈l,u.bytes<=65536:=fun u hu=>by
   obtain ⟨i,hi,rfl⟩:=List.getElem_of_mem hu
   have h3:Tr.bytesL l=Tr.bytesL (l.take i)+(l[i].bytes+Tr.bytesL (l.drop (i+1))):=by
    conv=>lhs;rw [<- List.take_append_drop (i+1) l,Zb (jE hi),Tr.bytesL_append,Tr.bytesL_append]
    simp [Tr.bytesL];omega
   have n1:=Tr.bytesL_nonneg (l:=l.take i) (fun t ht=>by have:=(hv t (List.mem_of_mem_take ht)).pos.2;omega)
   have n2:=Tr.bytesL_nonneg (l:=l.drop (i+1)) (fun t ht=>by have:=(hv t (List.mem_of_mem_drop ht)).pos.2;omega)
   omega
  have ec:(Tr.mk 0 (h+1) .zero [] (some l)).cnt=Tr.cntL l+1:=by rw [Tr.cnt,Tr.cntO];simp;omega
  rw [ec] at hc
  have w:=Zoh (N:=N) (h:=h) l (fun u hu=>⟨hv u hu,hl u hu,hbs u hu,ih u hu (hbs u hu)⟩) r ho hg hE (by omega)
  have e:(Tr.mk 0 (h+1) .zero [] (some l)).wr r=((Tr.wrL l r).1.add ⟨h+1,[],some (Tr.wrL l r).2.1⟩,⟨(Tr.wrL l r).1.next,h+1,Qf ((Tr.wrL l r).2.1.map Kid.m)⟩,(Tr.wrL l r).2.2++[(Tr.wrL l r).1.next]):=by
   rw [Tr.wr];simp [Tr.wrO]
  rw [e];have hwn:=w.n;have hwg:=w.good;have hwl:=w.live;have hwo:=w.ok;have hwu:=w.und q
  show q∈Qn ((Tr.wrL l r).1.add _).nodes (h+1) (Tr.wrL l r).1.next↔q∈(Tr.wrL l r).2.2++[(Tr.wrL l r).1.next]\/_
  generalize (Tr.wrL l r).2.1=ks at *
  generalize (Tr.wrL l r).2.2=hs at *
  generalize (Tr.wrL l r).1=r1 at *
  have hn:0<r1.n:=by omega
  have hlk:lk (r1.add ⟨h+1,[],some ks⟩).nodes r1.next=some (⟨h+1,[],some ks⟩:Nd).copy:=by rw [ZF3 hwo hn,if_pos rfl]
  have hkc:(⟨h+1,[],some ks⟩:Nd).copy.ks=ks:=rfl;rw [Qn,JD hlk,hkc,Tr.und,if_pos rfl,Tr.undO,List.mem_cons,List.mem_append,List.mem_singleton,List.mem_flatMap]
  have hp:∀ k∈ks,Qn (r1.add ⟨h+1,[],some ks⟩).nodes h k.at_=Qn r1.nodes h k.at_:=fun k hk=>by
   obtain ⟨y,y1,y2⟩:=hwl k hk;exact ZN8 hwg (ZUS hwo hn _) h k.at_ y y1 y2
  constructor
  ·rintro (z|⟨k,hk,z⟩)
   ·exact .inl (.inr z)
   ·rw [hp k hk] at z
    rcases hwu.1 ⟨k,hk,z⟩ with z|z
    ·exact .inl (.inl z)
    ·exact .inr z
  ·rintro ((z|z)|z)
   ·obtain ⟨k,hk,z⟩:=hwu.2 (.inl z);exact .inr ⟨k,hk,by rw [hp k hk];exact z⟩
   ·exact .inl z
   ·obtain ⟨k,hk,z⟩:=hwu.2 (.inr z);exact .inr ⟨k,hk,by rw [hp k hk];exact z⟩
theorem Zoi {r:AR} (ho:AROk r) (hg:GoodN r.nodes) {t:Tr} (hv:VE r.nodes t) (hb:t.bytes<=65536) (hn:nw t<=r.n) (o:Nat) :
 o∈Z5 (wrV t r).1.nodes (wrV t r).2.1↔o∈(wrV t r).2.2\/o∈t.und r.nodes:=by
 rcases hv with hv|hv
 ·rw [ZQn hv,Zb5 hv]
  simp [Z5,Ro.zero]
 ·obtain ⟨h1,h2⟩:=Zl7 (Yy [] [] [] r) ho hg (.inr hv) hb hn
  rw [ZF6 hv] at hn;have hu:=Zpy hg hv hb r ho hg (.refl _) hn o
  rcases h2 with ⟨he,_⟩|⟨_,h2⟩
  ·exact absurd he hv.not_empty
  ·obtain ⟨y,y1,y2,y3,y4⟩:=h2.live
   have h0:=(h1.ok.hnd y1).2
   rw [ZUT hv] at *
   unfold Z5;rw [if_neg h0,h2.rh];exact hu
theorem ZgU {st0:St} {lv ix ver n0:Nat} {l:List Nat} (m:List Nat) (hn0:n0=l.length) (hg:st0.get lv ix=some (.arr 1 ver (l.map Zu))) (hb:l.length<1000000000) (hm:m.length<1000000000) :
 S Tb Ys [.ref lv ix ver 0 n0,.lit (m.map Zu)] st0=some (.lit ((QR (l.filter fun o=>decide (o∉m))).map Zu),st0):=by
 subst hn0
 refine QJ rfl (fun A hA=>?_)
 have g0:=fun L=>ZS hA (ro:=false) (L:=L) hg
 have hwi:∀ L,wIs 1 ver (St.get ⟨A,false,L⟩ lv ix)=true:=fun L=>by rw [g0];simp [wIs]
 have hHs:=fun o st=>ZN6 m (by omega) o st
 repeat' (first|refine ZE ?_|refine ZD ?_|refine ZF rfl ?_|refine ZB rfl ?_|refine ZC ?_|refine YF rfl ?_|refine ZJ ?_)
 refine Zx (α:=Nat) (fun i=>[(0,.ref lv ix ver 0 l.length),(1,.lit (m.map Zu)),(5,.ref A.length 0 ((l.take i).filter fun o=>decide (o∉m)).length 0 ((l.take i).filter fun o=>decide (o∉m)).length),(6,.int .i64 i)]) (fun i=>⟨A,false,[.arr 1 ((l.take i).filter fun o=>decide (o∉m)).length (((l.take i).filter fun o=>decide (o∉m)).map Zu)]⟩) (fun i=>i<=l.length) (fun i=>l.length-i) 0 rfl rfl (by omega) ?_
 rintro i hi
 replace hi:i<=l.length:=hi
 have hw:=List.length_filter_le (fun o=>decide (o∉m)) (l.take i)
 rw [List.length_take,Nat.min_eq_left hi] at hw
 rcases Nat.lt_or_ge i l.length with hlt|hge
 ·obtain ⟨x,hx⟩:∃ x,l[i]?=some x:=⟨l[i]'hlt,jE _⟩
  have q1:(l.map Zu)[0+((i:Nat):Int).toNat]?=some (AV.int .u64 x):=by
   rw [show 0+((i:Nat):Int).toNat=i by omega,jG,hx];rfl
  have hs:(l.take (i+1)).filter (fun o=>decide (o∉m))=(l.take i).filter (fun o=>decide (o∉m))++if x∈m then [] else [x]:=by
   rw [Zb hx,List.filter_append]
   congr 1
   by_cases q:x∈m
   ·simp [q]
   ·simp [q]
  have hH:=fun st=>hHs x st
  generalize (l.take i).filter (fun o=>decide (o∉m))=w at *
  have hl2:(w.map Zu).length+[AV.int .u64 (x:Int)].length<4294967296:=by simp;omega
  have hl3:w.length=(w.map Zu).length:=by simp
  by_cases hm:x∈m
  ·simp only [decide_eq_true hm] at hH
   rw [if_pos hm,lN] at hs
   repeat' (first|refine Y4 rfl rfl (by omega) (hwi _) ?_|refine Z9 rfl (g0 _) q1 rfl ?_|refine ZE ?_|refine ZD ?_|refine ZF rfl ?_|refine ZB rfl ?_|refine ZC ?_|refine Qd rfl ?_|(refine Zh rfl rfl (fun _=>?_) (fun _=>?_)<;>try (exfalso;omega))|refine ZV rfl ?_|refine ZG rfl ?_|refine QZ rfl rfl ?_|refine Zj rfl rfl (by omega) ?_|refine ZA rfl rfl rfl (hH _) ?_|refine ZI ?_|refine ZJ ?_|refine Zy ?_|refine Z8 ?_)
   all_goals try (exfalso;omega)
   all_goals try contradiction
   exact ⟨i+1,⟨by rw [hs];rfl,by rw [hs]⟩,by omega,by omega⟩
  ·simp only [decide_eq_false hm] at hH
   rw [if_neg hm] at hs
   repeat' (first|refine Y4 rfl rfl (by omega) (hwi _) ?_|refine Z9 rfl (g0 _) q1 rfl ?_|refine Yw rfl rfl rfl hl3 rfl rfl hl2 (by decide) ?_|refine ZE ?_|refine ZD ?_|refine ZF rfl ?_|refine ZB rfl ?_|refine ZC ?_|refine Qd rfl ?_|(refine Zh rfl rfl (fun _=>?_) (fun _=>?_)<;>try (exfalso;omega))|refine ZV rfl ?_|refine QZ rfl rfl ?_|refine Zj rfl rfl (by omega) ?_|refine QK rfl rfl rfl rfl ?_|refine ZA rfl rfl rfl (hH _) ?_|refine ZI ?_|refine ZJ ?_|refine Zy ?_|refine Z8 ?_)
   all_goals try (exfalso;omega)
   all_goals try contradiction
   refine ⟨i+1,⟨?_,?_⟩,by omega,by omega⟩
   ·rw [hs,lL];rfl
   ·rw [hs,lL,List.map_append];rfl
 ·obtain rfl:i=l.length:=by omega
  rw [List.take_length] at hw ⊢
  have hO:=ZmQ (st:=⟨A,false,[.arr 1 (l.filter fun o=>decide (o∉m)).length ((l.filter fun o=>decide (o∉m)).map Zu)]⟩) (lv:=A.length) (ix:=0) (ver:=(l.filter fun o=>decide (o∉m)).length) (l:=l.filter fun o=>decide (o∉m)) rfl (St.get_cur ..) (by omega)
  generalize l.filter (fun o=>decide (o∉m))=w at *
  repeat' (first|refine ZE ?_|refine ZD ?_|refine ZF rfl ?_|refine ZB rfl ?_|refine ZC ?_|refine Qd rfl ?_|(refine Zh rfl rfl (fun _=>?_) (fun _=>?_)<;>try (exfalso;omega))|refine ZG rfl ?_|refine ZA rfl rfl rfl (hO) ?_|refine ZQ ?_|refine Zs ?_|refine ZL ?_|refine Zd ?_|refine Zc rfl ?_|refine Zo ?_)
  all_goals try (exfalso;omega)
  refine Zg hA (by first|exact .inl rfl|exact .inr rfl) rfl rfl rfl rfl ?_
  rfl
def ZAT (N:ZP) (rs:List Ro):List Nat:=rs.flatMap fun r=>QR (Z5 N r)
theorem Zmg {A:List (Bool × List Blk)} {la b:Nat} {N:ZP} (hN:GoodN N) {ch:AV} (hR:∀ L,Rd ⟨A,false,L⟩ la (b+5) N) {rs:List Ro} (hrs:∀ r∈rs,RtOk N r) (hl:rs.length<=3) {v1:AV} {k:List Fr} {Q:YO}
 (hQ:∀ e,Rk (S T3) k Q .norm ([(0,.ptr la (b+5) 0 0 0),(1,v1),(3,.lit (rs.map Ro.av)),(6,.ptr A.length 0 0 0 0),(9,.ref A.length 1 rs.length 0 (ZAT N rs).length),(10,.int .i64 rs.length)]++e) ⟨A,false,[.arr 7 0 [ch],.arr 1 rs.length ((ZAT N rs).map Zu)]⟩) :
 Ru (S T3) p_quartolaw19_shares_9.loop (.blk 0::k) Q [(0,.ptr la (b+5) 0 0 0),(1,v1),(3,.lit (rs.map Ro.av)),(6,.ptr A.length 0 0 0 0),(9,.ref A.length 1 0 0 0),(10,.int .i64 0)] ⟨A,false,[.arr 7 0 [ch],.arr 1 0 []]⟩:=by
 refine Zx (α:=Nat) (fun i=>[(0,.ptr la (b+5) 0 0 0),(1,v1),(3,.lit (rs.map Ro.av)),(6,.ptr A.length 0 0 0 0),(9,.ref A.length 1 i 0 (ZAT N (rs.take i)).length),(10,.int .i64 i)]) (fun i=>⟨A,false,[.arr 7 0 [ch],.arr 1 i ((ZAT N (rs.take i)).map Zu)]⟩) (fun i=>i<=rs.length) (fun i=>rs.length-i) 0 rfl rfl (Nat.zero_le _) ?_
 intro i hi;replace hi:i<=rs.length:=hi
 have hwl:(ZAT N (rs.take i)).length<=100000000*i:=by
  have key:∀ l:List Ro,(∀ r∈l,RtOk N r)->(ZAT N l).length<=100000000*l.length:=by
   intro l
   induction l with
   | nil=>intro _;simp [ZAT]
   | cons a l ih =>
    intro h
    have h1:=Xw hN (h a (by simp))
    have h2:=(Ye (Z5 N a)).2.2
    have h3:=ih (fun r hr=>h r (by simp [hr]))
    unfold ZAT at h3 ⊢;rw [List.flatMap_cons,lL,List.length_cons];omega
  have:=key (rs.take i) (fun r hr=>hrs r (List.mem_of_mem_take hr))
  rwa [List.length_take,Nat.min_eq_left hi] at this
 rcases Nat.lt_or_ge i rs.length with hlt|hge
 ·obtain ⟨r,hr⟩:∃ x,rs[i]?=some x:=⟨rs[i]'hlt,jE _⟩
  have q:0<=((i:Nat):Int)/\rs[((i:Nat):Int).toNat]?=some r:=⟨by omega,by rw [show ((i:Nat):Int).toNat=i by omega];exact hr⟩
  have hRt:=hrs r (jM hr)
  have hNd:=fun L=>Zit hN (hR L) hRt
  have h1:=Xw hN hRt;have h2:=(Ye (Z5 N r)).2.2
  have hs:ZAT N (rs.take (i+1))=ZAT N (rs.take i)++QR (Z5 N r):=by
   unfold ZAT;rw [Zb hr,List.flatMap_append];simp
  generalize ZAT N (rs.take i)=w at *
  generalize QR (Z5 N r)=v at *
  have hl2:(w.map Zu).length+(v.map Zu).length<4294967296:=by simp;omega
  have hl3:w.length=(w.map Zu).length:=by simp
  repeat' (first|refine YS rfl ?_|refine JC (f:=Ro.av) rfl rfl q (fun _=>rfl) ?_|refine Yw rfl rfl rfl hl3 (ZoT _) (ZoU _ _ _) hl2 (by decide) ?_|refine ZE ?_|refine ZD ?_|refine ZF rfl ?_|refine Zq rfl rfl ?_|refine ZB rfl ?_|refine ZC ?_|refine QI rfl rfl ?_|(refine Zh rfl rfl (fun _=>?_) (fun _=>?_)<;>try (exfalso;omega))|(refine Zl rfl rfl (fun _=>?_) (fun _=>?_)<;>try (exfalso;omega))|refine ZV rfl ?_|refine ZG rfl ?_|refine Zj rfl rfl (by omega) ?_|refine ZA rfl rfl rfl (hNd _) ?_|refine ZI ?_|refine ZJ ?_|refine Zy ?_|refine Z8 ?_)
  all_goals try contradiction
  all_goals try (exfalso;omega)
  refine ⟨i+1,⟨?_,?_⟩,by omega,by omega⟩
  ·rw [hs,lL];simp only [List.length_map];rfl
  ·rw [hs,List.map_append];rfl
 ·obtain rfl:i=rs.length:=by omega
  rw [List.take_length] at *
  repeat' (first|refine YS rfl ?_|refine ZE ?_|refine ZD ?_|refine ZF rfl ?_|refine ZB rfl ?_|refine ZC ?_|(refine Zh rfl rfl (fun _=>?_) (fun _=>?_)<;>try (exfalso;omega))|refine ZG rfl ?_|refine Zs ?_|refine Zd ?_|refine Zc rfl ?_|refine Zo ?_)
  all_goals try (exfalso;omega)
  exact hQ _
theorem Zmh {A:List (Bool × List Blk)} {ro:Ro} {fr lv now:List Nat} {dv v9:AV} {b1:Blk} (hl:fr.length<1000000000/\lv.length<1000000000/\now.length<1000000000) (hf:∀ h∈fr,h∉lv/\h∈now) {k:List Fr} {Q:YO}
 (hQ:∀ e,Rk (S T3) k Q .norm ([(1,.lit (lv.map Zu)),(6,.ptr A.length 0 0 0 0),(9,v9),(13,.lit (now.map Zu)),(15,.int .i64 fr.length)]++e) ⟨A,false,[.arr 7 0 [Qo ro fr dv],b1]⟩) :
 Ru (S T3) p_quartolaw19_shares_18.loop (.blk 2::k) Q [(1,.lit (lv.map Zu)),(6,.ptr A.length 0 0 0 0),(9,v9),(13,.lit (now.map Zu)),(15,.int .i64 0)] ⟨A,false,[.arr 7 0 [Qo ro fr dv],b1]⟩:=by
 refine Zx (α:=Nat) (fun i=>[(1,.lit (lv.map Zu)),(6,.ptr A.length 0 0 0 0),(9,v9),(13,.lit (now.map Zu)),(15,.int .i64 i)]) (fun i=>⟨A,false,[.arr 7 0 [Qo ro fr dv],b1]⟩) (fun i=>i<=fr.length) (fun i=>fr.length-i) 0 rfl rfl (Nat.zero_le _) ?_
 intro i hi;replace hi:i<=fr.length:=hi;have hp5:Qj (Qo ro fr dv) false 5 1=some (.lit (fr.map Zu)):=rfl
 generalize Qo ro fr dv=ch at *
 rcases Nat.lt_or_ge i fr.length with hlt|hge
 ·obtain ⟨o,ho⟩:∃ x,fr[i]?=some x:=⟨fr[i]'hlt,jE _⟩
  have q:0<=((i:Nat):Int)/\fr[((i:Nat):Int).toNat]?=some o:=⟨by omega,by rw [show ((i:Nat):Int).toNat=i by omega];exact ho⟩
  obtain ⟨f1,f2⟩:=hf o (jM ho)
  have hH1:=fun st=>up3 (ZN6 lv (by omega) o st)
  have hH2:=fun st=>up3 (ZN6 now (by omega) o st)
  simp only [decide_eq_false f1] at hH1;simp only [decide_eq_true f2] at hH2
  repeat' (first|refine ZO rfl rfl rfl hp5 ?_|refine YS rfl ?_|refine JC (f:=Zu) rfl rfl q (fun _=>rfl) ?_|refine ZE ?_|refine ZD ?_|refine ZF rfl ?_|refine ZU rfl rfl ?_|refine QE rfl ?_|refine Zn rfl rfl rfl rfl ?_|refine ZB rfl ?_|refine ZC ?_|refine QI rfl rfl ?_|(refine Zh rfl rfl (fun _=>?_) (fun _=>?_)<;>try (exfalso;omega))|refine ZV rfl ?_|refine ZG rfl ?_|refine QZ rfl rfl ?_|refine Zj rfl rfl (by omega) ?_|refine ZA rfl rfl rfl (hH1 _) ?_|refine ZA rfl rfl rfl (hH2 _) ?_|refine ZI ?_|refine ZJ ?_|refine Zy ?_|refine Z8 ?_)
  all_goals try contradiction
  all_goals try (exfalso;omega)
  exact ⟨i+1,⟨rfl,rfl⟩,by omega,by omega⟩
 ·obtain rfl:i=fr.length:=by omega
  repeat' (first|refine ZO rfl rfl rfl hp5 ?_|refine YS rfl ?_|refine ZE ?_|refine ZD ?_|refine ZF rfl ?_|refine ZU rfl rfl ?_|refine ZB rfl ?_|refine ZC ?_|(refine Zh rfl rfl (fun _=>?_) (fun _=>?_)<;>try (exfalso;omega))|refine ZG rfl ?_|refine Zs ?_|refine Zd ?_|refine Zc rfl ?_|refine Zo ?_)
  all_goals try (exfalso;omega)
  exact hQ _
theorem Zmi {A:List (Bool × List Blk)} {ro:Ro} {fr dd was now:List Nat} {dv:AV} {n:Nat} (hd:dv=slH dd) (hl:fr.length<1000000000/\dd.length<1000000000/\now.length<1000000000/\was.length<1000000000) (hf:∀ h∈now,(h∈was↔h∉fr)/\h∉dd) {k:List Fr} {Q:YO}
 (hQ:∀ e,Rk (S T3) k Q .norm ([(6,.ptr A.length 0 0 0 0),(9,.ref A.length 1 n 0 was.length),(13,.lit (now.map Zu)),(16,.int .i64 now.length)]++e) ⟨A,false,[.arr 7 0 [Qo ro fr dv],.arr 1 n (was.map Zu)]⟩) :
 Ru (S T3) p_quartolaw19_shares_24.loop (.blk 4::k) Q [(6,.ptr A.length 0 0 0 0),(9,.ref A.length 1 n 0 was.length),(13,.lit (now.map Zu)),(16,.int .i64 0)] ⟨A,false,[.arr 7 0 [Qo ro fr dv],.arr 1 n (was.map Zu)]⟩:=by
 refine Zx (α:=Nat) (fun i=>[(6,.ptr A.length 0 0 0 0),(9,.ref A.length 1 n 0 was.length),(13,.lit (now.map Zu)),(16,.int .i64 i)]) (fun i=>⟨A,false,[.arr 7 0 [Qo ro fr dv],.arr 1 n (was.map Zu)]⟩) (fun i=>i<=now.length) (fun i=>now.length-i) 0 rfl rfl (Nat.zero_le _) ?_
 intro i hi;replace hi:i<=now.length:=hi;have hp5:Qj (Qo ro fr dv) false 5 1=some (.lit (fr.map Zu)):=rfl;have hp6:Qj (Qo ro fr dv) false 6 1=some dv:=rfl
 generalize Qo ro fr dv=ch at *
 rcases Nat.lt_or_ge i now.length with hlt|hge
 ·obtain ⟨o,ho⟩:∃ x,now[i]?=some x:=⟨now[i]'hlt,jE _⟩
  have q:0<=((i:Nat):Int)/\now[((i:Nat):Int).toNat]?=some o:=⟨by omega,by rw [show ((i:Nat):Int).toNat=i by omega];exact ho⟩
  obtain ⟨f1,f2⟩:=hf o (jM ho)
  have hH1:=up3 (ZeL (st:=St.allRo ⟨A,false,[.arr 7 0 [ch],.arr 1 n (was.map Zu)]⟩) (lv:=A.length) (ix:=1) (ver:=n) (l:=was) rfl (by rw [JE];exact St.get_cur ..) (by omega) o)
  have hH2:=fun st=>up3 (ZN6 fr (by omega) o st)
  have hH3:=fun st=>up3 (ZN6 dd (by omega) o st)
  simp only [decide_eq_false f2] at hH3
  have hdv:dv=.nils/\dd=[]\/dv=.lit (dd.map Zu):=by
   rw [hd];unfold slH
   split
   ·exact .inl ⟨rfl,by assumption⟩
   ·exact .inr rfl
  clear hd
  by_cases hm:o∈fr
  ·have hw:o∉was:=fun w=>f1.1 w hm
   simp only [decide_eq_true hm] at hH2;simp only [decide_eq_false hw] at hH1
   rcases hdv with ⟨rfl,rfl⟩|rfl
   all_goals try simp only [List.map_nil] at hH3
   all_goals repeat' (first|refine ZO rfl rfl rfl hp5 ?_|refine ZO rfl rfl rfl hp6 ?_|refine YS rfl ?_|refine JC (f:=Zu) rfl rfl q (fun _=>rfl) ?_|refine JM rfl rfl rfl hH1 ?_|refine ZE ?_|refine ZD ?_|refine ZF rfl ?_|refine ZU rfl rfl ?_|refine QE rfl ?_|refine Zn rfl rfl rfl rfl ?_|refine ZB rfl ?_|refine ZC ?_|refine QI rfl rfl ?_|(refine Zh rfl rfl (fun _=>?_) (fun _=>?_)<;>try (exfalso;omega))|refine ZV rfl ?_|refine ZG rfl ?_|refine Zj rfl rfl (by omega) ?_|refine JO rfl rfl rfl rfl ?_|refine ZA rfl rfl rfl (hH2 _) ?_|refine ZA rfl rfl rfl (hH3 _) ?_|refine ZI ?_|refine ZJ ?_|refine Zy ?_|refine Z8 ?_)
   all_goals try contradiction
   all_goals try (exfalso;omega)
   all_goals exact ⟨i+1,⟨rfl,rfl⟩,by omega,by omega⟩
  ·have hw:o∈was:=f1.2 hm
   simp only [decide_eq_false hm] at hH2;simp only [decide_eq_true hw] at hH1
   rcases hdv with ⟨rfl,rfl⟩|rfl
   all_goals try simp only [List.map_nil] at hH3
   all_goals repeat' (first|refine ZO rfl rfl rfl hp5 ?_|refine ZO rfl rfl rfl hp6 ?_|refine YS rfl ?_|refine JC (f:=Zu) rfl rfl q (fun _=>rfl) ?_|refine JM rfl rfl rfl hH1 ?_|refine ZE ?_|refine ZD ?_|refine ZF rfl ?_|refine ZU rfl rfl ?_|refine QE rfl ?_|refine Zn rfl rfl rfl rfl ?_|refine ZB rfl ?_|refine ZC ?_|refine QI rfl rfl ?_|(refine Zh rfl rfl (fun _=>?_) (fun _=>?_)<;>try (exfalso;omega))|refine ZV rfl ?_|refine ZG rfl ?_|refine Zj rfl rfl (by omega) ?_|refine JO rfl rfl rfl rfl ?_|refine ZA rfl rfl rfl (hH2 _) ?_|refine ZA rfl rfl rfl (hH3 _) ?_|refine ZI ?_|refine ZJ ?_|refine Zy ?_|refine Z8 ?_)
   all_goals try contradiction
   all_goals try (exfalso;omega)
   all_goals exact ⟨i+1,⟨rfl,rfl⟩,by omega,by omega⟩
 ·obtain rfl:i=now.length:=by omega
  repeat' (first|refine YS rfl ?_|refine ZE ?_|refine ZD ?_|refine ZF rfl ?_|refine ZB rfl ?_|refine ZC ?_|(refine Zh rfl rfl (fun _=>?_) (fun _=>?_)<;>try (exfalso;omega))|refine ZG rfl ?_|refine Zs ?_|refine Zd ?_|refine Zc rfl ?_|refine Zo ?_)
  all_goals try (exfalso;omega)
  exact hQ _
theorem Zmj {st:St} {la b:Nat} {N:ZP} (hN:GoodN N) (hR:Rd st la (b+5) N) {rs:List Ro} (hrs:∀ r∈rs,RtOk N r) (hl:rs.length<=3) {ro:Ro} (hro:RtOk N ro) {fr dd lv was now:List Nat} (hwas:was=ZAT N rs) (hnow:now=QR (Z5 N ro))
 (hd:dd=QR (was.filter fun o=>decide (o∉now))) (hfn:fr.Nodup) (hln:fr.length<1000000000/\lv.length<1000000000/\was.length<1000000000/\now.length<1000000000) (hf:∀ h∈fr,h∉lv/\h∈now) (hw:∀ h∈now,(h∈was↔h∉fr)/\h∉dd) :
 S T3 JZ [.ptr la (b+5) 0 0 0,.lit (lv.map Zu),Qo ro fr (slH dd),.lit (rs.map Ro.av)] st=some (.bool true,st):=by
 refine QJ rfl (fun A hA=>?_)
 have hRA:=fun L=>hR.push hA (ro:=false) (L:=L)
 have hdl:dd.length<1000000000:=by
  have h1:=(Ye (was.filter fun o=>decide (o∉now))).2.2
  have h2:=List.length_filter_le (fun o=>decide (o∉now)) was
  rw [<- hd] at h1;omega
 have hcase:slH dd=.nils/\dd=[]\/slH dd=.lit (dd.map Zu):=by
  unfold slH
  split
  ·exact .inl ⟨rfl,by assumption⟩
  ·exact .inr rfl
 have hl1:=fun k Q hQ=>Zmg (A:=A) (b:=b) hN (ch:=Qo ro fr (slH dd)) hRA hrs hl (v1:=.lit (lv.map Zu)) (k:=k) (Q:=Q) hQ
 rw [<- hwas] at hl1
 have hl2:=fun k Q hQ=>Zmh (A:=A) (ro:=ro) (fr:=fr) (lv:=lv) (now:=now) (dv:=slH dd) (v9:=.ref A.length 1 rs.length 0 was.length) (b1:=.arr 1 rs.length (was.map Zu)) ⟨hln.1,hln.2.1,hln.2.2.2⟩ hf (k:=k) (Q:=Q) hQ
 have hl3:=fun k Q hQ=>Zmi (A:=A) (ro:=ro) (fr:=fr) (dd:=dd) (was:=was) (now:=now) (n:=rs.length) rfl ⟨hln.1,hdl,hln.2.2.2,hln.2.2.1⟩ hw (k:=k) (Q:=Q) hQ
 have hNd:=fun L=>Zit hN (hRA L) hro
 rw [<- hnow] at hNd
 have hWo:=fun c=>up3 (ZgU (st0:=St.allRo ⟨A,false,[c,.arr 1 rs.length (was.map Zu)]⟩) (lv:=A.length) (ix:=1) (ver:=rs.length) (l:=was) now rfl (by rw [JE];exact St.get_cur ..) hln.2.2.1 hln.2.2.2)
 rw [<- hd] at hWo
 have hEq:=fun st=>up3 (ZIx dd (by omega) st)
 have hOn:=fun st=>up3 (Zpm fr hln.1 st)
 rw [ZgN hfn] at hOn
 have hp5:∀ dv,Qj (Qo ro fr dv) false 5 1=some (.lit (fr.map Zu)):=fun _=>rfl
 have hp6:∀ dv,Qj (Qo ro fr dv) false 6 1=some dv:=fun _=>rfl
 clear hR hRA hd hw hf hrs hwas hnow
 generalize rs.map Ro.av=rv at *
 generalize slH dd=dv at *
 rcases hcase with ⟨rfl,rfl⟩|rfl
 ·simp only [List.map_nil] at hEq hWo
  repeat' (first|refine YF rfl ?_|refine hl1 _ _ (fun e1=>?_)|refine hl2 _ _ (fun e2=>?_)|refine hl3 _ _ (fun e3=>?_)|refine ZO rfl rfl rfl (Zi3 _ _ _) ?_|refine ZO rfl rfl rfl (hp6 _) ?_|refine JM rfl rfl rfl (hWo _) ?_|refine JM rfl rfl rfl (hOn _) ?_|refine YS rfl ?_|refine ZE ?_|refine ZD ?_|refine ZF rfl ?_|refine ZU rfl rfl ?_|refine QE rfl ?_|refine Zn rfl rfl rfl rfl ?_|refine Zq rfl rfl ?_|refine ZB rfl ?_|refine ZC ?_|(refine Zl rfl rfl (fun _=>?_) (fun _=>?_)<;>try (exfalso;omega))|refine ZG rfl ?_|refine QZ rfl rfl ?_|refine Ze rfl rfl rfl ?_|refine ZA rfl rfl rfl (hNd _) ?_|refine ZA rfl rfl rfl (hEq _) ?_|refine ZI ?_|refine ZQ ?_|refine ZJ ?_|refine ZL ?_)
  all_goals try contradiction
  all_goals try (exfalso;omega)
  refine Zg hA (by first|exact .inl rfl|exact .inr rfl) rfl rfl rfl rfl ?_
  rfl
 ·repeat' (first|refine YF rfl ?_|refine hl1 _ _ (fun e1=>?_)|refine hl2 _ _ (fun e2=>?_)|refine hl3 _ _ (fun e3=>?_)|refine ZO rfl rfl rfl (Zi3 _ _ _) ?_|refine ZO rfl rfl rfl (hp6 _) ?_|refine JM rfl rfl rfl (hWo _) ?_|refine JM rfl rfl rfl (hOn _) ?_|refine YS rfl ?_|refine ZE ?_|refine ZD ?_|refine ZF rfl ?_|refine ZU rfl rfl ?_|refine QE rfl ?_|refine Zn rfl rfl rfl rfl ?_|refine Zq rfl rfl ?_|refine ZB rfl ?_|refine ZC ?_|(refine Zl rfl rfl (fun _=>?_) (fun _=>?_)<;>try (exfalso;omega))|refine ZG rfl ?_|refine QZ rfl rfl ?_|refine Ze rfl rfl rfl ?_|refine ZA rfl rfl rfl (hNd _) ?_|refine ZA rfl rfl rfl (hEq _) ?_|refine ZI ?_|refine ZQ ?_|refine ZJ ?_|refine ZL ?_)
  all_goals try contradiction
  all_goals try (exfalso;omega)
  refine Zg hA (by first|exact .inl rfl|exact .inr rfl) rfl rfl rfl rfl ?_
  rfl
def lmL (Y:Blk) (n:Nat) (r:AR) (v:Nat) (ros:List Ro) (G0:List Blk) (w:Nat) (ss:List (List UInt8)) (G1:List Blk):List Blk :=
 Y::r.b0::r.b1::r.b2::r.b3 n 1::r.b4::r.b5 n 1::.arr 5 v (ros.map Ro.av)::(G0++.arr 1 w (ss.map .str)::G1)
section
variable {Y:Blk} {A:List (Bool × List Blk)} {r:AR} {v:Nat} {ros:List Ro} {G0:List Blk} {w:Nat} {ss:List (List UInt8)} {G1:List Blk}
theorem ZDf:Has ⟨A,false,lmL Y A.length r v ros G0 w ss G1⟩ A.length 1 r:=Yy A [Y] (.arr 5 v (ros.map Ro.av)::(G0++.arr 1 w (ss.map .str)::G1)) r
theorem Zi7:Rd ⟨A,false,lmL Y A.length r v ros G0 w ss G1⟩ A.length 6 r.nodes:=(ZDf).r.rd
theorem Zh2 (r':AR):Qb ⟨A,false,lmL Y A.length r v ros G0 w ss G1⟩ A.length 1 r'=⟨A,false,lmL Y A.length r' v ros G0 w ss G1⟩:=ZN4 A [Y] (.arr 5 v (ros.map Ro.av)::(G0++.arr 1 w (ss.map .str)::G1)) r r'
theorem Zoj {n:Nat}:(lmL Y n r v ros G0 w ss G1)[7]?=some (.arr 5 v (ros.map Ro.av)):=rfl
theorem lm_7 {n:Nat}:(lmL Y n r v ros G0 w ss G1)[8+G0.length]?=some (.arr 1 w (ss.map .str)):=by
 rw [show 8+G0.length=G0.length+8 by omega]
 show (G0++.arr 1 w (ss.map .str)::G1)[G0.length]?=_
 exact ZQi _ _ _
theorem ZCq {n:Nat} (b:Blk):lmL Y n r v ros G0 w ss G1++[b]=lmL Y n r v ros G0 w ss (G1++[b]):=by simp [lmL]
theorem Zok {n:Nat} (v':Nat) (x:Ro):(lmL Y n r v ros G0 w ss G1).set 7 (.arr 5 v' (ros.map Ro.av++[x.av]))=lmL Y n r v' (ros++[x]) G0 w ss G1:=by
 unfold lmL;rw [List.map_append];rfl
theorem Zol {n:Nat} (w':Nat) (s:List UInt8):(lmL Y n r v ros G0 w ss G1).set (8+G0.length) (.arr 1 w' (ss.map .str++[.str s]))=lmL Y n r v ros G0 w' (ss++[s]) G1:=by
 rw [show 8+G0.length=G0.length+8 by omega]
 unfold lmL;simp only [List.set_cons_succ,List.map_append]
 rw [show (G0++Blk.arr 1 w (ss.map .str)::G1).set G0.length (Blk.arr 1 w' (ss.map .str++[AV.str s]))=G0++Blk.arr 1 w' (ss.map .str++[AV.str s])::G1 by simp]
 rfl
end
theorem Zom (Y:Blk) (texts:List (List UInt8)) (ys:List Ed) (h9:texts.flatten.length<=900/\texts.length<=4) (hy12:ys.length<=12) (hys:∀ y∈ys,y.text.length<=200) (A:List (Bool × List Blk)) :
 Sp Tb Ya [.lit (texts.map .str),.lit (ys.map Ed.av)] ⟨A,false,[Y]⟩ (fun v st'=>∃ r c ros ss G0 G1 n,v=.tup [.ptr A.length 6 0 0 0,.ref A.length 7 n 0 n,.ref A.length (8+G0.length) c 0 n,.bool true]/\st'=⟨A,false,lmL Y A.length r n ros G0 c ss G1⟩/\MkInv r ros ss n 3300):=by
 refine ZiV (rfl:Tb Ya=some (.pf Xu)) ?_;have hLd:=Zpj texts h9.1 h9.2 A [Y];have hLok:=ZYY texts h9.1 texts.length (Nat.le_refl _);have hnl0:=ZmE texts h9.1 texts.length (Nat.le_refl _);rw [List.take_length] at hLok hnl0;have hrl:=hLok.rts.1;obtain ⟨r0,ros0,hV⟩:∃ r0 ros0,XS texts=(r0,ros0):=⟨_,_,rfl⟩;rw [hV] at hLd hLok hrl hnl0
 simp only at hLd hLok hrl hnl0
 have hG:(ZDe ros0).length=texts.length:=by unfold ZDe;rw [List.length_map,hrl]
 generalize ZDe ros0=G0 at *
 change S Tb Yb [.lit (texts.map .str)] ⟨A,false,[Y]⟩=some (.tup [.ptr A.length 6 0 0 0,.ref A.length 7 texts.length 0 texts.length,.bool true],⟨A,false,Y::r0.b0::r0.b1::r0.b2::r0.b3 A.length 1::r0.b4::r0.b5 A.length 1::.arr 5 texts.length (ros0.map Ro.av)::G0⟩) at hLd
 repeat' (first|refine ZE ?_|refine ZD ?_|refine ZF rfl ?_|refine Zq rfl rfl ?_|refine ZB rfl ?_|refine ZC ?_|refine ZG rfl ?_|refine QZ rfl rfl ?_|refine QK rfl rfl rfl rfl ?_|refine ZA rfl rfl rfl (hLd) ?_|refine ZI ?_)
 all_goals try contradiction
 refine ZF4 (vx:=.lit (texts.map .str)) (ys:=texts.map .str) (bytes:=16) rfl rfl rfl (by rw [List.length_map];omega) (by decide) (ZkB _) ?_
 repeat' (first|refine ZE ?_|refine ZD ?_|refine ZF rfl ?_|refine ZB rfl ?_|refine ZC ?_|refine ZJ ?_)
 have hl8:(Y::r0.b0::r0.b1::r0.b2::r0.b3 A.length 1::r0.b4::r0.b5 A.length 1::Blk.arr 5 texts.length (ros0.map Ro.av)::G0).length=8+G0.length:=by simp;omega
 rw [hl8,List.length_map]
 refine Zx (α:=Nat × Nat × AR × List Ro × List (List UInt8) × List Blk) (fun q=>[(1,.lit (ys.map Ed.av)),(8,.ptr A.length 6 0 0 0),(9,.ref A.length 7 (texts.length+q.2.1) 0 (texts.length+q.2.1)),(11,.ref A.length (8+G0.length) q.2.1 0 (texts.length+q.2.1)),(12,.int .i64 q.1)])
  (fun q=>⟨A,false,lmL Y A.length q.2.2.1 (texts.length+q.2.1) q.2.2.2.1 G0 q.2.1 q.2.2.2.2.1 q.2.2.2.2.2⟩) (fun q=>q.1<=ys.length/\q.2.1<=q.1/\MkInv q.2.2.1 q.2.2.2.1 q.2.2.2.2.1 (texts.length+q.2.1) (900+200*q.1)) (fun q=>ys.length-q.1) (0,0,r0,ros0,texts,[]) rfl rfl ⟨Nat.zero_le _,Nat.zero_le _,hLok.ok,hLok.good,hLok.rts,hrl,by simp only;omega,Zhz h9.1,hnl0⟩ ?_
 rintro ⟨i,c,r,ros,ss,G1⟩ ⟨hi,hci,hI⟩
 simp only at hi hci hI ⊢
 have hsl:=hI.rts.1;have hrs:=hI.len
 rcases Nat.lt_or_ge i ys.length with hlt|hge
 ·obtain ⟨y,hyi⟩:∃ y,ys[i]?=some y:=⟨ys[i]'(by omega),by simp [hlt]⟩
  have hy2:=hys y (jM hyi)
  have hP:PlanOk r.nodes ros:=hI.plan (by omega)
  obtain ⟨hv,hvb⟩:=Zl9 hI.good hP hy2
  have hvs:=ZmF hI.good hP hy2 (B:=((900+200*i:Nat):Int)) (by omega) hI.mb
  have hPl:=fun L (hR:Rd ⟨A,false,L⟩ A.length 6 r.nodes) (hg:St.get ⟨A,false,L⟩ A.length 7=some (.arr 5 (texts.length+c) (ros.map Ro.av)))=>Zoa (b:=1) hI.good hR hg hP (ys:=[y]) (by simp) (fun z hz=>by rw [List.mem_singleton] at hz;rw [hz];exact hy2)
  have hPl:=hPl _ (Zi7 (Y:=Y)) (ZeF (Zoj (Y:=Y) (r:=r) (v:=texts.length+c) (G0:=G0) (w:=c) (ss:=ss) (G1:=G1)) rfl)
  have hTx:=ZpX hI.good (Zi7 (Y:=Y) (A:=A) (r:=r) (v:=texts.length+c) (ros:=ros) (G0:=G0) (w:=c) (ss:=ss) (G1:=G1)) hv (by omega)
  have hln:=hv.len hI.good;simp only [jC,List.map_nil] at hPl;rw [hrs] at hPl
  generalize hT:ZCo r.nodes ros y=t at *
  rcases Nat.lt_or_ge r.n (nw t) with hfull|hroom
  ·have hWr:=ZYV (ZDf (Y:=Y) (A:=A) (r:=r) (v:=texts.length+c) (ros:=ros) (G0:=G0) (w:=c) (ss:=ss) (G1:=G1)) hI.ok hI.good hv (by omega) hfull
   have eb:=ZCq (Y:=Y) (n:=A.length) (r:=r) (v:=texts.length+c) (ros:=ros) (G0:=G0) (w:=c) (ss:=ss) (G1:=G1) (.arr 5 0 [Ro.zero.av])
   generalize lmL Y A.length r (texts.length+c) ros G0 c ss G1=L1 at *
   repeat' (first|refine YS rfl ?_|refine Zix rfl rfl rfl rfl hyi ?_|refine JC (f:=Tr.av) (l:=[t]) rfl rfl ⟨by decide,rfl⟩ Z2 ?_|refine ZE ?_|refine ZD ?_|refine ZF rfl ?_|refine Zq rfl rfl ?_|refine ZB rfl ?_|refine ZC ?_|(refine Zh rfl rfl (fun _=>?_) (fun _=>?_)<;>try (exfalso;omega))|(refine Zp rfl rfl (fun _=>?_) (fun _=>?_)<;>try (exfalso;omega))|(refine Zl rfl rfl (fun _=>?_) (fun _=>?_)<;>try (exfalso;omega))|refine ZV rfl ?_|refine ZG rfl ?_|refine QZ rfl rfl ?_|refine Zj rfl rfl (by omega) ?_|refine Z1 rfl rfl rfl ?_|refine Yr rfl rfl rfl rfl rfl rfl ?_|refine QI rfl (Zk _) ?_|refine ZA rfl rfl (by first|rfl|(simp only [lE,lN,lC,ZZ,ZW,ZX];first|done|rfl)) (hPl) ?_|refine ZA rfl rfl (by first|rfl|(simp only [lE,lN,lC,ZZ,ZW,ZX];first|done|rfl)) (hTx) ?_|refine ZA rfl rfl (by first|rfl|(simp only [lE,lN,lC,ZZ,ZW,ZX];first|done|rfl)) (hWr) ?_|refine ZI ?_|refine Zs ?_|refine ZJ ?_|refine Zd ?_|refine Zc rfl ?_|refine Z8 ?_)
   all_goals try contradiction
   all_goals try (exfalso;omega)
   refine ⟨(i+1,c,r,ros,ss,G1++[Blk.arr 5 0 [Ro.zero.av]]),⟨rfl,?_⟩,⟨by simp only;omega,by simp only;omega,hI.ok,hI.good,hI.rts,hrs,hI.n20,fun s hs=>by have:=hI.small s hs;simp only;omega,hI.nl⟩,by simp only;omega⟩
   exact congrArg (St.mk A false) eb
  ·have hWr:=ZeG (ZDf (Y:=Y) (A:=A) (r:=r) (v:=texts.length+c) (ros:=ros) (G0:=G0) (w:=c) (ss:=ss) (G1:=G1)) hI.ok hI.good hv (by omega) hroom
   rw [Zh2] at hWr
   obtain ⟨w1,w2⟩:=ZRJ (ZDf (Y:=Y) (A:=A) (r:=r) (v:=texts.length+c) (ros:=ros) (G0:=G0) (w:=c) (ss:=ss) (G1:=G1)) hI.ok hI.good hv (by omega) hroom
   have f6:(lmL Y A.length (wrV t r).1 (texts.length+c) ros G0 c ss G1)[7]?=_:=Zoj;have f7:(lmL Y A.length (wrV t r).1 (texts.length+c) ros G0 c ss G1)[8+G0.length]?=_:=lm_7;have n1:=w1.n;have n2:=w1.nl;have n3:=hI.nl;have n4:=hI.n20
   generalize hL2:lmL Y A.length (wrV t r).1 (texts.length+c) ros G0 c ss G1=L2 at *
   generalize lmL Y A.length r (texts.length+c) ros G0 c ss G1=L1 at *
   generalize (wrV t r).1=r2 at *
   generalize (wrV t r).2.1=ro at *
   generalize (wrV t r).2.2=hh at *
   generalize hTT:t.txt r.nodes=T at *
   have hl6:=(List.getElem?_eq_some_iff.1 f6).1;have hl8':=(List.getElem?_eq_some_iff.1 f7).1
   repeat' (first|refine YS rfl ?_|refine Zix rfl rfl rfl rfl hyi ?_|refine JC (f:=Tr.av) (l:=[t]) rfl rfl ⟨by decide,rfl⟩ Z2 ?_|refine ZE ?_|refine ZD ?_|refine ZF rfl ?_|refine Zq rfl rfl ?_|refine ZB rfl ?_|refine ZC ?_|refine Q1 rfl rfl rfl ?_|(refine Zh rfl rfl (fun _=>?_) (fun _=>?_)<;>try (exfalso;omega))|(refine Zp rfl rfl (fun _=>?_) (fun _=>?_)<;>try (exfalso;omega))|(refine Zl rfl rfl (fun _=>?_) (fun _=>?_)<;>try (exfalso;omega))|refine ZV rfl ?_|refine ZG rfl ?_|refine QZ rfl rfl ?_|refine Zj rfl rfl (by omega) ?_|refine Z1 rfl rfl rfl ?_|refine Yr rfl rfl rfl rfl rfl rfl ?_|refine QK rfl rfl rfl rfl ?_|refine QI rfl (Zk _) ?_|refine ZA rfl rfl (by first|rfl|(simp only [lE,lN,lC,ZZ,ZW,ZX];first|done|rfl)) (hPl) ?_|refine ZA rfl rfl (by first|rfl|(simp only [lE,lN,lC,ZZ,ZW,ZX];first|done|rfl)) (hTx) ?_|refine ZA rfl rfl (by first|rfl|(simp only [lE,lN,lC,ZZ,ZW,ZX];first|done|rfl)) (hWr) ?_|refine ZI ?_|refine ZJ ?_)
   all_goals try contradiction
   all_goals try (exfalso;omega)
   refine Yw (es:=ros.map Ro.av) (ys:=[ro.av]) rfl rfl (QQ f6) (by rw [List.length_map];omega) rfl rfl (by rw [List.length_map,List.length_singleton];omega) (by decide) ?_
   repeat' (first|refine ZD ?_|refine ZF rfl ?_|refine ZB rfl ?_|refine ZC ?_|refine QK rfl rfl rfl rfl ?_)
   refine Yw (es:=ss.map .str) (ys:=[.str T]) rfl rfl ((jS (by omega)).trans (QQ f7)) (by rw [List.length_map];omega) rfl rfl (by rw [List.length_map,List.length_singleton];omega) (by decide) ?_
   repeat' (first|refine ZD ?_|refine ZF rfl ?_|refine ZB rfl ?_|refine ZC ?_|refine Zj rfl rfl (by omega) ?_|refine Zy ?_|refine Z8 ?_)
   refine ⟨(i+1,c+1,r2,ros++[ro],ss++[T],G1++[.arr 5 0 [ro.av]]),⟨rfl,?_⟩,⟨by simp only;omega,by simp only;omega,w1.ok,w1.good,(hI.rts.ext hI.good w1.ext).snoc w2,by simp only [lL,List.length_singleton];omega,by simp only;omega,fun s hs=>?_,by simp only;omega⟩,by simp only;omega⟩
   ·show (⟨A,false,((L2++[Blk.arr 5 0 [ro.av]]).set 7 (Blk.arr 5 (texts.length+c+1) (ros.map Ro.av++[ro.av]))).set (8+G0.length) (Blk.arr 1 (c+1) (ss.map AV.str++[AV.str T]))⟩:St)=_
    rw [<- hL2,ZCq,Zok,Zol];rfl
   ·rcases List.mem_append.1 hs with q|q
    ·have:=hI.small s q;simp only;omega
    ·rw [List.mem_singleton.1 q];simp only;omega
 ·obtain rfl:i=ys.length:=by omega
  repeat' (first|refine YS rfl ?_|refine ZE ?_|refine ZD ?_|refine ZF rfl ?_|refine ZB rfl ?_|refine ZC ?_|(refine Zh rfl rfl (fun _=>?_) (fun _=>?_)<;>try (exfalso;omega))|refine ZG rfl ?_|refine ZQ ?_|refine Zs ?_|refine ZL ?_|refine Zd ?_|refine Zc rfl ?_|refine Zo ?_)
  all_goals try (exfalso;omega)
  refine ⟨_,_,Yj (.inr rfl) rfl rfl rfl rfl,r,c,ros,ss,G0,G1,texts.length+c,rfl,rfl,hI.ok,hI.good,hI.rts,hrs,hI.n20,fun s hs=>?_,hI.nl⟩
  have:=hI.small s hs
  omega
inductive Adds:AR->List Nat->AR->Prop
 | nil (r:AR):Adds r [] r
 | cons {r r':AR} {hs:List Nat} (x:Nd) (h:Adds (r.add x) hs r'):Adds r (r.next::hs) r'
theorem Adds.app {r r1 r2:AR} {hs gs:List Nat} (h:Adds r hs r1) (g:Adds r1 gs r2):Adds r (hs++gs) r2:=by
 induction h with
 | nil=>exact g
 | cons x h ih=>exact .cons x (ih g)
mutual
theorem Zi8:∀ (t:Tr) (r:AR),Adds r (t.wr r).2.2 (t.wr r).1
 | .mk o h m s k,r=>by
  rw [Tr.wr]
  split
  ·exact .nil r
  ·split
   ·exact .cons _ (.nil _)
   ·exact (Zmk k r).app (.cons _ (.nil _))
theorem Zmk:∀ (k:Option (List Tr)) (r:AR),Adds r (Tr.wrO k r).2.2 (Tr.wrO k r).1
 | none,r=>by rw [Tr.wrO];exact .nil r
 | some l,r=>by rw [Tr.wrO];exact ZgV l r
theorem ZgV:∀ (l:List Tr) (r:AR),Adds r (Tr.wrL l r).2.2 (Tr.wrL l r).1
 | [],r=>by rw [Tr.wrL];exact .nil r
 | t::l,r=>by rw [Tr.wrL];exact (Zi8 t r).app (ZgV l _)
end
theorem Zml (t:Tr) (r:AR):Adds r (wrV t r).2.2 (wrV t r).1:=by
 unfold wrV
 split
 ·exact .nil r
 ·exact Zi8 t r
end Go.Q15
namespace Go.Q15
open Go Go.QAbs
set_option maxRecDepth 100000
set_option maxHeartbeats 16000000
def hOf (r:AR) (s:Nat):Nat:=((r.gens[s]?).getD 0).toNat*65536+s
def Yn (r:AR):List Nat:=(ZCm r.states 1).map (hOf r)
theorem ZYg {l:List Int} {z:Int} {s:Nat} (h:s∈ZCm l z):s<l.length/\l[s]?=some z:=by
 unfold ZCm Yx at h;rw [List.mem_filter,List.mem_range] at h
 exact ⟨h.1,by simpa using h.2⟩
theorem Zh3 {st:St} {lv b:Nat} {r:AR} (h:HasR st lv b r) (ho:AROk r):S Tb YJ [.ptr lv (b+3) 0 0 0] st=some (.lit ((Yn r).map Zu),st):=by
 refine QJ rfl (fun A hA=>?_)
 have g3:=fun L=>ZS hA (ro:=false) (L:=L) h.h3
 have g2:=fun L=>ZS hA (ro:=false) (L:=L) h.h2
 unfold AR.b3 at g3;unfold AR.b2 at g2
 have hw2:∀ L,wIs 1 0 (St.get ⟨A,false,L⟩ lv (b+2))=true:=fun L=>by rw [g2];rfl
 have hsl:=fun L=>Zin (h.push hA (ro:=false) (L:=L)) ho.n16 1
 have hmem:=fun s hs=>ZYg (l:=r.states) (z:=1) (s:=s) hs
 have hlen:(ZCm r.states 1).length<=16384:=by have:=ZIs r.states 1 r.states.length;have:=ho.n16;unfold ZCm;omega
 have hn16:=ho.n16;have hgl:=ho.gl;unfold Yn
 generalize ZCm r.states 1=l at *
 repeat' (first|refine YS rfl ?_|refine ZE ?_|refine ZD ?_|refine ZF rfl ?_|refine ZB rfl ?_|refine ZC ?_|refine YF rfl ?_|refine ZA rfl rfl rfl (hsl _) ?_|refine ZJ ?_)
 refine Zx (α:=Nat) (fun i=>[(0,.ptr lv (b+3) 0 0 0),(3,.ref A.length 0 i 0 i),(9,.lit (l.map ZRI)),(10,.int .i64 l.length),(11,.int .i64 i)]) (fun i=>⟨A,false,[.arr 1 i (((l.take i).map (hOf r)).map Zu)]⟩) (fun i=>i<=l.length) (fun i=>l.length-i) 0 rfl rfl (Nat.zero_le _) ?_
 intro i hi;replace hi:i<=l.length:=hi
 rcases Nat.lt_or_ge i l.length with hlt|hge
 ·obtain ⟨s,hs⟩:∃ x,l[i]?=some x:=⟨l[i]'hlt,by simp [hlt]⟩
  obtain ⟨m1,m2⟩:=hmem s (jM hs);obtain ⟨g,g1',g2',g3'⟩:=ho.gen s m1
  have q:0<=((i:Nat):Int)/\l[((i:Nat):Int).toNat]?=some s:=⟨by omega,by rw [show ((i:Nat):Int).toNat=i by omega];exact hs⟩
  have q1:(r.gens.map (.int .u64))[0+((s:Nat):Int).toNat]?=some (AV.int .u64 g):=by
   rw [show 0+((s:Nat):Int).toNat=s by omega,jG,g1'];rfl
  have hMk:=fun st=>Zid s g (by omega) ⟨by omega,by have:=ho.most;omega⟩ st
  have hl2:(((l.take i).map (hOf r)).map Zu).length+[AV.int .u64 ((g*65536+s:Nat):Int)].length<4294967296:=by simp;omega
  have hl3:i=(((l.take i).map (hOf r)).map Zu).length:=by simp;omega
  have hlt2:((s:Nat):Int)<r.gens.length:=by omega
  repeat' (first|refine JC (f:=ZRI) rfl rfl q (fun _=>rfl) ?_|refine Z9 rfl (g3 _) rfl rfl ?_|refine Y4 rfl rfl (by omega) (hw2 _) ?_|refine Z9 rfl (g2 _) q1 rfl ?_|refine Yw rfl rfl rfl hl3 rfl rfl hl2 (by decide) ?_|refine ZE ?_|refine ZD ?_|refine ZF rfl ?_|refine ZU rfl rfl ?_|refine Zq rfl rfl ?_|refine ZB rfl ?_|refine ZC ?_|refine Z7 rfl rfl ?_|refine QI rfl rfl ?_|(refine Zh rfl rfl (fun _=>?_) (fun _=>?_)<;>try (exfalso;omega))|refine ZV rfl ?_|refine Zj rfl rfl (by omega) ?_|refine QK rfl rfl rfl rfl ?_|refine ZA rfl rfl rfl (hMk _) ?_|refine ZI ?_|refine ZJ ?_|refine Zy ?_|refine Z8 ?_)
  all_goals try contradiction
  all_goals try (exfalso;omega)
  refine ⟨i+1,⟨?_,?_⟩,by omega,by omega⟩
  ·rfl
  ·have e:hOf r s=g*65536+s:=by unfold hOf;rw [g1'];simp
   rw [List.take_add_one,hs,List.map_append,List.map_append,<- e];rfl
 ·obtain rfl:i=l.length:=by omega
  repeat' (first|refine ZE ?_|refine ZD ?_|refine ZF rfl ?_|refine ZB rfl ?_|refine ZC ?_|(refine Zh rfl rfl (fun _=>?_) (fun _=>?_)<;>try (exfalso;omega))|refine ZG rfl ?_|refine ZQ ?_|refine Zs ?_|refine ZL ?_|refine Zd ?_|refine Zc rfl ?_|refine Zo ?_)
  all_goals try (exfalso;omega)
  refine ZAr (es:=(l.map (hOf r)).map Zu) hA (.inr rfl) rfl (by rw [List.take_length];rfl) (by simp) (by intro v hv;obtain ⟨x,_,rfl⟩:=List.mem_map.1 hv;rfl) ?_
  rfl
theorem ZYh {st:St} {lv b:Nat} {r:AR} (h:HasR st lv b r) (ho:AROk r):S Tb Jy [.ptr lv (b+5) 0 0 0] st=some (.lit ((Yn r).map Zu),st):=by
 refine QJ rfl (fun A hA=>?_)
 have g5:=fun L=>ZS hA (ro:=false) (L:=L) h.h5
 unfold AR.b5 at g5
 have hF:=fun L=>Zh3 (h.push hA (ro:=false) (L:=L)) ho
 repeat' (first|refine Z9 rfl (g5 _) rfl rfl ?_|refine ZE ?_|refine ZD ?_|refine ZF rfl ?_|refine ZU rfl rfl ?_|refine ZB rfl ?_|refine ZC ?_|refine Z7 rfl rfl ?_|refine ZG rfl ?_|refine JO rfl rfl rfl rfl ?_|refine ZA rfl rfl rfl (hF _) ?_|refine ZI ?_|refine ZQ ?_|refine ZL ?_)
 all_goals try contradiction
 refine Zg hA (by first|exact .inl rfl|exact .inr rfl) rfl rfl rfl rfl ?_
 rfl
theorem ZkH {r r':AR} {hs:List Nat} (h:Adds r hs r'):AROk r->hs.length<=r.n->∀ o∈hs,r.states[o % 65536]?=some 0:=by
 induction h with
 | nil=>intro _ _ o ho;simp at ho
 | @cons r r' hs x h ih =>
  intro ho hl o hm;rw [List.length_cons] at hl
  have hn:0<r.n:=by omega
  obtain ⟨t1,t2,t3,t4,t5,t6⟩:=ho.top hn
  rcases List.mem_cons.1 hm with rfl|hm
  ·have e1:r.next % 65536=r.slot:=by unfold AR.next;have:=ho.n16;omega
   rw [e1];exact t3
  ·have hi:=ih (ho.add hn x) (by show hs.length<=r.n-1;omega) o hm
   replace hi:(r.states.set r.slot 1)[o % 65536]?=some 0:=hi
   by_cases q:r.slot=o % 65536
   ·rw [<- q,List.getElem?_set_self t2] at hi;simp at hi
   ·rwa [jS q] at hi
theorem Zon {r:AR} (ho:AROk r) {o:Nat} (h:r.states[o % 65536]?=some 0):o∉Yn r:=by
 intro hm;unfold Yn at hm;obtain ⟨s,hs,e⟩:=List.mem_map.1 hm;obtain ⟨m1,m2⟩:=ZYg hs;have h16:=ho.n16
 have:o % 65536=s:=by rw [<- e];unfold hOf;omega
 rw [this,m2] at h
 simp at h
theorem ZeO {r:AR} (ho:AROk r):(Yn r).length<=16384:=by
 have:=ZIs r.states 1 r.states.length
 have:=ho.n16
 unfold Yn ZCm;rw [List.length_map];omega
theorem ZkI {N:ZP} (hN:GoodN N) {x:Ro} (hx:RtOk N x):∀ o∈Z5 N x,∃ y,lk N o=some y:=by
 intro o ho;unfold Z5 at ho
 split at ho
 ·simp at ho
 ·rename_i h0
  obtain ⟨y,x1,x2,x3,x4⟩:∃ y,lk N x.at_=some y/\NdOk y/\y.h=x.h/\y.mea=x.m:=by
   rcases hx with rfl|w
   ·exact absurd rfl h0
   ·exact w.2
  obtain ⟨w,w1,_⟩:=ZUU hN x.h x.at_ y x1 x3 o ho;exact ⟨w,w1⟩
theorem onceV_mem {v:List Nat} {x:Nat}:x∈QR v↔x∈v:=(Ye v).2.1 x
theorem ZgW {N:ZP} {rs:List Ro} {o:Nat}:o∈ZAT N rs↔∃ x∈rs,o∈Z5 N x:=by
 unfold ZAT;rw [List.mem_flatMap]
 constructor
 ·rintro ⟨x,hx,h⟩;exact ⟨x,hx,onceV_mem.1 h⟩
 ·rintro ⟨x,hx,h⟩;exact ⟨x,hx,onceV_mem.2 h⟩
theorem Zmm {N:ZP} (hN:GoodN N):∀ l:List Ro,(∀ r∈l,RtOk N r)->(ZAT N l).length<=100000000*l.length:=by
 intro l
 induction l with
 | nil=>intro _;simp [ZAT]
 | cons a l ih =>
  intro h
  have h1:=Xw hN (h a (by simp))
  have h2:=(Ye (Z5 N a)).2.2
  have h3:=ih (fun r hr=>h r (by simp [hr]))
  unfold ZAT at h3 ⊢;rw [List.flatMap_cons,lL,List.length_cons];omega
structure ShOk (N:ZP) (rs:List Ro) (ro:Ro) (fr dd lv:List Nat):Prop where
 rsk:∀ r∈rs,RtOk N r
 rok:RtOk N ro
 hd:dd=QR ((ZAT N rs).filter fun o=>decide (o∉QR (Z5 N ro)))
 fn:fr.Nodup
 ln:fr.length<1000000000/\lv.length<1000000000/\(ZAT N rs).length<1000000000/\(QR (Z5 N ro)).length<1000000000
 frk:∀ h∈fr,h∉lv/\h∈QR (Z5 N ro)
 now:∀ h∈QR (Z5 N ro),(h∈ZAT N rs↔h∉fr)/\h∉dd
theorem ShOk.call {st:St} {la b:Nat} {N:ZP} (hN:GoodN N) (hR:Rd st la (b+5) N) {rs:List Ro} (hl:rs.length<=3) {ro:Ro} {fr dd lv:List Nat} (h:ShOk N rs ro fr dd lv) :
 S T3 JZ [.ptr la (b+5) 0 0 0,.lit (lv.map Zu),Qo ro fr (slH dd),.lit (rs.map Ro.av)] st=some (.bool true,st) :=
 Zmj hN hR h.rsk hl h.rok rfl rfl h.hd h.fn h.ln h.frk h.now
theorem ZgX {r:AR} (ho:AROk r) (hg:GoodN r.nodes) {t:Tr} (hv:VE r.nodes t) (hb:t.bytes<=65536) (hn:nw t<=r.n) {rs:List Ro} (hl:rs.length<=3) (hrs:∀ x∈rs,RtOk r.nodes x) (hin:∀ o∈t.und r.nodes,∃ x∈rs,o∈Z5 r.nodes x) :
 ShOk (wrV t r).1.nodes rs (wrV t r).2.1 (wrV t r).2.2 (YM r.nodes rs t) (Yn r):=by
 obtain ⟨w1,w2⟩:=ZRJ (Yy [] [] [] r) ho hg hv hb hn;have hu:=Zoi ho hg hv hb hn
 have ha:=ZkH (Zml t r) ho (by rw [w1.len];exact hn)
 have hne:∀ x∈rs,Z5 (wrV t r).1.nodes x=Z5 r.nodes x:=fun x hx=>Zh1 hg w1.ext (hrs x hx)
 have hnw:∀ x∈rs,∀ o∈Z5 r.nodes x,o∉(wrV t r).2.2:=fun x hx o hm q=>by
  obtain ⟨y,hy⟩:=ZkI hg (hrs x hx) o hm
  have:=w1.new o q
  rw [hy] at this;simp at this
 have hro:=w2.rt
 have hwas:ZAT (wrV t r).1.nodes rs=ZAT r.nodes rs:=by
  unfold ZAT;rw [List.flatMap_def,List.flatMap_def]
  congr 1
  exact List.map_congr_left fun x hx=>by rw [hne x hx]
 have hdd:YM r.nodes rs t=QR ((ZAT (wrV t r).1.nodes rs).filter fun o=>decide (o∉QR (Z5 (wrV t r).1.nodes (wrV t r).2.1))):=by
  rw [hwas]
  show QR (rs.flatMap fun x=>ZDM r.nodes x t)=_
  congr 1
  unfold ZAT
  have key:∀ l:List Ro,(∀ x∈l,x∈rs)->(l.flatMap fun x=>ZDM r.nodes x t)=(l.flatMap fun x=>QR (Z5 r.nodes x)).filter fun o=>decide (o∉QR (Z5 (wrV t r).1.nodes (wrV t r).2.1)):=by
   intro l
   induction l with
   | nil=>intro _;rfl
   | cons x l ih =>
    intro h
    rw [List.flatMap_cons,List.flatMap_cons,List.filter_append,ih (fun y hy=>h y (by simp [hy])),ZmP hg ho.nz (hrs x (h x (by simp))) hv,ZN7]
    congr 1
    refine List.filter_congr fun o hm=>?_
    rw [decide_eq_decide,onceV_mem,hu o]
    have:=hnw x (h x (by simp)) o (onceV_mem.1 hm)
    simp [this]
  exact key rs fun _ h=>h
 have hsl:=Zmm w1.good rs (fun x hx=>(hrs x hx).ext w1.ext)
 have hnl:=Xw w1.good hro;have hol:=(Ye (Z5 (wrV t r).1.nodes (wrV t r).2.1)).2.2;have hhl:=ZeO ho;have hfl:=w1.len;have hrn:=ho.nn;have hr16:=ho.n16
 refine ⟨fun x hx=>(hrs x hx).ext w1.ext,hro,hdd,w1.nodup,⟨by omega,by omega,by omega,by omega⟩,fun h hh=>⟨Zon ho (ha h hh),onceV_mem.2 ((hu h).2 (.inl hh))⟩,fun h hh=>?_⟩
 have hm:=(hu h).1 (onceV_mem.1 hh)
 have hw:h∈ZAT (wrV t r).1.nodes rs↔h∉(wrV t r).2.2:=by
  rw [hwas,ZgW]
  constructor
  ·rintro ⟨x,hx,q⟩;exact hnw x hx h q
  ·intro q
   rcases hm with z|z
   ·exact absurd z q
   ·exact hin h z
 refine ⟨hw,fun q=>?_⟩
 rw [hdd,onceV_mem,List.mem_filter] at q;simp only [decide_eq_true_eq] at q;exact q.2 hh
set_option maxHeartbeats 32000000
theorem eqRo (ro:Ro):eqV [(0,0),(1,0),(2,0),(3,0),(4,0)] 0 (.agg [.int .u64 ro.at_,.int .i64 ro.h,.int .i64 ro.m.b,.int .i64 ro.m.r,.int .i64 ro.m.l]) (.agg [.int .u64 ro.at_,.int .i64 ro.h,.int .i64 ro.m.b,.int .i64 ro.m.r,.int .i64 ro.m.l])=some true:=by
 simp [eqV,Jb,ZcA]
theorem Zh4 (ro:Ro) (st:St):S Tb Jd [Qo ro [] .nils,.agg [.int .u64 ro.at_,.int .i64 ro.h,.int .i64 ro.m.b,.int .i64 ro.m.r,.int .i64 ro.m.l,.nils,.nils]] st=some (.bool true,st):=by
 refine QJ rfl (fun A hA=>?_)
 have hN:=fun st=>ZIx [] (by decide) st
 simp only [List.map_nil] at hN;have hq:=eqRo ro;unfold Qo;simp only [List.map_nil]
 repeat' (first|refine JO rfl rfl hq rfl ?_|refine ZE ?_|refine ZD ?_|refine ZF rfl ?_|refine ZU rfl rfl ?_|refine ZO rfl rfl rfl rfl ?_|refine QE rfl ?_|refine Zn rfl rfl rfl rfl ?_|refine ZB rfl ?_|refine ZC ?_|refine Ze rfl rfl rfl ?_|refine ZA rfl rfl rfl (hN _) ?_|refine ZQ ?_|refine ZL ?_)
 all_goals try contradiction
 all_goals refine Zg hA (by first|exact .inl rfl|exact .inr rfl) rfl rfl rfl rfl ?_
 all_goals rfl
theorem Zmn {Y:Blk} {n:Nat} {r:AR} {v:Nat} {ros:List Ro} {G0:List Blk} {w:Nat} {ss:List (List UInt8)} {G1:List Blk}:(lmL Y n r v ros G0 w ss G1).length=9+G0.length+G1.length:=by
 simp [lmL];omega
theorem ZgY {texts:List (List UInt8)} {ys:List Ed} (h:¬ ZDN texts ys):(texts.flatten.length<=900/\texts.length<=4)/\ys.length<=12/\∀ y∈ys,y.text.length<=200:=by
 have h1:¬ ZRK texts:=fun q=>h (.inl q)
 have h2:¬ ZYZ ys:=fun q=>h (.inr (.inl q))
 have h3:¬ 12<ys.length:=fun q=>h (.inr (.inr q))
 obtain ⟨a,b,c⟩:=Zpn h1 h2
 exact ⟨a,by omega,c⟩
theorem Zmo {N:ZP} {ro:Ro} {s0:List UInt8} {a:Int} (h:Rt N ro s0) (r:AR):wrV (edV N ro a 0 []) r=(r,ro,[]):=by
 unfold edV ZCl;rw [if_pos ⟨rfl,rfl⟩];unfold Jm
 split
 ·rename_i h0
  have e:ro=.zero:=by
   rcases h.rt with e|w
   ·exact e
   ·exact absurd h0 w.1
  subst e;rfl
 ·rename_i h0
  rw [Tr.keep,Tr.own];unfold wrV
  rw [if_neg (fun q=>h0 q.1),Tr.wr,if_pos h0]
theorem Zoo {N:ZP} {ro:Ro} {fr dd lv:List Nat} (h:ShOk N [ro] ro fr dd lv):dd=[]:=by
 rw [h.hd]
 have:(ZAT N [ro]).filter (fun o=>decide (o∉QR (Z5 N ro)))=[]:=by
  rw [List.filter_eq_nil_iff];intro o ho;rw [ZgW] at ho;obtain ⟨x,hx,q⟩:=ho;rw [List.mem_singleton] at hx;subst hx;simp only [decide_eq_true_eq,Decidable.not_not];exact onceV_mem.2 q
 rw [this];rfl
section
variable {O:Orc} {k:List Fr} {Q:YO} {e:Env} {A:List (Bool × List Blk)} {L:List Blk} {keep:List Nat} {is:List QAbs.PI}
theorem ZgZ {a x:Opd} {y:AV} {ro:Ro} {fr dd:List Nat} (ha:Zf e a=some (.ptr A.length L.length 0 0 0)) (hx:Zf e x=some (Qo ro fr (slH dd))) (h:Is O is keep k Q e ⟨A,false,L++[Blk.arr 7 0 [Qo ro fr (slH dd)]]⟩) :
 Is O (⟨none,none,false,.st 7 a x⟩::is) keep k Q e ⟨A,false,L++[Blk.arr 7 0 [y]]⟩ :=
 ZIr (L0:=L) (T:=[Blk.arr 7 0 [y]]) (ix:=0) (i:=0) (w:=7) (ver:=0) (es:=[y]) ha hx rfl rfl (Zof _ _ _ _ _) (Zpu _ _ _ _) (XD _) h
theorem Zi9 {a x:Opd} {y:AV} (ha:Zf e a=some (.ptr A.length L.length 0 0 0)) (hx:Zf e x=some chZ) (h:Is O is keep k Q e ⟨A,false,L++[Blk.arr 7 0 [chZ]]⟩) :
 Is O (⟨none,none,false,.st 7 a x⟩::is) keep k Q e ⟨A,false,L++[Blk.arr 7 0 [y]]⟩ :=
 ZIr (L0:=L) (T:=[Blk.arr 7 0 [y]]) (ix:=0) (i:=0) (w:=7) (ver:=0) (es:=[y]) ha hx rfl rfl rfl rfl (XD _) h
theorem Zmp {d:Nat} {agg:Bool} {n w ver:Nat} {a:Opd} {x v:AV} (ha:Zf e a=some (.ptr A.length L.length ver 0 0)) (hv:Qj x agg 0 n=some v)
 (h:Is O is keep k Q ((d,v)::e) ⟨A,false,L++[Blk.arr w ver [x]]⟩):Is O (⟨some d,none,false,.ld agg n a⟩::is) keep k Q e ⟨A,false,L++[Blk.arr w ver [x]]⟩ :=
 ZO ha (List.getElem?_concat_length ..) rfl hv h
theorem Zop {st:St} {d w:Nat} {z u v:AV} {o q:Opd} (ho:Zf e o=some u) (hq:Zf e q=some v) (hu:u.wide=some w) (hw:v.wide=some w) (hi:imm 6 u=true) (hj:imm 6 v=true) (h:Is O is keep k Q ((d,.lit [u,v])::e) st):Is O (⟨some d,none,false,.w .imm (.bslice false w [z,z] [(0,o),(1,q)])⟩::is) keep k Q e st:=by
 refine Z4 (od:=some d) (v:=.lit [u,v]) (st':=st) ?_ h
 simp [Zi,QC,ZeZ,JX,ZH ho,ZH hq,fillE,hu,hw,ZUc,hi,hj]
end
theorem Zoq {st:St} {A:List (Bool × List Blk)} (hA:A=st.A++[(st.ro,st.L)]) {Y:Blk} {r2:AR} {c n:Nat} {ros:List Ro} {ss:List (List UInt8)} {G0 G1:List Blk} (hI:MkInv r2 ros ss n 3300) {z j:Int} (hz:0<=z/\z<n) (hj:0<=j/\j<n) {x y:Ro} {s t:List UInt8}
 (hx:ros[z.toNat]?=some x) (hy:ros[j.toNat]?=some y) (hs:ss[z.toNat]?=some s) (ht:ss[j.toNat]?=some t) {ro2:Ro} {fr dd:List Nat} {v7:AV} (e:Env) :
 Ru (S T3) (p_quartolaw19_EditShares_19.seq (p_quartolaw19_EditShares_20.seq ((p_quartolaw19_EditShares_21.seq (PC.ite (Opd.s 139) (p_quartolaw19_EditShares_22.seq PC.ret) PC.skip)).seq (p_quartolaw19_EditShares_23.seq PC.ret)))) [] (fun x e st'=>Jh false [RV.s 10] (x,e,st')=some (AV.bool true,st))
  ([(11,.ptr A.length 6 0 0 0),(12,.ref A.length 7 n 0 n),(15,.int .i64 z),(16,.int .i64 j),(20,.ptr A.length (lmL Y A.length r2 n ros G0 c ss G1).length 0 0 0)]++e) ⟨A,false,lmL Y A.length r2 n ros G0 c ss G1++[.arr 7 0 [Qo ro2 fr (slH dd)]]⟩:=by
 have hWk:=fun st=>Zb3 st
 have hrs:=hI.len;have hsl:=hI.rts.1;have hRx:=hI.rts.2 z.toNat x s hx hs;have hRy:=hI.rts.2 j.toNat y t hy ht;have hsm:=hI.small s (jM hs);have htm:=hI.small t (jM ht);have hHd:=up3 (ZYh (b:=1) (ZDf (Y:=Y) (A:=A) (r:=r2) (v:=n) (ros:=ros) (G0:=G0) (w:=c) (ss:=ss) (G1:=G1++[.arr 7 0 [Qo ro2 fr (slH dd)]])).r hI.ok);rw [<- ZCq] at hHd
 have f6:∀ r':AR,(lmL Y A.length r' n ros G0 c ss G1)[7]?=some (.arr 5 n (ros.map Ro.av)):=fun _=>Zoj
 have gx:(ros.map Ro.av)[0+z.toNat]?=some x.av:=by rw [Nat.zero_add,jG,hx];rfl
 have gy:(ros.map Ro.av)[0+j.toNat]?=some y.av:=by rw [Nat.zero_add,jG,hy];rfl
 rcases Nat.lt_or_ge r2.n (nw (apV r2.nodes x y)) with hfull|hroom
 ·have hAp:=up3 (ZeM (b:=1) (ZDf (Y:=Y) (A:=A) (r:=r2) (v:=n) (ros:=ros) (G0:=G0) (w:=c) (ss:=ss) (G1:=G1++[.arr 7 0 [Qo ro2 fr (slH dd)]])) hI.ok hI.good hRx hRy (by omega) hfull)
  rw [<- ZCq] at hAp;have q6:=f6 r2
  generalize lmL Y A.length r2 n ros G0 c ss G1=X at *
  generalize (Yn r2).map Zu=hv at *
  unfold Ro.av at hAp
  repeat' (first|refine Xg rfl rfl (by omega) (QQ q6) ?_|refine ZO rfl (QQ q6) gx (XQ _) ?_|refine ZO rfl (QQ q6) gy (XQ _) ?_|refine Zi9 rfl rfl ?_|refine ZE ?_|refine ZD ?_|refine ZF rfl ?_|refine Zq rfl rfl ?_|refine ZB rfl ?_|refine ZC ?_|(refine Zp rfl rfl (fun _=>?_) (fun _=>?_)<;>try (exfalso;omega))|refine ZV rfl ?_|refine ZA rfl rfl rfl (hHd) ?_|refine ZA rfl rfl rfl (hAp) ?_|refine ZA rfl rfl rfl (hWk _) ?_|refine ZQ ?_|refine ZL ?_|refine Za ?_)
  all_goals try contradiction
  all_goals try (exfalso;omega)
  all_goals refine Zg hA (by first|exact .inl rfl|exact .inr rfl) rfl rfl rfl rfl ?_
  all_goals rfl
 obtain ⟨u1,u2,u3⟩:=Zh0 hI.good hRx hRy (by omega)
 have hAp:=up3 (ZkF (b:=1) (ZDf (Y:=Y) (A:=A) (r:=r2) (v:=n) (ros:=ros) (G0:=G0) (w:=c) (ss:=ss) (G1:=G1++[.arr 7 0 [Qo ro2 fr (slH dd)]])) hI.ok hI.good hRx hRy (by omega) hroom)
 rw [Zh2,<- ZCq,<- ZCq] at hAp
 have hSh:=ZgX hI.ok hI.good u1 (by omega) hroom (rs:=[x,y]) (by simp) (fun w hw=>by
  simp only [List.mem_cons,List.not_mem_nil,or_false] at hw
  rcases hw with rfl|rfl
  ·exact hRx.rt
  ·exact hRy.rt) (fun o ho=>by
  rcases List.mem_append.1 (Zpw hI.good hRx hRy o ho) with q|q
  ·exact ⟨x,by simp,q⟩
  ·exact ⟨y,by simp,q⟩)
 obtain ⟨w1,w2⟩:=ZRJ (Yy [] [] [] r2) hI.ok hI.good u1 (by omega) hroom
 have hC:=hSh.call (st:=⟨A,false,lmL Y A.length (wrV (apV r2.nodes x y) r2).1 n ros G0 c ss G1++[.arr 7 0 [Qo (wrV (apV r2.nodes x y) r2).2.1 (wrV (apV r2.nodes x y) r2).2.2 (slH (YM r2.nodes [x,y] (apV r2.nodes x y)))]]⟩) (la:=A.length) (b:=1) w1.good (by rw [ZCq];exact Zi7) (by simp)
 have q6:=f6 r2;have p6:=f6 (wrV (apV r2.nodes x y) r2).1
 have hlen:(lmL Y A.length r2 n ros G0 c ss G1).length=(lmL Y A.length (wrV (apV r2.nodes x y) r2).1 n ros G0 c ss G1).length:=by rw [Zmn,Zmn]
 simp only [jC,List.map_nil] at hC;clear hSh w1 w2 u1 u2 u3 hroom
 generalize YM r2.nodes [x,y] (apV r2.nodes x y)=dd3 at *
 generalize (wrV (apV r2.nodes x y) r2).2.1=ro3 at *
 generalize (wrV (apV r2.nodes x y) r2).2.2=fr3 at *
 generalize (wrV (apV r2.nodes x y) r2).1=r3 at *
 generalize lmL Y A.length r2 n ros G0 c ss G1=X at *
 generalize lmL Y A.length r3 n ros G0 c ss G1=X3 at *
 generalize Yn r2=hv at *
 have hp7:Qj (Qo ro3 fr3 (slH dd3)) true 0 7=some (Qo ro3 fr3 (slH dd3)):=rfl;rw [hlen]
 repeat' (first|refine Xg rfl rfl (by omega) (QQ q6) ?_|refine ZO rfl (QQ q6) gx (XQ _) ?_|refine ZO rfl (QQ q6) gy (XQ _) ?_|refine ZgZ rfl rfl ?_|refine Xg rfl rfl (by omega) (QQ p6) ?_|refine ZO rfl (QQ p6) gx (XQ _) ?_|refine ZO rfl (QQ p6) gy (XQ _) ?_|refine Zmp rfl hp7 ?_|refine Zop rfl rfl rfl rfl rfl rfl ?_|refine ZE ?_|refine ZD ?_|refine ZF rfl ?_|refine QE rfl ?_|refine Zn rfl rfl rfl rfl ?_|refine Zq rfl rfl ?_|refine ZB rfl ?_|refine ZC ?_|(refine Zp rfl rfl (fun _=>?_) (fun _=>?_)<;>try (exfalso;omega))|refine ZG rfl ?_|refine ZA rfl rfl rfl (hHd) ?_|refine ZA rfl rfl rfl (hAp) ?_|refine ZA rfl rfl rfl (hC) ?_|refine ZA rfl rfl rfl (hWk _) ?_|refine ZI ?_|refine ZQ ?_|refine ZL ?_)
 all_goals try contradiction
 all_goals try (exfalso;omega)
 all_goals refine Zg hA (by first|exact .inl rfl|exact .inr rfl) rfl rfl rfl rfl ?_
 all_goals rfl
theorem ZeP (texts:List (List UInt8)) (ys:List Ed) (y:Op) (which other:Int) (hb:texts.length<9223372036854775808) (hbs:∀ s∈texts,s.length<9223372036854775808) (hy:ys.length<9223372036854775808) (hys:∀ y∈ys,y.text.length<9223372036854775808)
 (hyt:y.text.length<9223372036854775808) (st:St) :
 S T3 JV [.lit (texts.map .str),.lit (ys.map Ed.av),y.av,.int .i64 which,.int .i64 other] st=some (.bool true,st):=by
 refine QJ (le3 JV (.pf YC) rfl) (fun A hA=>?_)
 have hBy:=fun st=>up3 (ZmZ texts ys hb hbs hy hys st)
 have hWk:=fun st=>Zb3 st
 unfold Op.av
 by_cases hl:ZDN texts ys
 ·simp only [decide_eq_true hl] at hBy
  repeat' (first|refine ZE ?_|refine ZD ?_|refine ZF rfl ?_|refine Jq rfl rfl ?_|refine Zn rfl rfl rfl rfl ?_|refine ZB rfl ?_|refine ZC ?_|refine ZV rfl ?_|refine Ze rfl rfl rfl ?_|refine ZA rfl rfl rfl (hBy _) ?_|refine ZA rfl rfl rfl (hWk _) ?_|refine ZQ ?_|refine ZL ?_|refine Za ?_)
  all_goals try contradiction
  all_goals refine Zg hA (by first|exact .inl rfl|exact .inr rfl) rfl rfl rfl rfl ?_
  all_goals rfl
 simp only [decide_eq_false hl] at hBy
 by_cases h3:300<y.text.length
 ·repeat' (first|refine ZE ?_|refine ZD ?_|refine ZF rfl ?_|refine ZU rfl rfl ?_|refine ZO rfl rfl rfl rfl ?_|refine QE rfl ?_|refine Zn rfl rfl rfl rfl ?_|refine ZB rfl ?_|refine ZC ?_|refine Jc rfl ?_|(refine Qe rfl rfl (fun _=>?_) (fun _=>?_)<;>try (exfalso;omega))|refine ZV rfl ?_|refine Ze rfl rfl rfl ?_|refine ZA rfl rfl rfl (hBy _) ?_|refine ZA rfl rfl rfl (hWk _) ?_|refine ZQ ?_|refine ZL ?_|refine Za ?_)
  all_goals try contradiction
  all_goals try (exfalso;omega)
  all_goals refine Zg hA (by first|exact .inl rfl|exact .inr rfl) rfl rfl rfl rfl ?_
  all_goals rfl
 obtain ⟨h9,h12,hy2⟩:=ZgY hl;obtain ⟨Y,hY⟩:∃ Y,Y=Blk.arr 3 0 [.agg [.int .i64 y.at_,.int .i64 y.num,.str y.text]]:=⟨_,rfl⟩;obtain ⟨v,st',hMk,r,c,ros,ss,G0,G1,n,rfl,rfl,hI⟩:=Zom Y texts ys h9 h12 hy2 A;replace hMk:=up3 hMk
 rw [show (⟨A,false,[Y]⟩:St)=⟨A,false,[Blk.arr 3 0 [.agg [.int .i64 y.at_,.int .i64 y.num,.str y.text]]]⟩ by rw [hY]] at hMk
 have hn20:=hI.n20;have hrs:=hI.len;have hsl:=hI.rts.1
 rcases Nat.eq_zero_or_pos n with hn0|hpos
 ·subst hn0
  repeat' (first|refine ZE ?_|refine ZD ?_|refine ZF rfl ?_|refine ZU rfl rfl ?_|refine ZO rfl rfl rfl rfl ?_|refine QE rfl ?_|refine Zn rfl rfl rfl rfl ?_|refine Zq rfl rfl ?_|refine ZB rfl ?_|refine ZC ?_|refine Jc rfl ?_|refine Qd rfl ?_|(refine Qe rfl rfl (fun _=>?_) (fun _=>?_)<;>try (exfalso;omega))|(refine Zp rfl rfl (fun _=>?_) (fun _=>?_)<;>try (exfalso;omega))|refine ZV rfl ?_|refine ZG rfl ?_|refine QZ rfl rfl ?_|refine Ze rfl rfl rfl ?_|refine ZA rfl rfl rfl (hBy _) ?_|refine ZA rfl rfl rfl (hWk _) ?_|refine ZA rfl rfl rfl (hMk) ?_|refine ZI ?_|refine ZQ ?_|refine ZL ?_|refine Za ?_)
  all_goals try contradiction
  all_goals try (exfalso;omega)
  all_goals refine Zg hA (by first|exact .inl rfl|exact .inr rfl) rfl rfl rfl rfl ?_
  all_goals rfl
 have hpb:=Qi (x:=which) (n:=(n:Int)-1) (by omega)
 have hPk:=fun st=>up3 (ZeN which ((n:Int)-1) (by omega) (by omega) st)
 generalize JI which ((n:Int)-1)=z at *
 have hqb:=Qi (x:=other) (n:=(n:Int)-1) (by omega)
 have hPo:=fun st=>up3 (ZeN other ((n:Int)-1) (by omega) (by omega) st)
 generalize JI other ((n:Int)-1)=j at *
 obtain ⟨ro,hro⟩:∃ x,ros[z.toNat]?=some x:=⟨_,jE (by omega)⟩
 obtain ⟨s,hs⟩:∃ x,ss[z.toNat]?=some x:=⟨_,jE (by omega)⟩
 obtain ⟨ro',hro'⟩:∃ x,ros[j.toNat]?=some x:=⟨_,jE (by omega)⟩
 obtain ⟨s',hs'⟩:∃ x,ss[j.toNat]?=some x:=⟨_,jE (by omega)⟩
 have hRt:=hI.rts.2 z.toNat ro s hro hs;have hsm:=hI.small s (jM hs)
 have p1:=Qi (x:=y.at_) (n:=(s.length:Int)) (by omega)
 have hPa:=fun st=>up3 (ZeN y.at_ s.length (by omega) (by omega) st)
 generalize JI y.at_ s.length=a at *
 have p2:=Qi (x:=y.num) (n:=(s.length:Int)-a) (by omega)
 have hPm:=fun st=>up3 (ZeN y.num ((s.length:Int)-a) (by omega) (by omega) st)
 generalize JI y.num ((s.length:Int)-a)=m at *
 have hE:EdOk r.nodes ro s a m y.text:=⟨hRt,p1.1,p2.1,by omega,by omega,by omega⟩
 have hHd:=up3 (ZYh (b:=1) (ZDf (Y:=Y) (A:=A) (r:=r) (v:=n) (ros:=ros) (G0:=G0) (w:=c) (ss:=ss) (G1:=G1)).r hI.ok)
 have f0:∀ r':AR,(lmL Y A.length r' n ros G0 c ss G1)[0]?=some (Blk.arr 3 0 [.agg [.int .i64 y.at_,.int .i64 y.num,.str y.text]]):=fun _=>congrArg some hY
 have f6:∀ r':AR,(lmL Y A.length r' n ros G0 c ss G1)[7]?=some (.arr 5 n (ros.map Ro.av)):=fun _=>Zoj
 have f7:(lmL Y A.length r n ros G0 c ss G1)[8+G0.length]?=some (.arr 1 c (ss.map .str)):=lm_7
 have g6:(ros.map Ro.av)[0+z.toNat]?=some ro.av:=by rw [Nat.zero_add,jG,hro];rfl
 have g7:(ss.map AV.str)[0+z.toNat]?=some (.str s):=by rw [Nat.zero_add,jG,hs];rfl
 have k0:=f0 r;have k6:=f6 r
 rcases Nat.lt_or_ge r.n (nw (edV r.nodes ro a m y.text)) with hfull|hroom
 ·have hIn:=Zi2 (up3 (ZbC (b:=1) ((ZDf (Y:=Y) (A:=A) (r:=r) (v:=n) (ros:=ros) (G0:=G0) (w:=c) (ss:=ss) (G1:=G1++[.hole 13])).push (ro:=false) (L:=[]) rfl) hI.ok hI.good hE hfull)) (Zmb _ _ _)
  rw [<- ZCq] at hIn;unfold chZ at hIn
  generalize lmL Y A.length r n ros G0 c ss G1=X at *
  generalize (Yn r).map Zu=hv at *
  repeat' (first|refine ZO rfl k0 rfl rfl ?_|refine Xg rfl rfl (by omega) f7 ?_|refine ZO rfl f7 g7 rfl ?_|refine ZE ?_|refine ZD ?_|refine ZF rfl ?_|refine ZU rfl rfl ?_|refine ZO rfl rfl rfl rfl ?_|refine QE rfl ?_|refine Zn rfl rfl rfl rfl ?_|refine Zq rfl rfl ?_|refine ZB rfl ?_|refine ZC ?_|refine Jc rfl ?_|refine Qd rfl ?_|(refine Qe rfl rfl (fun _=>?_) (fun _=>?_)<;>try (exfalso;omega))|(refine Zp rfl rfl (fun _=>?_) (fun _=>?_)<;>try (exfalso;omega))|refine ZG rfl ?_|refine QZ rfl rfl ?_|refine YE rfl rfl (by omega) ?_|refine Ze rfl rfl rfl ?_|refine ZA rfl rfl rfl (hBy _) ?_|refine ZA rfl rfl rfl (hMk) ?_|refine ZA rfl rfl rfl (hPk _) ?_|refine ZA rfl rfl rfl (hPo _) ?_|refine ZA rfl rfl rfl (hPa _) ?_|refine ZA rfl rfl rfl (hPm _) ?_|refine ZA rfl rfl rfl (hHd) ?_|refine ZI ?_)
  all_goals try contradiction
  all_goals try (exfalso;omega)
  refine Zd9 ?_
  change Is _ _ _ _ _ _ ⟨A,false,X++[.hole 13]⟩
  repeat' (first|refine Xg rfl rfl (by omega) (QQ k6) ?_|refine ZO rfl (QQ k6) g6 (XQ _) ?_|refine ZO rfl (QQ k0) rfl rfl ?_|refine ZfE rfl rfl rfl hIn ?_|refine ZYd rfl rfl ?_|refine Zi9 rfl rfl ?_|refine ZE ?_|refine ZD ?_|refine ZF rfl ?_|refine ZU rfl rfl ?_|refine Zq rfl rfl ?_|refine ZB rfl ?_|refine ZC ?_|(refine Zp rfl rfl (fun _=>?_) (fun _=>?_)<;>try (exfalso;omega))|refine ZV rfl ?_|refine ZA rfl rfl rfl (hWk _) ?_|refine ZQ ?_|refine ZL ?_|refine Za ?_)
  all_goals try contradiction
  all_goals try (exfalso;omega)
  all_goals refine Zg hA (by first|exact .inl rfl|exact .inr rfl) rfl rfl rfl rfl ?_
  all_goals rfl
 have hIn:=up3 (ZYc (b:=1) ((ZDf (Y:=Y) (A:=A) (r:=r) (v:=n) (ros:=ros) (G0:=G0) (w:=c) (ss:=ss) (G1:=G1++[.hole 13])).push (ro:=false) (L:=[]) rfl) hI.ok hI.good hE hroom)
 have ep:∀ r':AR,Qb ⟨(⟨A,false,lmL Y A.length r n ros G0 c ss (G1++[Blk.hole 13])⟩:St).ps,false,[]⟩ A.length 1 r'=⟨(⟨A,false,lmL Y A.length r' n ros G0 c ss (G1++[Blk.hole 13])⟩:St).ps,false,[]⟩:=fun r'=>by
  have:=XP (st:=⟨A,false,lmL Y A.length r n ros G0 c ss (G1++[Blk.hole 13])⟩) (ro:=false) (L:=[]) (lv:=A.length) (b:=1) (r':=r') rfl (Nat.le_refl _)
  rw [Zh2] at this;exact this
 rw [ep] at hIn;replace hIn:=Zi2 (A:=A) (L:=lmL Y A.length r n ros G0 c ss (G1++[.hole 13])) (L':=lmL Y A.length (wrV (edV r.nodes ro a m y.text) r).1 n ros G0 c ss (G1++[.hole 13])) hIn (Zma _ _ _ _ _ _);rw [<- ZCq,<- ZCq] at hIn;obtain ⟨v1,v2,v3⟩:=hE.ok hI.good
 obtain ⟨w1,w2⟩:=ZRJ (Yy [] [] [] r) hI.ok hI.good v1 (by omega) hroom
 have hSh:=ZgX hI.ok hI.good v1 (by omega) hroom (rs:=[ro]) (by simp) (fun w hw=>by rw [List.mem_singleton] at hw;rw [hw];exact hRt.rt) (fun o ho=>⟨ro,by simp,Zpv hI.good hE o ho⟩)
 have hC:=hSh.call (st:=⟨A,false,lmL Y A.length (wrV (edV r.nodes ro a m y.text) r).1 n ros G0 c ss G1++[.arr 7 0 [Qo (wrV (edV r.nodes ro a m y.text) r).2.1 (wrV (edV r.nodes ro a m y.text) r).2.2 (slH (YM r.nodes [ro] (edV r.nodes ro a m y.text)))]]⟩) (la:=A.length) (b:=1) w1.good (by rw [ZCq];exact Zi7) (by simp)
 simp only [jC,List.map_nil] at hC;have n1:=w1.n;have n2:=w1.nl
 have hI2:MkInv (wrV (edV r.nodes ro a m y.text) r).1 ros ss n 3300:=⟨w1.ok,w1.good,hI.rts.ext hI.good w1.ext,hrs,hI.n20,hI.small,by have:=hI.nl;omega⟩
 have hEq:m=0->y.text=[]->∀ st,S T3 Jd [Qo (wrV (edV r.nodes ro a m y.text) r).2.1 (wrV (edV r.nodes ro a m y.text) r).2.2 (slH (YM r.nodes [ro] (edV r.nodes ro a m y.text))),.agg [.int .u64 ro.at_,.int .i64 ro.h,.int .i64 ro.m.b,.int .i64 ro.m.r,.int .i64 ro.m.l,.nils,.nils]] st=some (.bool true,st):=by
  intro e1 e2 st;rw [e1,e2] at hSh ⊢;rw [Zmo hRt r] at hSh ⊢;rw [Zoo hSh];exact up3 (Zh4 ro st)
 have htl:=fun e=>Zoq hA (Y:=Y) (r2:=(wrV (edV r.nodes ro a m y.text) r).1) (c:=c) (n:=n) (ros:=ros) (ss:=ss) (G0:=G0) (G1:=G1) hI2 (z:=z) (j:=j) (by omega) (by omega) hro hro' hs hs' (ro2:=(wrV (edV r.nodes ro a m y.text) r).2.1) (fr:=(wrV (edV r.nodes ro a m y.text) r).2.2) (dd:=YM r.nodes [ro] (edV r.nodes ro a m y.text)) (v7:=.nils) e
 have m0:=f0 (wrV (edV r.nodes ro a m y.text) r).1;have m6:=f6 (wrV (edV r.nodes ro a m y.text) r).1;clear hSh w1 w2 v1 v2 v3 hroom ep hI2 f0 f6
 generalize YM r.nodes [ro] (edV r.nodes ro a m y.text)=dd at *
 generalize (wrV (edV r.nodes ro a m y.text) r).2.1=ro2 at *
 generalize (wrV (edV r.nodes ro a m y.text) r).2.2=fr at *
 generalize (wrV (edV r.nodes ro a m y.text) r).1=r2 at *
 generalize lmL Y A.length r n ros G0 c ss G1=X at *
 generalize lmL Y A.length r2 n ros G0 c ss G1=X2 at *
 generalize Yn r=hv at *
 have hp7:Qj (Qo ro2 fr (slH dd)) true 0 7=some (Qo ro2 fr (slH dd)):=rfl
 repeat' (first|refine ZO rfl k0 rfl rfl ?_|refine Xg rfl rfl (by omega) f7 ?_|refine ZO rfl f7 g7 rfl ?_|refine ZE ?_|refine ZD ?_|refine ZF rfl ?_|refine ZU rfl rfl ?_|refine ZO rfl rfl rfl rfl ?_|refine QE rfl ?_|refine Zn rfl rfl rfl rfl ?_|refine Zq rfl rfl ?_|refine ZB rfl ?_|refine ZC ?_|refine Jc rfl ?_|refine Qd rfl ?_|(refine Qe rfl rfl (fun _=>?_) (fun _=>?_)<;>try (exfalso;omega))|(refine Zp rfl rfl (fun _=>?_) (fun _=>?_)<;>try (exfalso;omega))|refine ZG rfl ?_|refine QZ rfl rfl ?_|refine YE rfl rfl (by omega) ?_|refine Ze rfl rfl rfl ?_|refine ZA rfl rfl rfl (hBy _) ?_|refine ZA rfl rfl rfl (hMk) ?_|refine ZA rfl rfl rfl (hPk _) ?_|refine ZA rfl rfl rfl (hPo _) ?_|refine ZA rfl rfl rfl (hPa _) ?_|refine ZA rfl rfl rfl (hPm _) ?_|refine ZA rfl rfl rfl (hHd) ?_|refine ZI ?_)
 all_goals try contradiction
 all_goals try (exfalso;omega)
 refine Zd9 ?_
 change Is _ _ _ _ _ _ ⟨A,false,X++[.hole 13]⟩
 repeat' (first|exact htl _|refine Xg rfl rfl (by omega) (QQ k6) ?_|refine ZO rfl (QQ k6) g6 (XQ _) ?_|refine ZO rfl (QQ k0) rfl rfl ?_|refine ZfE rfl rfl rfl hIn ?_|refine ZYd rfl rfl ?_|refine ZgZ rfl rfl ?_|refine Xg rfl rfl (by omega) (QQ m6) ?_|refine ZO rfl (QQ m6) g6 (XQ _) ?_|refine ZO rfl (QQ m0) rfl rfl ?_|refine Zmp rfl hp7 ?_|refine ZeC rfl rfl rfl ?_|refine ZE ?_|refine ZD ?_|refine ZF rfl ?_|refine ZU rfl rfl ?_|refine QE rfl ?_|refine Jq rfl rfl ?_|refine Zn rfl rfl rfl rfl ?_|refine Zq rfl rfl ?_|refine ZB rfl ?_|refine ZC ?_|(refine Zp rfl rfl (fun _=>?_) (fun _=>?_)<;>try (exfalso;omega))|(refine Zl rfl rfl (fun _=>?_) (fun _=>?_)<;>try (exfalso;omega))|(refine YW rfl rfl (fun _=>?_) (fun _=>?_)<;>try contradiction)|refine ZG rfl ?_|refine QZ rfl rfl ?_|refine Zt rfl rfl rfl ?_|refine ZA rfl rfl rfl (hC) ?_|refine ZA rfl rfl rfl (hEq (by assumption) (by assumption) _) ?_|refine ZI ?_)
 all_goals try contradiction
 all_goals try (exfalso;omega)
end Go.Q15
namespace Go.QAbs
open Go.ChangeShapes Go.WideShapes Go.RowKit Go.Deep
variable {P:Program}
def rho0:Rho:=⟨fun _ _=>⟨0,0,0⟩,fun _=>(0,[])⟩
theorem ZkJ (lv ix:Nat):St.empty.get lv ix=none:=by
 unfold St.empty St.get
 split<;>simp [vis]
theorem Zmq {W:World} {b o:Nat} {v:Value} (h:W.cell? ⟨b,o,none⟩=some v):(cx .empty rho0 W 0).im b o v :=
 ⟨h,fun ⟨lv,ix,w,ver,es,hg,_⟩=>by rw [ZkJ] at hg;simp at hg⟩
theorem walk_in (hm:P.follows .mixedOrders=true) {T:Tab} (hT:TabOk P T) {f:FuncId} {args:List AV} (h:∃ st',S T f args .empty=some (.bool true,st')) {W:World} {xs:List Value} (hx:RL (cx .empty rho0 W 0) args xs) :
 Calls P f xs.toArray W fun e W'=>e=.returned (.bool true)/\Below W.heap.size W W':=by
 obtain ⟨st',h⟩:=h
 refine (Znk hm hT h (ZjZ W) hx).mono fun e' W' ⟨x,_,he,g,hv⟩=>?_
 subst he
 exact ⟨by rw [YU hv],g.rel.below.b⟩
theorem ZjA {W:World} {b off len cap w:Nat} (es:List AV) (g:Nat->Value) (hlen:es.length=len) (hc:len<=cap) (he:∀ (i:Nat) (e:AV),es[i]?=some e->R (cx .empty rho0 W 0).pure e (g i))
 (hg:∀ i,i<len->(g i).cells.size=w/\∀ (j:Nat) (v:Value),(g i).cells[j]?=some v->W.cell? ⟨b,off+i*w+j,none⟩=some v):R (cx .empty rho0 W 0) (.lit es) (.slice (some ⟨b,off,none⟩) len cap):=by
 subst hlen
 exact .lit (w:=w) g he (fun i hi=>⟨(hg i hi).1,fun j v hv=>Zmq ((hg i hi).2 j v hv)⟩) hc
section
variable {H:Type} {enc:TypeId × Value->H}
theorem open_strs_arg {W:World} {base:Nat} {t e:TypeId} {v:Value} {d:DataW H} {ps:List MemPlace} (ht:P.underlying t=some (.slice e)) (he:P.underlying e=some .string) (hc:P.cellsOf e=1)
 (hval:Value.okWide P W .any base t v) (h:DataW.Trod enc P W 0 (fun _=>true) true t v d ps) :
 ∃ ss:List (List UInt8),(∀ s∈ss,s.length<=maxLen)/\ss.length<=maxLen/\R (cx .empty rho0 W 0) (.lit (ss.map .str)) v:=by
 obtain ⟨a0,len,cap,rfl⟩:=okWide_slice ht hval;obtain ⟨fuel,hf⟩:=h
 rcases open_strings ht he hc hf with ⟨hcs,hx⟩|⟨a,len',cap',ss,hcs,_,hl,hm,hz,hx,hcell,hsz⟩
 ·refine ⟨[],by simp,by simp,?_⟩
  have:(Value.slice a0 len cap)=.slice none 0 0:=by simpa [Value.cells] using hcs
  rw [this];exact .lit0 _ _
 ·have hv:(Value.slice a0 len cap)=.slice (some a) len' cap':=by simpa [Value.cells] using hcs
  rw [hv];simp only [if_true] at hz
  refine ⟨(ss.take len').map (fun s=>s.data.toList),?_,?_,?_⟩
  ·intro s hs
   obtain ⟨s',hs',rfl⟩:=List.mem_map.1 hs;rw [Array.length_toList];exact hsz s' (List.mem_of_mem_take hs')
  ·rw [List.length_map,List.length_take];omega
  ·cases len' with
   | zero=>exact .lit0 _ _
   | succ n =>
    obtain ⟨b,off,spot⟩:=a
    have hspot:spot=none:=by simpa [Addr.add] using World.cell?_spot (hcell 0 (by omega))
    subst hspot
    refine ZjA (w:=1) _ (fun i=>.string (ss.getD i ByteArray.empty)) (by simp;omega) hl (fun i e he=>?_) (fun i hi=>⟨rfl,fun j v hv=>?_⟩)
    ·rw [jG,jG,List.getElem?_take] at he
     by_cases hi:i<n+1
     ·rw [if_pos hi] at he
      have hs:ss[i]?=some (ss.getD i ByteArray.empty):=by
       have:i<ss.length:=by omega
       simp [List.getD,this]
      rw [hs] at he;simp only [Option.map_some,oJ] at he;subst he;rw [ZhE (ss.getD i ByteArray.empty)];exact .str _
     ·rw [if_neg hi] at he;simp at he
    ·have hj : j = 0 := by
      have:j<(Value.string (ss.getD i ByteArray.empty)).cells.size:=(Array.getElem?_eq_some_iff.1 hv).1
      simp [Value.cells] at this;omega
     subst hj
     have hv':Value.string (ss.getD i ByteArray.empty)=v:=by simpa [Value.cells] using hv
     rw [<- hv']
     have:=hcell i (by omega)
     simpa [Addr.add_lit] using this
theorem open_ops_arg {W:World} {base:Nat} {t e t0 t1 t2 t3 t4:TypeId} {f0 f1 f2 f3 f4:Field} {v:Value} {d:DataW H} {ps:List MemPlace} (ht:P.underlying t=some (.slice e)) (he:P.underlying e=some (.struct #[f0,f1,f2,f3,f4])) (hc:P.cellsOf e=5)
 (hf0:f0.type=t0/\f0.offset=0/\P.underlying t0=some (.int .u8)/\P.cellsOf t0=1) (hf1:f1.type=t1/\f1.offset=1/\P.underlying t1=some (.int .i64)/\P.cellsOf t1=1) (hf2:f2.type=t2/\f2.offset=2/\P.underlying t2=some (.int .i64)/\P.cellsOf t2=1)
 (hf3:f3.type=t3/\f3.offset=3/\P.underlying t3=some (.int .i64)/\P.cellsOf t3=1) (hf4:f4.type=t4/\f4.offset=4/\P.underlying t4=some .string/\P.cellsOf t4=1) (hval:Value.okWide P W .any base t v) (h:DataW.Trod enc P W 0 (fun _=>true) true t v d ps) :
 ∃ l:List (Nat × Int × Int × Int × List UInt8),(∀ s∈l,s.2.2.2.2.length<=maxLen)/\l.length<=maxLen/\R (cx .empty rho0 W 0) (.lit (l.map fun q=>.agg [.int .u8 q.1,.int .i64 q.2.1,.int .i64 q.2.2.1,.int .i64 q.2.2.2.1,.str q.2.2.2.2])) v:=by
 obtain ⟨a0,len,cap,rfl⟩:=okWide_slice ht hval;obtain ⟨fuel,hf⟩:=h
 rcases open_slice ht hf with ⟨hcs,hx⟩|⟨a,len',cap',m,n,D,Pl,hcs,_,hl,hm,hmm,hx,hall⟩
 ·refine ⟨[],by simp,by simp,?_⟩
  have:(Value.slice a0 len cap)=.slice none 0 0:=by simpa [Value.cells] using hcs
  rw [this];exact .lit0 _ _
 ·have hv:(Value.slice a0 len cap)=.slice (some a) len' cap':=by simpa [Value.cells] using hcs
  rw [hv];simp only [if_true] at hmm;subst hmm;rw [hc] at hall
  have each:∀ i,i<len'->∃ q:Nat × Int × Int × Int × List UInt8,q.2.2.2.2.length<=maxLen/\W.cell? (a.add (i*5))=some (.int .u8 q.1)/\W.cell? (a.add (i*5+1))=some (.int .i64 q.2.1)/\W.cell? (a.add (i*5+2))=some (.int .i64 q.2.2.1)/\W.cell? (a.add (i*5+3))=some (.int .i64 q.2.2.2.1)/\W.cell? (a.add (i*5+4))=some (.string ⟨q.2.2.2.2.toArray⟩):=by
   intro i hi
   obtain ⟨cs',h1,h2⟩:=hall i (by omega)
   obtain ⟨_,hlen,hcell⟩:=World.cells?_some h1;obtain ⟨xs,k,_,_,_,hxl,hfs⟩:=DataW.trod_struct he h2;have g0:=hfs 0 f0 rfl;have g1:=hfs 1 f1 rfl;have g2:=hfs 2 f2 rfl;have g3:=hfs 3 f3 rfl;have g4:=hfs 4 f4 rfl
   match cs',hlen,xs,hxl with
   | [c0,c1,c2,c3,c4],_,[y0,y1,y2,y3,y4],_ =>
    simp only [hf0.1,hf0.2.1,hf0.2.2.2,hf1.1,hf1.2.1,hf1.2.2.2,hf2.1,hf2.2.1,hf2.2.2.2,hf3.1,hf3.2.1,hf3.2.2.2,hf4.1,hf4.2.1,hf4.2.2.2,List.drop,List.take,List.getElem?_cons_zero,List.getElem?_cons_succ] at g0 g1 g2 g3 g4;obtain ⟨n0,e0,_,w0⟩:=DataW.trod_int hf0.2.2.1 g0;obtain ⟨n1,e1,_,_⟩:=DataW.trod_int hf1.2.2.1 g1;obtain ⟨n2,e2,_,_⟩:=DataW.trod_int hf2.2.2.1 g2;obtain ⟨n3,e3,_,_⟩:=DataW.trod_int hf3.2.2.1 g3;obtain ⟨s,e4,_,hs⟩:=DataW.trod_string hf4.2.2.1 g4;simp only [List.cons.injEq,and_true] at e0 e1 e2 e3 e4;subst e0;subst e1;subst e2;subst e3;subst e4
    have hn0:0<=n0:=by
     simp only [Lit.wf,Bool.and_eq_true,decide_eq_true_eq] at w0;exact w0.1
    refine ⟨(n0.toNat,n1,n2,n3,s.data.toList),by simp only [Array.length_toList];exact hs,?_,?_,?_,?_,?_⟩
    ·have:=hcell 0 (by omega)
     simp only [add_add,Nat.add_zero,List.getElem?_cons_zero] at this;rw [this];simp only [Int.toNat_of_nonneg hn0]
    ·have:=hcell 1 (by omega)
     simpa only [add_add,List.getElem?_cons_succ,List.getElem?_cons_zero] using this
    ·have:=hcell 2 (by omega)
     simpa only [add_add,List.getElem?_cons_succ,List.getElem?_cons_zero] using this
    ·have:=hcell 3 (by omega)
     simpa only [add_add,List.getElem?_cons_succ,List.getElem?_cons_zero] using this
    ·have:=hcell 4 (by omega)
     simp only [add_add,List.getElem?_cons_succ,List.getElem?_cons_zero] at this;rw [this,ZhE s]
  obtain ⟨q,hq⟩:=choose_lt each
  refine ⟨(List.range len').map q,?_,by simp;omega,?_⟩
  ·intro s hs
   obtain ⟨i,hi,rfl⟩:=List.mem_map.1 hs;exact (hq i (List.mem_range.1 hi)).1
  ·cases len' with
   | zero=>exact .lit0 _ _
   | succ len' =>
    obtain ⟨b,off,spot⟩:=a
    have hspot:spot=none:=by simpa [Addr.add] using World.cell?_spot (hq 0 (by omega)).2.1
    subst hspot
    refine ZjA (w:=5) _ (fun i=>.agg #[.int .u8 (q i).1,.int .i64 (q i).2.1,.int .i64 (q i).2.2.1,.int .i64 (q i).2.2.2.1,.string ⟨(q i).2.2.2.2.toArray⟩]) (by simp) hl (fun i e he=>?_) (fun i hi=>⟨by simp [Value.cells],fun j v hv=>?_⟩)
    ·rw [jG,jG] at he
     by_cases hi:i<len'+1
     ·rw [List.getElem?_range hi] at he
      simp only [Option.map_some,oJ] at he;subst he;have hr:=RL.cons (C:=(cx .empty rho0 W 0).pure) (.int .u8 ((q i).1:Int)) (.cons (.int .i64 (q i).2.1) (.cons (.int .i64 (q i).2.2.1) (.cons (.int .i64 (q i).2.2.2.1) (.cons (.str (q i).2.2.2.2) (.nil _)))));exact .agg (xs:=[_,_,_,_,_]) hr.1 hr.2
     ·have:(List.range (len'+1))[i]?=none:=by simp;omega
      rw [this] at he;simp at he
    ·obtain ⟨_,k0,k1,k2,k3,k4⟩:=hq i hi
     have hj:j<5:=by
      have:=(Array.getElem?_eq_some_iff.1 hv).1
      simpa [Value.cells] using this
     simp only [Addr.add_lit] at k0 k1 k2 k3 k4
     match j,hj with
     | 0,_ =>
      have:v=.int .u8 (q i).1:=by simpa [Value.cells] using hv.symm
      subst this;simpa using k0
     | 1,_ =>
      have:v=.int .i64 (q i).2.1:=by simpa [Value.cells] using hv.symm
      subst this;simpa [Nat.add_assoc] using k1
     | 2,_ =>
      have:v=.int .i64 (q i).2.2.1:=by simpa [Value.cells] using hv.symm
      subst this;simpa [Nat.add_assoc] using k2
     | 3,_ =>
      have:v=.int .i64 (q i).2.2.2.1:=by simpa [Value.cells] using hv.symm
      subst this;simpa [Nat.add_assoc] using k3
     | 4,_ =>
      have:v=.string ⟨(q i).2.2.2.2.toArray⟩:=by simpa [Value.cells] using hv.symm
      subst this;simpa [Nat.add_assoc] using k4
end
end Go.QAbs
namespace Go.QAbs
open Go.ChangeShapes Go.WideShapes Go.RowKit Go.Deep
variable {P:Program}
section
variable {H:Type} {enc:TypeId × Value->H}
theorem open_span {W:World} {base:Nat} {t t0 t1 t2:TypeId} {f0 f1 f2:Field} {v:Value} {d:DataW H} {ps:List MemPlace} (ht:P.underlying t=some (.struct #[f0,f1,f2])) (hc:P.cellsOf t=3)
 (hf0:f0.type=t0/\f0.offset=0/\P.underlying t0=some (.int .i64)/\P.cellsOf t0=1) (hf1:f1.type=t1/\f1.offset=1/\P.underlying t1=some (.int .i64)/\P.cellsOf t1=1) (hf2:f2.type=t2/\f2.offset=2/\P.underlying t2=some .string/\P.cellsOf t2=1)
 (hval:Value.okWide P W .any base t v) (h:DataW.Trod enc P W 0 (fun _=>true) true t v d ps) :
 ∃ q:Int × Int × List UInt8,q.2.2.length<=maxLen/\R (cx .empty rho0 W 0) (.agg [.int .i64 q.1,.int .i64 q.2.1,.str q.2.2]) v:=by
 obtain ⟨cs,rfl,hsz⟩:=okWide_struct ht hval;obtain ⟨fuel,hf⟩:=h;obtain ⟨xs,k,_,_,_,hxl,hfs⟩:=DataW.trod_struct ht hf;have g0:=hfs 0 f0 rfl;have g1:=hfs 1 f1 rfl;have g2:=hfs 2 f2 rfl;rw [hc] at hsz;obtain ⟨cs⟩:=cs
 match cs,hsz,xs,hxl with
 | [c0,c1,c2],_,[y0,y1,y2],_ =>
  simp only [Value.cells,hf0.1,hf0.2.1,hf0.2.2.2,hf1.1,hf1.2.1,hf1.2.2.2,hf2.1,hf2.2.1,hf2.2.2.2,List.drop,List.take,List.getElem?_cons_zero,List.getElem?_cons_succ] at g0 g1 g2;obtain ⟨n0,e0,_,_⟩:=DataW.trod_int hf0.2.2.1 g0;obtain ⟨n1,e1,_,_⟩:=DataW.trod_int hf1.2.2.1 g1;obtain ⟨s,e2,_,hs⟩:=DataW.trod_string hf2.2.2.1 g2;simp only [List.cons.injEq,and_true] at e0 e1 e2;subst e0;subst e1;subst e2
  refine ⟨(n0,n1,s.data.toList),by simp only [Array.length_toList];exact hs,?_⟩
  rw [ZhE s];have hr:=RL.cons (C:=cx .empty rho0 W 0) (.int .i64 n0) (.cons (.int .i64 n1) (.cons (.str s.data.toList) (.nil _)));exact .agg (xs:=[_,_,_]) hr.1 hr.2
end
end Go.QAbs
namespace Go.Q15
open Go Go.QAbs
set_option maxRecDepth 100000
open Go.Shelf in
def Zmr:Ren:=⟨fun|41=>107|n=>n,fun|22=>105|23=>111|n=>n,fun n=>n⟩
theorem Zms:Go.Proofs.SlLaysE0.n41 Proofs.Tryz.prog Zmr:={
 mixed:=by kernel_rfl
 f41 := ⟨"slices.Clone[[]quarto/api.Kid,quarto/api.Kid]", by decide, Proofs.Tryz.func107.trans (congrArg some (by kernel_rfl))⟩
 t4:=Proofs.Tryz.underlying4
 a4:=Proofs.Tryz.isAgg4
 z4:=Proofs.Tryz.sizeOf4
 v4:=Proofs.Tryz.zeroValue4
 t22:=Proofs.Tryz.underlying105
 a22:=Proofs.Tryz.isAgg105
 z22:=Proofs.Tryz.sizeOf105
 v22:=Proofs.Tryz.zeroValue105 }
theorem Zmt:∃ i z,Proofs.Tryz.prog.info? 111=some i/\i.zero=some z/\i.size=4/\i.bytes=32/\z.cells.size=4:=⟨_,_,rfl,rfl,rfl,rfl,rfl⟩
theorem Zh5:ZbY Proofs.Tryz.prog QA (.base (ZKM 4)):=by
 obtain ⟨i,z,h1,h2,h3,h4,h5⟩:=Zmt
 refine ZlJ (T:=111) (fun n c W=>Go.Proofs.AnyE.slices_Clone_nil Zms n c W) fun ad n c news W hl hn hc ho=>?_
 exact Zjc Zms i z 4 32 h1 h2 h3 h4 h5 (by decide) Proofs.Tryz.sizeOf111 ad n c news W hl (by unfold maxLen;omega) (by omega) hc ho
theorem Zh6:Proofs.Tryz.prog.follows .mixedOrders=true:=by kernel_rfl
theorem Zmu:ZVA Proofs.Tryz.prog tl:=⟨⟨Proofs.Tryz.call107,Zh5⟩,Znz⟩
theorem ZqO:TabOk Proofs.Tryz.prog Tb:=ZVB Zmu
theorem Zmv:ZVA Proofs.Tryz.prog t1:=⟨⟨Proofs.Tryz.call143,ZlI Zh6 ZqO Proofs.Tryz.func143 Zdh⟩,Zmu⟩
theorem Zo5:TabOk Proofs.Tryz.prog T1:=ZVB Zmv
theorem Zpz:ZVA Proofs.Tryz.prog t3:=⟨⟨Proofs.Tryz.call140,ZlI Zh6 Zo5 Proofs.Tryz.func140 Zam⟩,⟨Proofs.Tryz.call90,ZlI Zh6 Zo5 Proofs.Tryz.func90 Zc9⟩,Zmv⟩
theorem T3_ok:TabOk Proofs.Tryz.prog T3:=ZVB Zpz
def mkEd (q:Nat × Int × Int × Int × List UInt8):Ed:=⟨q.1,q.2.1,q.2.2.1,q.2.2.2.1,q.2.2.2.2⟩
theorem editShares_run (ss:List (List UInt8)) (l:List (Nat × Int × Int × Int × List UInt8)) (y:Int × Int × List UInt8) (which other:Int) (h1:∀ s∈ss,s.length<=maxLen) (h2:ss.length<=maxLen) (h3:∀ s∈l,s.2.2.2.2.length<=maxLen) (h4:l.length<=maxLen) (h5:y.2.2.length<=maxLen) (_h6:(Lit.int .i64 which).wf=true) (_h7:(Lit.int .i64 other).wf=true) :
 ∃ st',S T3 JV [.lit (ss.map .str),.lit (l.map fun q=>.agg [.int .u8 q.1,.int .i64 q.2.1,.int .i64 q.2.2.1,.int .i64 q.2.2.2.1,.str q.2.2.2.2]),.agg [.int .i64 y.1,.int .i64 y.2.1,.str y.2.2],.int .i64 which,.int .i64 other] .empty=some (.bool true,st'):=by
 have hm:maxLen<9223372036854775808:=by decide +kernel
 have:=ZeP ss (l.map mkEd) ⟨y.1,y.2.1,y.2.2⟩ which other (by omega) (fun s hs=>by have:=h1 s hs;omega) (by rw [List.length_map];omega) (fun s hs=>by obtain ⟨q,hq,rfl⟩:=List.mem_map.1 hs;have:=h3 q hq;simp only [mkEd];omega) (by show y.2.2.length<_;omega) .empty
 rw [List.map_map] at this;exact ⟨_,this⟩
end Go.Q15
