/- A part of the proof: SSb, SSc, SSd, SSe, SSf, SSg, SSh, SSi, SSj, SSk, STa, STb, STd, PPb, TYp. No condition. -/
import Derived.Carry
import Derived.Test.YtnimnbffpkgadaaPpT7
set_option linter.unusedVariables false
set_option linter.unusedSimpArgs false
namespace Go.Q15
open Go Go.QAbs
set_option maxRecDepth 100000
set_option maxHeartbeats 8000000
theorem ZdF:∀ l:List Tr,(∀ t∈l,4*(t.siz:Int)+4≤t.bytes)→4*(Tr.sizL l:Int)+4*l.length≤Tr.bytesL l
 | [],_=>by simp [Tr.sizL,Tr.bytesL]
 | t::l,h=>by
  have h1:=h t (by simp)
  have h2:=ZdF l fun u hu=>h u (by simp [hu])
  simp only [Tr.sizL,Tr.bytesL,List.length_cons]
  omega
theorem Zh9 {N:ZJ} (hN:GoodN N) {t:Tr} (hv:Val N t):(t.siz:Int)≤t.bytes+1∧(Big t→4*(t.siz:Int)+4≤t.bytes):=by
 have hsz:=hv.size hN
 have hps:=hv.pos.2
 induction hv with
 | @kept o h m k x h0 hx hok hh hm hk =>
  have ec:(Tr.mk o h m [] k).siz=1:=by rw [Tr.siz,Tr.sizO_getD,hk];rfl
  have hl:h≤16:=by
   rcases hok with q|⟨n,ks,q⟩
   ·rw [← hh,q.h];omega
   ·have:=q.n15;have e:=q.eq;subst e;simp only at hh;omega
  rw [ec]
  refine ⟨by omega,fun q=>?_⟩
  have h1:=hsz q
  have h2:=(ZBZ hl).1
  simp only [Tr.h] at h1
  omega
 | @leaf s k h1 h2 hk =>
  have ec:(Tr.mk 0 0 .zero s k).siz=1:=by rw [Tr.siz,Tr.sizO_getD,hk];rfl
  rw [ec]
  refine ⟨by omega,fun q=>?_⟩
  have:=q rfl
  omega
 | @inner h l hh h2 h4 hl hb hv ih =>
  have ec:(Tr.mk 0 (h+1) .zero [] (some l)).siz=Tr.sizL l+1:=by rw [Tr.siz,Tr.sizO];omega
  have eb:(Tr.mk 0 (h+1) .zero [] (some l)).bytes=Tr.bytesL l:=by rw [Tr.bytes,Tr.bytesO];simp [Mea.zero]
  have:=ZdF l fun u hu=>(ih u hu ((hv u hu).size hN) (hv u hu).pos.2).2 (fun q=>hb u hu (by rw [← hl u hu];exact q))
  rw [ec,eb]
  exact ⟨by omega,fun _=>by omega⟩
theorem ZiA {N:ZJ} {t:Tr} (hv:Val N t):∀ out:List Nat,(∀ h∈out,∃ x,lk N h=some x)→∀ h∈t.kwT out,∃ x,lk N h=some x:=by
 induction hv with
 | @kept o h m k x h0 hx hok hh hm hk =>
  intro out ho a ha
  rw [Tr.kwT,Tr.kwO_getD,hk,Tr.kwL] at ha
  split at ha
  ·rcases List.mem_append.1 ha with q|q
   ·exact ho a q
   ·rw [List.mem_singleton.1 q];exact ⟨x,hx⟩
  ·exact ho a ha
 | @leaf s k h1 h2 hk =>
  intro out ho a ha
  rw [Tr.kwT,Tr.kwO_getD,hk,Tr.kwL,if_neg (by simp)] at ha
  exact ho a ha
 | @inner h l hh h2 h4 hl hb hv ih =>
  intro out ho a ha
  rw [Tr.kwT,Tr.kwO,if_neg (by simp)] at ha
  have key:∀ (l:List Tr) (out:List Nat),(∀ t∈l,∀ out:List Nat,(∀ h∈out,∃ x,lk N h=some x)→∀ h∈t.kwT out,∃ x,lk N h=some x)→(∀ h∈out,∃ x,lk N h=some x)→∀ a∈Tr.kwL l out,∃ x,lk N a=some x:=by
   intro l
   induction l with
   | nil=>intro out _ ho a ha;exact ho a ha
   | cons t l ihl =>
    intro out hi ho a ha
    rw [Tr.kwL] at ha
    exact ihl (t.kwT out) (fun u hu=>hi u (List.mem_cons_of_mem _ hu)) (hi t (by simp) out ho) a ha
  exact key l out ih ho a ha
theorem Zky (h:Nat) (st:St):S Tb J9 [.int .u64 h] st=some (.tup [],st):=by
 refine Z5 rfl (fun A hA=>?_)
 repeat' (first|refine ZI ?_|refine ZP ?_)
 refine Zd hA (by first|exact .inl rfl|exact .inr rfl) rfl rfl rfl rfl ?_
 rfl
def dr1 (A:List (Bool × List Blk)) (b4 b5 b8:Blk) (u:List Nat):St:=⟨A,false,[b4,b5,b8,.map (YQ u),.arr 1 0 [.map A.length 3]]⟩
def dr2 (A:List (Bool × List Blk)) (b4 b5 b8:Blk) (has u o:List Nat):St:=⟨A,false,[b4,b5,b8,.map (YQ has),.arr 1 0 [.map A.length 3],.arr 1 o.length (o.map JH),.arr 1 0 [.ref A.length 5 o.length 0 o.length],.map (YQ u)]⟩
theorem Zkc (A:List (Bool × List Blk)) (b4 b5 b8:Blk):Visit (fun u _=>dr1 A b4 b5 b8 u) A.length 3 J9 [] where
 len _ _ _ _:=by simp [dr1]
 wr _ _:=by simp [St.wr,dr1]
 get _ _:=St.get_cur ..
 upd _ _ _:=by simp [St.upd,dr1]
 call u w h more L _:=⟨_,Zky h _⟩
 wk _:=rfl
 wk2 _ _ _:=rfl
theorem Zkd (A:List (Bool × List Blk)) (b4 b5 b8:Blk) (has u o:List Nat):Cl (dr2 A b4 b5 b8 has u o) [(A.length,5),(A.length,6)] [.arr 1 o.length (o.map JH),.arr 1 0 [.ref A.length 5 o.length 0 o.length]]:=by
 refine ⟨by simp,rfl,fun k hk=>?_,fun j lv ix b h1 h2=>?_⟩
 ·simp only [List.mem_cons,List.not_mem_nil,or_false] at hk
  rcases hk with rfl|rfl<;>simp [St.wr,dr2]
 ·match j,h1,h2 with
  | 0,h1,h2=>obtain ⟨rfl,rfl⟩:=Prod.mk.inj (Option.some.inj h1);obtain rfl:=Option.some.inj h2;exact St.get_cur ..
  | 1,h1,h2=>obtain ⟨rfl,rfl⟩:=Prod.mk.inj (Option.some.inj h1);obtain rfl:=Option.some.inj h2;exact St.get_cur ..
  | n+2,h1,h2=>simp at h1
theorem Zju (A:List (Bool × List Blk)) (b4 b5 b8:Blk) (has u o o':List Nat):Y8 (dr2 A b4 b5 b8 has u o) [(A.length,5),(A.length,6)] [.arr 1 o'.length (o'.map JH),.arr 1 0 [.ref A.length 5 o'.length 0 o'.length]]=dr2 A b4 b5 b8 has u o':=by
 simp [Y8,St.upd,dr2]
theorem Zkz (A:List (Bool × List Blk)) (b4 b5 b8:Blk) (has u o:List Nat) (h:Nat) (more:List (Bool × List Blk)) (L:List Blk) (hl:o.length<1000000000) :
 S Tb YA [.int .u64 h,.ptr A.length 4 0 0 0,.ptr A.length 6 0 0 0] ⟨(dr2 A b4 b5 b8 has u o).ps++more,false,L⟩=some (.tup [],⟨(dr2 A b4 b5 b8 has u (if h∈has then o else o++[h])).ps++more,false,L⟩):=by
 have H:=(Zkd A b4 b5 b8 has u o).more more false L
 have hm4:St.get ⟨(dr2 A b4 b5 b8 has u o).ps++more,false,L⟩ A.length 4=some (.arr 1 0 [.map A.length 3]):=ZBe (s:=dr2 A b4 b5 b8 has u o) (St.get_cur ..) more false L
 have hm3:St.get ⟨(dr2 A b4 b5 b8 has u o).ps++more,false,L⟩ A.length 3=some (.map (YQ has)):=ZBe (s:=dr2 A b4 b5 b8 has u o) (St.get_cur ..) more false L
 by_cases hm:h∈has
 ·rw [if_pos hm]
  refine Z5 rfl (fun A1 hA=>?_)
  have g4:=fun L'=>ZW hA (ro:=false) (L:=L') hm4
  have hlk:=fun L'=>ZOk (ZW hA (ro:=false) (L:=L') hm3) h
  simp only [decide_eq_true hm] at hlk
  repeat' (first|refine ZE ?_|refine ZC ?_|refine ZF rfl ?_|refine ZB rfl ?_|refine ZA ?_|refine ZG rfl ?_|refine Jy rfl rfl ?_|refine QG rfl (g4 _) rfl rfl ?_|refine ZDW rfl rfl (hlk _) ?_|refine ZI ?_|refine ZP ?_)
  all_goals try contradiction
  refine Zd hA (by first|exact .inl rfl|exact .inr rfl) rfl rfl rfl rfl ?_
  rfl
 ·rw [if_neg hm]
  have e:Y8 ⟨(dr2 A b4 b5 b8 has u o).ps++more,false,L⟩ [(A.length,5),(A.length,6)] [.arr 1 (o++[h]).length ((o++[h]).map JH),.arr 1 0 [.ref A.length 5 (o++[h]).length 0 (o++[h]).length]]=⟨(dr2 A b4 b5 b8 has u (o++[h])).ps++more,false,L⟩:=by
   rw [ZZc (fun k hk=>by simp only [List.mem_cons,List.not_mem_nil,or_false] at hk;rcases hk with rfl|rfl<;>exact Nat.le_refl _),Zju]
  rw [← e]
  refine ZWW rfl (fun A1 hA=>?_)
  have hA':A1=(Y8 ⟨(dr2 A b4 b5 b8 has u o).ps++more,false,L⟩ [(A.length,5),(A.length,6)] [.arr 1 o.length (o.map JH),.arr 1 0 [.ref A.length 5 o.length 0 o.length]]).ps:=by rw [H.same];exact hA
  have g4:=fun L'=>ZW hA (ro:=false) (L:=L') hm4
  have hlk:=fun L'=>ZOk (ZW hA (ro:=false) (L:=L') hm3) h
  simp only [decide_eq_false hm] at hlk
  have g6:=fun L'=>H.old hA' rfl rfl (ro:=false) (L:=L') (j:=1) rfl rfl
  repeat' (first|refine ZE ?_|refine ZC ?_|refine ZF rfl ?_|refine ZB rfl ?_|refine ZA ?_|refine ZU rfl ?_|refine Jy rfl rfl ?_|refine QL rfl rfl rfl rfl ?_|refine QG rfl (g4 _) rfl rfl ?_|refine ZDW rfl rfl (hlk _) ?_|refine QG rfl (g6 _) rfl rfl ?_)
  all_goals try contradiction
  refine ZjB (es:=o.map JH) (ys:=[.int .u64 h]) H hA' rfl rfl (j:=0) rfl rfl (by rw [List.length_map];rfl) rfl rfl rfl rfl (by rw [List.length_map,List.length_singleton];omega) (by decide) (fun A2 hA2 _=>?_)
  skip
  refine ZkO H hA2 rfl rfl (j:=1) rfl rfl rfl rfl rfl (Qz _ (Nat.lt_succ_self _)) rfl (fun A3 hA3 _=>?_)
  repeat' (first|refine ZB rfl ?_|refine ZP ?_)
  have e3:((([Blk.arr 1 o.length (o.map JH),Blk.arr 1 0 [.ref A.length 5 o.length 0 o.length]].set 0 (.arr 1 (o.length+1) (o.map JH++[.int .u64 h]))).set 1 (.arr 1 0 ([AV.ref A.length 5 o.length 0 o.length].set 0 (.ref A.length 5 (o.length+1) 0 ((o.map JH).length+[AV.int .u64 (h:Int)].length))))))=[.arr 1 (o++[h]).length ((o++[h]).map JH),.arr 1 0 [.ref A.length 5 (o++[h]).length 0 (o++[h]).length]]:=by
   simp [JH]
  replace hA3:A3=(Y8 ⟨(dr2 A b4 b5 b8 has u o).ps++more,false,L⟩ [(A.length,5),(A.length,6)] [.arr 1 (o++[h]).length ((o++[h]).map JH),.arr 1 0 [.ref A.length 5 (o++[h]).length 0 (o++[h]).length]]).ps:=by rw [← e3];exact hA3
  refine Zd hA3 (.inl rfl) rfl rfl rfl rfl ?_
  rfl
theorem Zke (A:List (Bool × List Blk)) (b4 b5 b8:Blk) (has:List Nat):Visit (fun u w=>dr2 A b4 b5 b8 has u (w.filter fun h=>decide (h∉has))) A.length 7 YA [.ptr A.length 4 0 0 0,.ptr A.length 6 0 0 0] where
 len _ _ _ _:=by simp [dr2]
 wr _ _:=by simp [St.wr,dr2]
 get _ _:=St.get_cur ..
 upd _ _ _:=by simp [St.upd,dr2]
 call u w h more L hl:=by
  refine ⟨.tup [],(Zkz A b4 b5 b8 has u (w.filter fun h=>decide (h∉has)) h more L (Nat.lt_of_le_of_lt (List.length_filter_le ..) hl)).trans ?_⟩
  rw [List.filter_append]
  by_cases hm:h∈has
  ·rw [if_pos hm,show ([h].filter fun h=>decide (h∉has))=[] by simp [hm],List.append_nil]
  ·rw [if_neg hm,show ([h].filter fun h=>decide (h∉has))=[h] by simp [hm]]
 wk _:=rfl
 wk2 _ _ _:=rfl
end Go.Q15
namespace Go.Q15
open Go Go.QAbs
set_option maxRecDepth 100000
set_option maxHeartbeats 8000000
def ZQc (N:ZJ) (l:List Nat):List Nat:=l.foldl (fun s h=>bel N (ZbX N h).h h s) []
def ZiB (N:ZJ) (r:Ro) (t:Tr):List Nat:=if r.at_=0 then [] else (bel N r.h r.at_ []).filter fun h=>decide (h∉ZQc N (t.kwT []))
theorem Zkf {N:ZJ} (hN:GoodN N) {h:Nat} {x:Nd} (h0:h≠0) (hx:lk N h=some x):x.h≤13 :=
 RtOk.h13 hN (r:=⟨h,x.h,x.mea⟩) (.inr ⟨h0,x,hx,(hN h x hx).1,rfl,rfl⟩)
def Lv (N:ZJ) (l:List Nat):Prop:=l.Nodup∧∀ o∈l,∃ x,lk N o=some x
theorem Lv.snoc {N:ZJ} {l:List Nat} (h:Lv N l) {o:Nat} (ho:∃ x,lk N o=some x) (hn:o∉l):Lv N (l++[o]):=by
 refine ⟨?_,fun a ha=>?_⟩
 ·rw [List.nodup_append]
  refine ⟨h.1,by simp,fun x hx y hy=>?_⟩
  rw [List.mem_singleton] at hy
  intro e;rw [e,hy] at hx;exact hn hx
 ·rcases List.mem_append.1 ha with q|q
  ·exact h.2 a q
  ·rw [List.mem_singleton.1 q];exact ho
theorem Zkg {N:ZJ} (hN:GoodN N):∀ (n h:Nat) (s:List Nat) (x:Nd),lk N h=some x→x.h=n→Lv N s→Lv N (bel N n h s):=by
 intro n
 induction n with
 | zero =>
  intro h s x hx hh hs
  rw [bel]
  split
  ·exact hs
  ·rename_i q;exact hs.snoc ⟨x,hx⟩ q
 | succ n ih =>
  intro h s x hx hh hs
  rw [bel,ZDp hx]
  split
  ·exact hs
  ·rename_i q
   have key:∀ (ks:List Kid) (s:List Nat),(∀ k∈ks,∃ y,lk N k.at_=some y∧y.h=n)→Lv N s→Lv N (ks.foldl (fun s k=>bel N n k.at_ s) s):=by
    intro ks
    induction ks with
    | nil=>intro s _ h;exact h
    | cons k l ihl =>
     intro s hk h
     obtain ⟨y,y1,y2⟩:=hk k (by simp)
     exact ihl _ (fun z hz=>hk z (List.mem_cons_of_mem _ hz)) (ih k.at_ s y y1 y2 h)
   exact key x.ks _ (fun k hk=>by obtain ⟨_,y,y1,y2,_⟩:=(hN h x hx).2 k hk;exact ⟨y,y1,by omega⟩) (hs.snoc ⟨x,hx⟩ q)
theorem Zjv {N:ZJ} (hN:GoodN N) {l:List Nat} (hl:∀ h∈l,∃ x,lk N h=some x):Lv N (ZQc N l):=by
 have key:∀ (l s:List Nat),(∀ h∈l,∃ x,lk N h=some x)→Lv N s→Lv N (l.foldl (fun s h=>bel N (ZbX N h).h h s) s):=by
  intro l
  induction l with
  | nil=>intro s _ h;exact h
  | cons a l ih =>
   intro s hl h
   obtain ⟨x,hx⟩:=hl a (by simp)
   refine ih _ (fun z hz=>hl z (List.mem_cons_of_mem _ hz)) ?_
   show Lv N (bel N (ZbX N a).h a s)
   rw [ZDp hx]
   exact Zkg hN _ a s x hx rfl h
 exact key l [] hl ⟨by simp,by simp⟩
theorem ZiC {N:ZJ} (hN:∀ o x,lk N o=some x→o≠0) {t:Tr} (hv:VE N t):∀ h∈t.kwT [],h≠0∧∃ x,lk N h=some x:=by
 intro h hh
 rcases hv with q|q
 ·obtain ⟨o,th,m,s,k⟩:=t
  have e1:=q.old
  have e2:=q.ks
  simp only [Tr.old,Tr.ks] at e1 e2
  rw [Tr.kwT,Tr.kwO_getD,e2,Tr.kwL,e1] at hh
  simp at hh
 ·obtain ⟨x,hx⟩:=ZiA q [] (by simp) h hh
  exact ⟨hN h x hx,x,hx⟩
theorem Zba {N:ZJ} (hN:GoodN N) {t:Tr} (hv:VE N t) (hb:t.bytes≤65536):t.siz<4294967296:=by
 rcases hv with q|q
 ·obtain ⟨o,th,m,s,k⟩:=t
  have e2:=q.ks
  simp only [Tr.ks] at e2
  rw [Tr.siz,Tr.sizO_getD,e2,Tr.sizL];omega
 ·have:=(Zh9 hN q).1;omega
theorem ZgS {st:St} {la b:Nat} {N:ZJ} (hN:GoodN N) (hK:∀ l,Lv N l→l.length≤16384) (hz:∀ o x,lk N o=some x→o≠0) (hR:Rd st la (b+5) N) {r:Ro} (hr:RtOk N r) {t:Tr} (hv:VE N t) (hb:t.bytes≤65536) :
 S Tb ZBt [.ptr la (b+5) 0 0 0,r.av,t.av] st=some (.tup [.lit ((ZiB N r t).map JH),.int .i64 0],st):=by
 refine Z5 rfl (fun A hA=>?_)
 have hRA:=fun L=>hR.push hA (ro:=false) (L:=L)
 have hKp:=fun L=>ZfL (hRA L) hr
 have hCk:=fun L=>ZWS (hRA L) hv hb
 have hKt:=fun st=>Zh0 hv.pos.1 (Zba hN hv hb) st
 have hkw:=ZiC hz hv
 have hkl:=Tr.kwT_len t []
 have hsz:=Zba hN hv hb
 unfold ZiB
 generalize t.kwT []=kl at *
 simp only [List.length_nil] at hkl
 have hP13:∀ n,n≤13→4 ^ (n+1)≤268435456:=fun n hn=>by
  have:4 ^ (n+1)≤4 ^ 14:=Nat.pow_le_pow_right (by decide) (by omega)
  exact this
 have hB1:∀ (i h:Nat),kl[i]?=some h→S Tb JC [.ptr la (b+5) 0 0 0,.int .u64 h,.map A.length 3,.func (.func J9) [] []] (dr1 A (.arr 5 0 [r.av]) (.arr 7 0 [t.av]) (.arr 7 0 [(QK r).av]) (ZQc N (kl.take i)))=some (.int .i64 0,dr1 A (.arr 5 0 [r.av]) (.arr 7 0 [t.av]) (.arr 7 0 [(QK r).av]) (ZQc N (kl.take (i+1)))):=by
  intro i h hi
  obtain ⟨h0,x,hx⟩:=hkw h (List.mem_of_getElem? hi)
  have hlv:=Zjv hN (l:=kl.take i) (fun z hz=>(hkw z (List.mem_of_mem_take hz)).2)
  have:=hK _ hlv
  have:=hP13 _ (Zkf hN h0 hx)
  have e:ZQc N (kl.take (i+1))=bel N x.h h (ZQc N (kl.take i)):=by
   rw [Zm hi]
   unfold ZQc
   rw [List.foldl_append,List.foldl_cons,List.foldl_nil,ZDp hx]
  rw [e]
  exact ZfN (Zkc A _ _ _) hN (fun _ _=>hRA _) x.h h x _ hx rfl (by omega) (more:=[]) (List.append_nil _).symm (List.append_nil _).symm
 have hB2:r.at_≠0→S Tb JC [.ptr la (b+5) 0 0 0,.int .u64 r.at_,.map A.length 7,.func (.func YA) [] [.ptr A.length 4 0 0 0,.ptr A.length 6 0 0 0]] (dr2 A (.arr 5 0 [r.av]) (.arr 7 0 [t.av]) (.arr 7 0 [(QK r).av]) (ZQc N kl) [] [])=some (.int .i64 0,dr2 A (.arr 5 0 [r.av]) (.arr 7 0 [t.av]) (.arr 7 0 [(QK r).av]) (ZQc N kl) (bel N r.h r.at_ []) ((bel N r.h r.at_ []).filter fun h=>decide (h∉ZQc N kl))):=by
  intro h0
  obtain ⟨x,x1,x2,x3,x4⟩:∃ x,lk N r.at_=some x∧NdOk x∧x.h=r.h∧x.mea=r.m:=by
   rcases hr with rfl|w
   ·exact absurd rfl h0
   ·exact w.2
  have:=hP13 _ (hr.h13 hN)
  exact ZfN (Zke A (.arr 5 0 [r.av]) (.arr 7 0 [t.av]) (.arr 7 0 [(QK r).av]) (ZQc N kl)) hN (fun _ _=>hRA _) r.h r.at_ x [] x1 x3 (by simp only [List.length_nil];omega) (more:=[]) (List.append_nil _).symm (List.append_nil _).symm
 have hkll:kl.length<1000000000:=by
  have:kl.length≤t.siz:=by omega
  have h2:(t.siz:Int)≤65537:=by
   rcases hv with q|q
   ·obtain ⟨o,th,m,s,k⟩:=t
    have e2:=q.ks
    simp only [Tr.ks] at e2
    rw [Tr.siz,Tr.sizO_getD,e2,Tr.sizL];decide
   ·have:=(Zh9 hN q).1;omega
  omega
 unfold dr1 at hB1
 unfold dr2 at hB2
 obtain ⟨ra,rh,rm⟩:=r
 unfold Ro.av at *
 generalize QK ⟨ra,rh,rm⟩=kt at *
 repeat' (first|refine ZE ?_|refine ZC ?_|refine ZF rfl ?_|refine ZS rfl rfl rfl rfl ?_|refine QB rfl rfl ?_|refine ZB rfl ?_|refine ZA ?_|(refine Zu rfl rfl (fun _=>?_) (fun _=>?_)<;>try (exfalso;omega))|refine ZG rfl ?_|refine Ze rfl rfl rfl ?_|refine ZMy rfl ?_|refine ZD rfl rfl (by first|rfl|(simp only [List.nil_append,List.append_nil,List.cons_append,Zn,ZZ,Zb];first|done|rfl)) (hKp _) ?_|refine ZD rfl rfl (by first|rfl|(simp only [List.nil_append,List.append_nil,List.cons_append,Zn,ZZ,Zb];first|done|rfl)) (hCk _) ?_|refine ZS rfl rfl rfl (Zr _) ?_|refine Zv rfl rfl rfl (QJ _ _ _) (Qt _ _) rfl ?_|refine Z0 rfl (Z6 _) (QM _) ?_|refine ZI ?_)
 all_goals try contradiction
 refine Zv rfl rfl rfl (by simp only [Zc,QN,if_pos (Nat.lt_succ_self _)]) rfl rfl ?_
 repeat' (first|refine ZS rfl rfl rfl (Zr _) ?_|refine ZQ7 rfl ?_|refine ZE ?_|refine ZC ?_|refine ZF rfl ?_|refine ZB rfl ?_|refine ZA ?_|refine ZD rfl rfl (by first|rfl|(simp only [List.nil_append,List.append_nil,List.cons_append,Zn,ZZ,Zb];first|done|rfl)) (hKt _) ?_|refine ZL ?_)
 refine Zq (α:=Nat) (fun i=>[(0,.ptr la (b+5) 0 0 0),(4,.ptr A.length 0 0 0 0),(11,.ptr A.length 4 0 0 0),(34,.lit (kl.map JH)),(35,.int .i64 kl.length),(36,.int .i64 i)])
  (fun i=>⟨A,false,[.arr 5 0 [Ro.av ⟨ra,rh,rm⟩],.arr 7 0 [t.av],.arr 7 0 [kt.av],.map (YQ (ZQc N (kl.take i))),.arr 1 0 [.map A.length 3]]⟩) (fun i=>i≤kl.length) (fun i=>kl.length-i) 0 rfl rfl (Nat.zero_le _) ?_
 intro i hi
 replace hi:i≤kl.length:=hi
 unfold Ro.av
 rcases Nat.lt_or_ge i kl.length with hlt|hge
 ·obtain ⟨h,hh⟩:∃ x,kl[i]?=some x:=⟨kl[i]'hlt,List.getElem?_eq_getElem _⟩
  have q:0≤((i:Nat):Int)∧kl[((i:Nat):Int).toNat]?=some h:=⟨by omega,by rw [show ((i:Nat):Int).toNat=i by omega];exact hh⟩
  have hB:=hB1 i h hh
  repeat' (first|refine ZJ9 (f:=JH) rfl rfl q (fun _=>rfl) ?_|refine ZD rfl rfl rfl hB ?_|refine ZE ?_|refine ZC ?_|refine ZF rfl ?_|refine ZS rfl rfl rfl rfl ?_|refine ZB rfl ?_|refine ZA ?_|refine QQ rfl rfl ?_|(refine Zh rfl rfl (fun _=>?_) (fun _=>?_)<;>try (exfalso;omega))|(refine Zu rfl rfl (fun _=>?_) (fun _=>?_)<;>try (exfalso;omega))|refine ZU rfl ?_|refine ZG rfl ?_|refine Zi rfl rfl (by omega) ?_|refine ZI ?_|refine ZL ?_|refine Z2 ?_|refine Z4 ?_)
  all_goals try contradiction
  all_goals try (exfalso;omega)
  exact ⟨i+1,⟨rfl,rfl⟩,by omega,by omega⟩
 ·obtain rfl:i=kl.length:=by omega
  rw [List.take_length]
  by_cases h0:ra=0
  ·subst h0
   repeat' (first|refine ZWg ?_|refine ZE ?_|refine ZC ?_|refine ZF rfl ?_|refine ZO rfl rfl ?_|refine ZS rfl rfl rfl rfl ?_|refine ZB rfl ?_|refine ZA ?_|(refine Zh rfl rfl (fun _=>?_) (fun _=>?_)<;>try (exfalso;omega))|(refine Zl rfl rfl (fun _=>?_) (fun _=>?_)<;>try (exfalso;omega))|refine ZU rfl ?_|refine ZG rfl ?_|refine ZIg rfl rfl ?_|refine ZMy rfl ?_|refine ZI ?_|refine ZQ ?_|refine Zo ?_|refine ZP ?_|refine ZX ?_|refine Za ?_|refine ZY rfl ?_|refine Zj ?_)
   all_goals try contradiction
   all_goals try (exfalso;omega)
   refine Zd hA (by first|exact .inl rfl|exact .inr rfl) rfl rfl rfl rfl ?_
   rfl
  ·have hB:=hB2 h0
   have h0i:((ra:Nat):Int)≠0:=by omega
   simp only [if_neg h0]
   generalize (bel N rh ra []).filter (fun h=>decide (h∉ZQc N kl))=out at *
   repeat' (first|refine ZWg ?_|refine ZD rfl rfl rfl hB ?_|refine ZE ?_|refine ZC ?_|refine ZF rfl ?_|refine ZO rfl rfl ?_|refine ZS rfl rfl rfl rfl ?_|refine ZB rfl ?_|refine ZA ?_|(refine Zh rfl rfl (fun _=>?_) (fun _=>?_)<;>try (exfalso;omega))|(refine Zl rfl rfl (fun _=>?_) (fun _=>?_)<;>try (exfalso;omega))|(refine Zu rfl rfl (fun _=>?_) (fun _=>?_)<;>try (exfalso;omega))|refine ZG rfl ?_|refine ZIg rfl rfl ?_|refine ZMy rfl ?_|refine ZI ?_|refine ZQ ?_|refine Zo ?_|refine ZP ?_|refine Za ?_|refine ZY rfl ?_|refine Zj ?_)
   all_goals try contradiction
   all_goals try (exfalso;omega)
   exact ZUJ hA (.inr rfl) rfl rfl (by simp) (fun v hv=>by obtain ⟨x,_,rfl⟩:=List.mem_map.1 hv;rfl) rfl rfl
end Go.Q15
namespace Go.Q15
open Go Go.QAbs
set_option maxRecDepth 100000
set_option maxHeartbeats 8000000
def DrOk (M:Nat) (G:List Blk) (dv:AV) (w:List Nat):Prop:=(w=[]∧dv=.nils)∨∃ j ver,dv=.ref M (j+4) ver 0 w.length∧w≠[]∧G[j]?=some (.arr 1 ver (w.map JH))
end Go.Q15
namespace Go.Q15
open Go Go.QAbs
set_option maxRecDepth 100000
set_option maxHeartbeats 8000000
end Go.Q15
namespace Go.Q15
open Go Go.QAbs
set_option maxRecDepth 100000
set_option maxHeartbeats 16000000
theorem AROk.lv {r:AR} (h:AROk r):∀ l,Lv r.nodes l→l.length≤16384:=fun l hl=>h.few hl.1 hl.2
theorem AROk.nz {r:AR} (h:AROk r):∀ o x,lk r.nodes o=some x→o≠0:=fun o x hx=>(h.hnd hx).2
theorem DrOk.app {M:Nat} {G:List Blk} {dv:AV} {w:List Nat} (h:DrOk M G dv w) (T:List Blk):DrOk M (G++T) dv w:=by
 rcases h with h|⟨j,ver,h1,h2,h3⟩
 ·exact .inl h
 ·exact .inr ⟨j,ver,h1,h2,by rw [List.getElem?_append_left (List.getElem?_eq_some_iff.1 h3).1];exact h3⟩
end Go.Q15
namespace Go.Q15
open Go Go.QAbs
set_option maxRecDepth 100000
set_option maxHeartbeats 16000000
end Go.Q15
namespace Go.Q15
open Go Go.QAbs
set_option maxRecDepth 100000
set_option maxHeartbeats 16000000
noncomputable def edV (N:ZJ) (ro:Ro) (a n:Int) (s:List UInt8):Tr:=(JN N (QK ro) a n s).own
structure EdOk (N:ZJ) (ro:Ro) (s0:List UInt8) (a n:Int) (s:List UInt8):Prop where
 rt:Rt N ro s0
 a0:0≤a
 n0:0≤n
 le:a+n≤s0.length
 b1:s0.length≤60000
 b2:s.length≤2000
theorem EdOk.ok {N:ZJ} (hN:GoodN N) {ro:Ro} {s0:List UInt8} {a n:Int} {s:List UInt8} (h:EdOk N ro s0 a n s) :
 VE N (edV N ro a n s)∧(edV N ro a n s).bytes=s0.length-n+s.length∧(edV N ro a n s).txt N=s0.take a.toNat++s++s0.drop (a+n).toNat:=by
 obtain ⟨hk,htx⟩:=h.rt.keep
 have hb:=(h.rt.b hN).1
 have h1:=h.a0
 have h2:=h.n0
 have h3:=h.le
 have h4:=h.b1
 have h5:=h.b2
 have:=ZOb hN (s:=s) hk h1 h2 (by omega) (by omega) (by omega)
 refine ⟨Zea this.ve,?_,?_⟩
 ·show (Tr.own _).bytes=_;rw [ZQb,this.bytes,hb]
 ·show (Tr.own _).txt N=_;rw [Zjp,this.txt,htx]
end Go.Q15
namespace Go.Q15
open Go Go.QAbs
set_option maxRecDepth 100000
set_option maxHeartbeats 16000000
end Go.Q15
namespace Go.Q15
open Go Go.QAbs
set_option maxRecDepth 100000
set_option maxHeartbeats 16000000
end Go.Q15
namespace Go.Q15
open Go Go.QAbs
set_option maxRecDepth 100000
set_option maxHeartbeats 16000000
theorem ZWo (w:List Nat) (hl:w.length<9223372036854775808) (st:St):S Tb Jz [.lit (w.map JH),.lit (w.map JH)] st=some (.bool true,st):=by
 refine Z5 rfl (fun A hA=>?_)
 repeat' (first|refine ZQ7 rfl ?_|refine ZE ?_|refine ZC ?_|refine ZF rfl ?_|refine ZB rfl ?_|refine ZA ?_|(refine Zu rfl rfl (fun _=>?_) (fun _=>?_)<;>try (exfalso;omega))|refine ZG rfl ?_|refine ZI ?_|refine ZL ?_)
 all_goals try contradiction
 refine Zq (α:=Nat) (fun i=>[(0,.lit (w.map JH)),(1,.lit (w.map JH)),(5,.int .i64 i)]) (fun i=>⟨A,false,[]⟩) (fun i=>i≤w.length) (fun i=>w.length-i) 0 rfl rfl (Nat.zero_le _) ?_
 intro i hi
 replace hi:i≤w.length:=hi
 rcases Nat.lt_or_ge i w.length with hlt|hge
 ·obtain ⟨k,hk⟩:∃ k,w[i]?=some k:=⟨w[i]'hlt,List.getElem?_eq_getElem _⟩
  have q:0≤((i:Nat):Int)∧w[((i:Nat):Int).toNat]?=some k:=⟨by omega,by rw [show ((i:Nat):Int).toNat=i by omega];exact hk⟩
  repeat' (first|refine ZQ7 rfl ?_|refine ZJ9 (f:=JH) rfl rfl q (fun _=>rfl) ?_|refine ZE ?_|refine ZC ?_|refine ZF rfl ?_|refine ZB rfl ?_|refine ZA ?_|refine QQ rfl rfl ?_|(refine Zh rfl rfl (fun _=>?_) (fun _=>?_)<;>try (exfalso;omega))|(refine Zu rfl rfl (fun _=>?_) (fun _=>?_)<;>try (exfalso;omega))|refine ZU rfl ?_|refine ZG rfl ?_|refine Zi rfl rfl (by omega) ?_|refine ZI ?_|refine ZL ?_|refine Z2 ?_|refine Z4 ?_)
  all_goals try contradiction
  all_goals try (exfalso;omega)
  all_goals first|exact absurd rfl ‹_›|exact ⟨i+1,⟨rfl,rfl⟩,by omega,by omega⟩
 ·obtain rfl:i=w.length:=by omega
  repeat' (first|refine ZQ7 rfl ?_|refine ZE ?_|refine ZC ?_|refine ZF rfl ?_|refine ZB rfl ?_|refine ZA ?_|(refine Zh rfl rfl (fun _=>?_) (fun _=>?_)<;>try (exfalso;omega))|refine ZG rfl ?_|refine ZQ ?_|refine Zo ?_|refine ZP ?_|refine Za ?_|refine ZY rfl ?_|refine Zj ?_)
  all_goals try (exfalso;omega)
  refine Zd hA (by first|exact .inl rfl|exact .inr rfl) rfl rfl rfl rfl ?_
  rfl
structure Op where
 at_:Int
 num:Int
 text:List UInt8
def Op.av (y:Op):AV:=.agg [.int .i64 y.at_,.int .i64 y.num,.str y.text]
def Zk0 (l:List Op):Prop:=∃ s∈l,300<s.text.length
noncomputable instance (l:List Op):Decidable (Zk0 l):=Classical.propDecidable _
end Go.Q15
namespace Go.Q15
open Go Go.QAbs
set_option maxRecDepth 100000
set_option maxHeartbeats 1000000
def hdW (o h:Nat) (s:List UInt8) (j:Nat):Nat:=if o=0∧h=j∧¬(h=0∧s=[]) then 1 else 0
namespace Tr
mutual
def wat (j:Nat):Tr→Nat
 | .mk o h _ s k=>hdW o h s j+watO j k
def watO (j:Nat):Option (List Tr)→Nat
 | none=>0
 | some l=>watL j l
def watL (j:Nat):List Tr→Nat
 | []=>0
 | t::l=>t.wat j+watL j l
end
theorem watL_append (j:Nat):∀ a b,watL j (a++b)=watL j a+watL j b
 | [],b=>by simp [watL]
 | t::a,b=>by rw [List.cons_append,watL,watL,watL_append j a b];omega
theorem watO_getD (j:Nat) (k:Option (List Tr)):watO j k=watL j (k.getD []):=by cases k<;>rfl
end Tr
theorem ZJq (o h:Nat) (s:List UInt8) (j:Nat):hdW o h s j≤1∧(h≠j→hdW o h s j=0):=by
 unfold hdW
 split
 ·rename_i q;exact ⟨by omega,fun w=>absurd q.2.1 w⟩
 ·exact ⟨by omega,fun _=>rfl⟩
theorem ZJr {o h:Nat} {s:List UInt8} {j:Nat} (h0:o≠0):hdW o h s j=0:=by
 unfold hdW;rw [if_neg (fun q=>h0 q.1)]
theorem ZiD {o j:Nat}:hdW o 0 [] j=0:=by
 unfold hdW;rw [if_neg (fun q=>q.2.2 ⟨rfl,rfl⟩)]
theorem ZQd {t:Tr} (h:IsEmpty t) (j:Nat):t.wat j=0:=by
 obtain ⟨o,h',m,s,k⟩:=t
 obtain ⟨h1,h2,h3,h4,h5⟩:=h
 simp only [Tr.old,Tr.h,Tr.m,Tr.text,Tr.ks] at *
 subst h2 h4
 rw [Tr.wat,Tr.watO_getD,h5,ZiD];rfl
theorem ZE9 (j:Nat):Tr.zero.wat j=0:=ZQd zero_empty j
theorem ZdG (s:List UInt8) (j:Nat):(Qd s).wat j≤1:=by
 rw [Qd,Tr.wat,Tr.watO]
 have:=(ZJq 0 0 s j).1;omega
theorem ZKB {j:Nat}:∀ {l:List Tr},(∀ t∈l,t.wat j=0)→Tr.watL j l=0
 | [],_=>rfl
 | t::l,h=>by rw [Tr.watL,h t (by simp),ZKB (l:=l) (fun u hu=>h u (by simp [hu]))]
theorem ZWp {j:Nat}:∀ {l:List Tr},(∀ t∈l,t.wat j≤1)→Tr.watL j l≤l.length
 | [],_=>Nat.le_refl _
 | t::l,h=>by
  have h1:=h t (by simp)
  have h2:=ZWp (l:=l) (fun u hu=>h u (by simp [hu]))
  rw [Tr.watL,List.length_cons];omega
theorem ZiE {N:ZJ} {t:Tr} (hv:Val N t):∀ j,t.h<j→t.wat j=0:=by
 induction hv with
 | kept h0 hx hok hh hm hk=>intro j _;rw [Tr.wat,Tr.watO_getD,hk,ZJr h0];rfl
 | leaf h1 h2 hk=>intro j hj;simp only [Tr.h] at hj;rw [Tr.wat,Tr.watO_getD,hk,(ZJq _ _ _ _).2 (by omega)];rfl
 | inner hh h2 h4 hl hb hv ih =>
  intro j hj
  simp only [Tr.h] at hj
  rw [Tr.wat,Tr.watO,(ZJq _ _ _ _).2 (by omega),ZKB fun u hu=>ih u hu j (by rw [hl u hu];omega)]
theorem Zjw {N:ZJ} {t:Tr} (hv:Val N t):t.wat t.h≤1:=by
 cases hv with
 | kept h0 hx hok hh hm hk=>rw [Tr.wat,Tr.watO_getD,hk,ZJr h0];simp [Tr.watL]
 | leaf h1 h2 hk=>rw [Tr.wat,Tr.watO_getD,hk];have:=(ZJq 0 0 ‹List UInt8› 0).1;simp only [Tr.h,Option.getD_none,Tr.watL];omega
 | inner hh h2 h4 hl hb hv =>
  rename_i h l
  show Tr.wat (h+1) _≤1
  rw [Tr.wat,Tr.watO,ZKB fun u hu=>ZiE (hv u hu) (h+1) (by rw [hl u hu];omega)]
  exact (ZJq _ _ _ _).1
theorem VE.wat {N:ZJ} {t:Tr} (hv:VE N t) {j:Nat} (hj:t.h≤j):t.wat j≤1∧(t.h<j→t.wat j=0):=by
 rcases hv with h|h
 ·rw [ZQd h];exact ⟨by omega,fun _=>rfl⟩
 ·rcases Nat.lt_or_ge t.h j with q|q
  ·rw [ZiE h j q];exact ⟨by omega,fun _=>rfl⟩
  ·obtain rfl:j=t.h:=by omega
   exact ⟨Zjw h,fun w=>by omega⟩
theorem ZCu {N:ZJ} (hN:GoodN N) {t:Tr} (hv:Val N t) (hgt:1≤t.h) (j:Nat):Tr.watL j (Zx N t)≤t.wat j:=by
 cases hv with
 | kept h0 hx hok hh hm hk =>
  rename_i o h m k x
  have hg:=(hN o x hx).2
  simp only [Zx,if_neg h0,hx]
  have:Tr.watL j (x.ks.map (Y9 (x.h-1)))=0:=ZKB fun u hu=>by
   obtain ⟨kd,hkd,rfl⟩:=List.mem_map.1 hu
   rw [Y9,Tr.wat,ZJr (hg kd hkd).1];rfl
  omega
 | leaf h1 h2 hk=>simp [Tr.h] at hgt
 | inner hh h2 h4 hl hb hv =>
  rename_i h l
  show Tr.watL j l≤_
  rw [Tr.wat,Tr.watO];omega
theorem ZDq {N:ZJ} {l:List Tr} {h j:Nat} (hj:j≠h+1) (hl:∀ t∈l,t.h=h):(grp l).wat j≤Tr.watL j l:=by
 match l,hl with
 | [],_=>rw [grp,ZE9];omega
 | [t],_=>rw [grp,Tr.watL];omega
 | t::u::r,hl =>
  rw [ZDk (by simp),Tr.wat,Tr.watO]
  have he:Tr.hs (t::u::r)=h:=hl t (by simp)
  rw [he,(ZJq _ _ _ _).2 (by omega)];omega
theorem ZZe {N:ZJ} {l:List Tr} {h j:Nat} (hj:j≠h+1) (hl:∀ t∈l,t.h=h):Tr.watL j (ZCq l)≤Tr.watL j l:=by
 unfold ZCq
 split
 ·have:=ZDq (N:=N) hj hl
  rw [Tr.watL,Tr.watL];omega
 ·have h1:=ZDq (N:=N) (l:=l.take ((l.length+1) / 2)) hj (fun t ht=>hl t (List.mem_of_mem_take ht))
  have h2:=ZDq (N:=N) (l:=l.drop ((l.length+1) / 2)) hj (fun t ht=>hl t (List.mem_of_mem_drop ht))
  have h3:Tr.watL j l=Tr.watL j (l.take ((l.length+1) / 2))+Tr.watL j (l.drop ((l.length+1) / 2)):=by rw [← Tr.watL_append,List.take_append_drop]
  rw [Tr.watL,Tr.watL,Tr.watL];omega
structure MW3 (x y:Tr) (j w:Nat):Prop where
 lo:j<min x.h y.h→w≤x.wat j+y.wat j
 l:y.h≤x.h→y.h≤j→w≤x.wat j+2
 r:x.h≤y.h→x.h≤j→w≤y.wat j+2
theorem Zeb {N:ZJ} (hN:GoodN N) (j:Nat):∀ n x y,Val N x→Val N y→x.h+y.h=n→MW3 x y j (Tr.watL j (Qg N n x y))∧(max x.h y.h≤j→Tr.watL j (Qg N n x y)≤2):=by
 intro n
 induction n with
 | zero =>
  intro x y hx hy hn
  have hm:=JM hN 0 x y hx hy hn.symm
  generalize Qg N 0 x y=r at *
  have h2:Tr.watL j r≤2:=by
   have:=ZWp (j:=j) (l:=r) (fun t ht=>((show VE N t from .inr (hm.val t ht)).wat (by rw [hm.h t ht];omega)).1)
   rcases hm.len with w|w<;>omega
  exact ⟨⟨fun q=>by omega,fun _ _=>by omega,fun _ _=>by omega⟩,fun _=>h2⟩
 | succ n ih =>
  intro x y hx hy hn
  have hm:=JM hN (n+1) x y hx hy hn.symm
  have h2:max x.h y.h≤j→Tr.watL j (Qg N (n+1) x y)≤2:=by
   intro hj
   have:=ZWp (j:=j) (l:=Qg N (n+1) x y) (fun t ht=>((show VE N t from .inr (hm.val t ht)).wat (by rw [hm.h t ht];omega)).1)
   rcases hm.len with w|w<;>omega
  refine ⟨?_,h2⟩
  rcases Nat.lt_or_ge j (max x.h y.h) with hj|hj
  case inr =>
   have:=h2 hj
   exact ⟨fun q=>by omega,fun _ _=>by omega,fun _ _=>by omega⟩
  clear h2 hm
  rw [Qg]
  split
  ·rename_i he
   have w1:=ZCu hN hx (by omega) j
   have w2:=ZCu hN hy (by omega) j
   obtain ⟨c1,_⟩:=Qe hN hx (by omega)
   obtain ⟨d1,_⟩:=Qe hN hy (by omega)
   refine ⟨fun q=>?_,fun _ q=>by omega,fun _ q=>by omega⟩
   split
   ·have := ZDq (N := N) (l := Zx N x ++ Zx N y) (h := x.h - 1) (j := j) (by omega) (fun t ht => by
     rcases List.mem_append.1 ht with w|w
     ·have:=(c1 t w).2.1;omega
     ·have:=(d1 t w).2.1;omega)
    rw [Tr.watL_append] at this
    rw [Tr.watL,Tr.watL];omega
   ·rw [Tr.watL,Tr.watL,Tr.watL];omega
  ·split
   ·rename_i he hlt
    have w1:=ZCu hN hx (by omega) j
    obtain ⟨c1,c2,c3,c4⟩:=Qe hN hx (by omega)
    generalize Zx N x=l at *
    have hs:=ZGv (l:=l) (z:=Tr.zero) (by omega)
    have hum:l[l.length-1]?.getD Tr.zero∈l:=by rw [List.getElem?_eq_getElem (by omega)];simp
    generalize l[l.length-1]?.getD Tr.zero=u at *
    obtain ⟨u1,u2,u3⟩:=c1 u hum
    have hm:=JM hN n u y u1 hy (by omega)
    obtain ⟨hi,_⟩:=ih u y u1 hy (by omega)
    generalize Qg N n u y=r at *
    have hf:=ZZe (N:=N) (l:=l.take (l.length-1)++r) (h:=x.h-1) (j:=j) (by omega) (fun t ht=>by
     rcases List.mem_append.1 ht with w|w
     ·have:=(c1 t (List.mem_of_mem_take w)).2.1;omega
     ·rw [hm.h t w];omega)
    have hsum:Tr.watL j l=Tr.watL j (l.take (l.length-1))+u.wat j:=by
     conv=>lhs;rw [hs]
     rw [Tr.watL_append,Tr.watL,Tr.watL];omega
    rw [Tr.watL_append] at hf
    refine ⟨fun q=>?_,fun _ q=>?_,fun q _=>by omega⟩
    ·have:=hi.lo (by omega);omega
    ·have:=hi.l (by omega) q;omega
   ·rename_i he hlt
    have w1:=ZCu hN hy (by omega) j
    obtain ⟨c1,c2,c3,c4⟩:=Qe hN hy (by omega)
    generalize Zx N y=l at *
    have hs:=ZWP (l:=l) (z:=Tr.zero) (by omega)
    have hum:l[0]?.getD Tr.zero∈l:=by rw [List.getElem?_eq_getElem (by omega)];simp
    generalize l[0]?.getD Tr.zero=u at *
    obtain ⟨u1,u2,u3⟩:=c1 u hum
    have hm:=JM hN n x u hx u1 (by omega)
    obtain ⟨hi,_⟩:=ih x u hx u1 (by omega)
    generalize Qg N n x u=r at *
    have hf:=ZZe (N:=N) (l:=r++l.drop 1) (h:=y.h-1) (j:=j) (by omega) (fun t ht=>by
     rcases List.mem_append.1 ht with w|w
     ·rw [hm.h t w];omega
     ·have:=(c1 t (List.mem_of_mem_drop w)).2.1;omega)
    have hsum:Tr.watL j l=u.wat j+Tr.watL j (l.drop 1):=by
     conv=>lhs;rw [hs]
     rw [Tr.watL_append,Tr.watL,Tr.watL];omega
    rw [Tr.watL_append] at hf
    refine ⟨fun q=>?_,fun q _=>by omega,fun _ q=>?_⟩
    ·have:=hi.lo (by omega);omega
    ·have:=hi.r (by omega) q;omega
structure CW3 (x y:Tr) (j w:Nat):Prop where
 lo:(x.bytes=0∨y.bytes=0∨j<min x.h y.h)→w≤x.wat j+y.wat j
 l:x.bytes≠0→y.h≤x.h→y.h≤j→j≤x.h→w≤x.wat j+2
 r:y.bytes≠0→x.h≤y.h→x.h≤j→j≤y.h→w≤y.wat j+2
 any:w≤x.wat j+y.wat j+2
 hi:max x.h y.h≤j→w≤2
theorem ZKC {N:ZJ} (hN:GoodN N) (j:Nat) {x y:Tr} (hx:VE N x) (hy:VE N y) (hb:x.bytes+y.bytes≤65536):CW3 x y j ((XC N x y).wat j):=by
 have hc:=XR hN hx hy hb
 have tx:=hx.wat (j:=j)
 have ty:=hy.wat (j:=j)
 have tz:=hc.ve.wat (j:=j)
 have hh:=hc.h
 revert tz hh
 unfold XC
 split
 ·rename_i h
  intro tz hh
  refine ⟨fun _=>by omega,fun q=>absurd h q,fun _ _ _ _=>by omega,by omega,fun q=>?_⟩
  have:=(ty (by omega)).1;omega
 ·rename_i h
  split
  ·rename_i h2
   intro tz hh
   refine ⟨fun _=>by omega,fun _ _ _ _=>by omega,fun q=>absurd h2 q,by omega,fun q=>?_⟩
   have:=(tx (by omega)).1;omega
  ·rename_i h2
   have vx:=hx.val h
   have vy:=hy.val h2
   have hm:=JM hN _ x y vx vy rfl
   obtain ⟨hw,hw2⟩:=Zeb hN j _ x y vx vy rfl
   generalize Qg N (x.h+y.h) x y=r at *
   intro tz hh
   have hg:j≠max x.h y.h+1→(grp r).wat j≤Tr.watL j r:=fun q=>ZDq (N:=N) q hm.h
   have h2':max x.h y.h≤j→(grp r).wat j≤2:=by
    intro q
    rcases Nat.eq_or_lt_of_le q with w|w
    ·have:=hg (by omega);have:=hw2 (by omega);omega
    ·have:=(tz (by omega)).1;omega
   have ha:(grp r).wat j≤x.wat j+y.wat j+2:=by
    rcases Nat.lt_or_ge j (max x.h y.h) with q|q
    ·have:=hg (by omega)
     rcases Nat.lt_or_ge j (min x.h y.h) with w|w
     ·have:=hw.lo w;omega
     ·rcases Nat.le_total x.h y.h with z|z
      ·have:=hw.r z (by omega);omega
      ·have:=hw.l z (by omega);omega
    ·have:=h2' q;omega
   refine ⟨fun q=>?_,fun _ a b c=>?_,fun _ a b c=>?_,ha,h2'⟩
   ·have:=hg (by omega);have:=hw.lo (by omega);omega
   ·have:=hg (by omega);have:=hw.l a b;omega
   ·have:=hg (by omega);have:=hw.r a b;omega
theorem ZfO {N:ZJ} {l:List Tr} {h:Nat} (h0:(grp l).bytes≠0) (hl:∀ t∈l,t.h=h):h≤(grp l).h:=by
 match l,hl,h0 with
 | [],_,h0=>exact absurd (zero_empty.bytes) h0
 | [t],hl,_=>rw [grp,hl t (by simp)];omega
 | t::u::r,hl,_ =>
  rw [ZDk (by simp)]
  have he:Tr.hs (t::u::r)=h:=hl t (by simp)
  simp only [Tr.h,he];omega
theorem ZdH {N:ZJ} (hN:GoodN N) (j:Nat):∀ n t a,VE N t→t.h=n→0≤a→a≤t.bytes→t.bytes≤65536→(XS N n t a).1.wat j≤t.wat j+2∧(XS N n t a).2.wat j≤t.wat j+2:=by
 intro n
 induction n with
 | zero =>
  intro t a ht hh h0 h1 hb
  rw [XS]
  split
  ·simp only [ZE9];omega
  ·split
   ·simp only [ZE9];omega
   ·have e1:=ZdG ((QU N t).take a.toNat) j
    have e2:=ZdG ((QU N t).drop a.toNat) j
    simp only;omega
 | succ n ih =>
  intro t a ht hh h0 h1 hb
  have hco:=ZBS hN (n+1) t a ht hh h0 h1 hb
  rcases Nat.lt_or_ge n j with hj|hj
  ·have p1:=(hco.l.wat (j:=j) (by have:=hco.lh;omega)).1
   have p2:=(hco.r.wat (j:=j) (by have:=hco.rh;omega)).1
   omega
  clear hco
  rw [XS]
  split
  ·simp only [ZE9];omega
  ·split
   ·simp only [ZE9];omega
   ·rename_i q1 q2
    have vt:=ht.val (by omega)
    have h16:=vt.h16
    have hwc:=ZCu hN vt (by omega) j
    obtain ⟨c1,c2,c3,c4⟩:=Qe hN vt (by omega)
    generalize Zx N t=l at *
    obtain ⟨s1,s2,s3,s4⟩:=ZOV l a (by omega) (fun u hu=>by have:=(c1 u hu).1.pos.2;omega) h0 (by omega)
    generalize hk:(Q1 l a).1=k at *
    generalize hb2:(Q1 l a).2=b at *
    have hl:∀ u∈l,Val N u∧u.h=n∧Big u:=fun u hu=>⟨(c1 u hu).1,by have:=(c1 u hu).2.1;omega,(c1 u hu).2.2⟩
    have ltk:(l.take k).length=k:=by rw [List.length_take];omega
    have ldk:(l.drop k).length=l.length-k:=by rw [List.length_drop]
    have g1:=ZDq (N:=N) (l:=l.take k) (h:=n) (j:=j) (by omega) (fun u hu=>(hl u (List.mem_of_mem_take hu)).2.1)
    have hsum:Tr.bytesL l=Tr.bytesL (l.take k)+Tr.bytesL (l.drop k):=by rw [← Tr.bytesL_append,List.take_append_drop]
    have hws:Tr.watL j l=Tr.watL j (l.take k)+Tr.watL j (l.drop k):=by rw [← Tr.watL_append,List.take_append_drop]
    split
    ·have g2:=ZDq (N:=N) (l:=l.drop k) (h:=n) (j:=j) (by omega) (fun u hu=>(hl u (List.mem_of_mem_drop hu)).2.1)
     simp only;omega
    ·rename_i hz
     obtain ⟨u,hu⟩:∃ u,l[k]?=some u:=⟨l[k],by simp [s1]⟩
     rw [hu]
     simp only [Option.getD_some]
     obtain ⟨u1,u2,u3⟩:=hl u (List.mem_of_getElem? hu)
     have hub:=s4 u hu
     have ldk1:(l.drop (k+1)).length=l.length-(k+1):=by rw [List.length_drop]
     have hdk:l.drop k=u::l.drop (k+1):=by
      have hlt:k<l.length:=s1
      rw [List.drop_eq_getElem_cons hlt]
      congr 1
      rw [List.getElem?_eq_getElem hlt] at hu
      exact Option.some.inj hu
     rw [hdk] at hsum hws
     rw [Tr.bytesL] at hsum
     rw [Tr.watL] at hws
     have g2:=ZDq (N:=N) (l:=l.drop (k+1)) (h:=n) (j:=j) (by omega) (fun w hw=>(hl w (List.mem_of_mem_drop hw)).2.1)
     have e1:=ZfO (N:=N) (l:=l.take k) (h:=n)
     have e2:=ZfO (N:=N) (l:=l.drop (k+1)) (h:=n)
     obtain ⟨a1,a2,a3,a4,a5⟩:=ZGw (l:=l.take k) (by omega) (show n+1≤16 by omega) (fun u hu=>hl u (List.mem_of_mem_take hu))
     obtain ⟨d1,d2,d3,d4,d5⟩:=ZGw (l:=l.drop (k+1)) (by omega) (show n+1≤16 by omega) (fun w hw=>hl w (List.mem_of_mem_drop hw))
     have p1:=Tr.bytesL_nonneg (l:=l.take k) (fun w hw=>by have:=(hl w (List.mem_of_mem_take hw)).1.pos.2;omega)
     have p2:=Tr.bytesL_nonneg (l:=l.drop (k+1)) (fun w hw=>by have:=(hl w (List.mem_of_mem_drop hw)).1.pos.2;omega)
     have hc:=ZBS hN n u b (.inr u1) u2 s2 (by omega) (by omega)
     obtain ⟨i1,i2⟩:=ih u b (.inr u1) u2 s2 (by omega) (by omega)
     generalize XS N n u b=r at *
     have k1:=ZKC hN j a1 hc.l (by rw [hc.lb,a3];omega)
     have k2:=ZKC hN j hc.r d1 (by rw [hc.rb,d3];omega)
     have lh:=hc.lh
     have rh:=hc.rh
     try simp only
     constructor
     ·by_cases z:(grp (l.take k)).bytes=0
      ·have:=k1.lo (.inl z);omega
      ·have e1:=e1 z (fun w hw=>(hl w (List.mem_of_mem_take hw)).2.1)
       rcases Nat.lt_or_ge j r.1.h with q|q
       ·have:=k1.lo (.inr (.inr (by omega)));omega
       ·have:=k1.l z (by omega) q (by omega);omega
     ·by_cases z:(grp (l.drop (k+1))).bytes=0
      ·have:=k2.lo (.inr (.inl z));omega
      ·have e2:=e2 z (fun w hw=>(hl w (List.mem_of_mem_drop hw)).2.1)
       rcases Nat.lt_or_ge j r.2.h with q|q
       ·have:=k2.lo (.inr (.inr (by omega)));omega
       ·have:=k2.r z (by omega) q (by omega);omega
def gW (h b j:Nat):Nat:=if j<h then 10 else if j=h then 6 else if j≤max h b then 4 else if j=max h b+1 then 2 else if j=max h b+2 then 1 else 0
theorem ZgT {N:ZJ} (hN:GoodN N) (j:Nat) {t:Tr} (ht:VE N t) (hw:∀ j,t.wat j=0) {a n:Int} {s:List UInt8} (h0:0≤a) (h1:0≤n) (h2:a+n≤t.bytes) (hb:t.bytes≤65536) (hs:t.bytes-n+s.length≤65536) :
 (JN N t a n s).wat j≤(QX s).wat j+gW t.h (QX s).h j∧(JN N t a n s).h≤max t.h (QX s).h+2:=by
 unfold JN
 split
 ·rw [hw];omega
 ·have c1:=ZBS hN t.h t a ht rfl h0 (by omega) hb
  obtain ⟨w1,w2⟩:=ZdH hN j t.h t a ht rfl h0 (by omega) hb
  generalize XS N t.h t a=q at *
  obtain ⟨l,m⟩:=q
  simp only at *
  have hm:=c1.rb
  have hl:=c1.lb
  have lh:=c1.lh
  have mh:=c1.rh
  simp only at hm hl lh mh
  have c2:=ZBS hN m.h m n c1.r rfl h1 (by omega) (by omega)
  obtain ⟨w3,w4⟩:=ZdH hN j m.h m n c1.r rfl h1 (by omega) (by omega)
  generalize XS N m.h m n=q at *
  obtain ⟨d,r⟩:=q
  simp only at *
  have hr:=c2.rb
  have rh:=c2.rh
  simp only at hr rh
  obtain ⟨b1,b2,b3⟩:=ZBb hN (s:=s) (by omega)
  generalize QX s=b at *
  have k1:=XR hN c1.l b1 (by rw [b3];simp only;omega)
  have v1:=ZKC hN j c1.l b1 (by rw [b3];simp only;omega)
  have zh:=k1.h
  have k2:=XR hN k1.ve c2.r (by rw [k1.bytes,b3];simp only;omega)
  have v2:=ZKC hN j k1.ve c2.r (by rw [k1.bytes,b3];simp only;omega)
  have xh:=k2.h
  have tl:=c1.l.wat (j:=j)
  have tm:=c1.r.wat (j:=j)
  have tr:=c2.r.wat (j:=j)
  have tb:=b1.wat (j:=j)
  have t1:=k1.ve.wat (j:=j)
  have t2:=k2.ve.wat (j:=j)
  have a1:=v1.any
  have a2:=v2.any
  have x2:=v2.hi
  have hw:=hw j
  simp only at *
  generalize XC N l b=z1 at *
  generalize XC N z1 r=z2 at *
  clear k1 k2 v1 v2 c1 c2 b2
  refine ⟨?_,by omega⟩
  unfold gW
  split
  ·omega
  ·split
   ·have:=(tl (by omega)).1
    have:=(tr (by omega)).1
    omega
   ·have:=(tl (by omega)).2 (by omega)
    have:=(tr (by omega)).2 (by omega)
    split
    ·omega
    ·split
     ·have:=x2 (by omega);omega
     ·split
      ·have:=(t2 (by omega)).1;omega
      ·have:=(t2 (by omega)).2 (by omega);omega
end Go.Q15
namespace Go.Q15
open Go Go.QAbs
set_option maxRecDepth 100000
set_option maxHeartbeats 1000000
def ZCv:Nat→(Nat→Nat)→Nat
 | 0,_=>0
 | n+1,f=>ZCv n f+f n
theorem ZfP {f g:Nat→Nat}:∀ K,(∀ j,j<K→f j≤g j)→ZCv K f≤ZCv K g
 | 0,_=>Nat.le_refl _
 | K+1,h=>by
  have h1:=ZfP K (fun j hj=>h j (by omega))
  have h2:=h K (by omega)
  rw [ZCv,ZCv];omega
theorem ZOl (f g:Nat→Nat):∀ K,ZCv K (fun j=>f j+g j)=ZCv K f+ZCv K g
 | 0=>rfl
 | K+1=>by rw [ZCv,ZCv,ZCv,ZOl f g K];omega
theorem ZKD:∀ K,ZCv K (fun _=>0)=0
 | 0=>rfl
 | K+1=>by rw [ZCv,ZKD K]
theorem ZMe {f g:Nat→Nat} (h:∀ j,f j=g j) (K:Nat):ZCv K f=ZCv K g:=by
 rw [show f=g from funext h]
theorem ZdI {f:Nat→Nat} {i:Nat} (hf:∀ j,j≠i→f j=0):∀ K,K≤i→ZCv K f=0
 | 0,_=>rfl
 | K+1,h=>by rw [ZCv,ZdI hf K (by omega),hf K (by omega)]
theorem Zbb {f:Nat→Nat} {i:Nat} (hf:∀ j,j≠i→f j=0):∀ K,i<K→ZCv K f=f i
 | 0,h=>by omega
 | K+1,h=>by
  rw [ZCv]
  rcases Nat.eq_or_lt_of_le (Nat.lt_succ_iff.1 h) with q|q
  ·rw [← q,ZdI hf i (Nat.le_refl _)];omega
  ·rw [Zbb hf K q,hf K (by omega)];omega
theorem Zjx {N:ZJ} {t:Tr} (hv:Val N t):∀ K,t.h<K→t.cnt=ZCv K (fun j=>t.wat j):=by
 induction hv with
 | @kept o h m k x h0 hx hok hh hm hk =>
  intro K _
  rw [Tr.cnt,Tr.cntO_getD,hk,if_neg h0,ZMe (g:=fun _=>0) (fun j=>by rw [Tr.wat,Tr.watO_getD,hk,ZJr h0];rfl),ZKD];rfl
 | @leaf s k h1 h2 hk =>
  intro K hK
  simp only [Tr.h] at hK
  rw [Tr.cnt,Tr.cntO_getD,hk,ZMe (g:=hdW 0 0 s) (fun j=>by rw [Tr.wat,Tr.watO_getD,hk];simp only [Tr.watL,Nat.add_zero]),Zbb (i:=0) (fun j hj=>(ZJq _ _ _ _).2 (by omega)) K hK]
  have hs:s≠[]:=by rintro rfl;simp at h1
  simp [hdW,Tr.cntL,hs]
 | @inner h l hh h2 h4 hl hb hv ih =>
  intro K hK
  simp only [Tr.h] at hK
  have hL:∀ l':List Tr,(∀ t∈l',t∈l)→Tr.cntL l'=ZCv K (fun j=>Tr.watL j l'):=by
   intro l'
   induction l' with
   | nil=>intro _;rw [Tr.cntL];simp only [Tr.watL];rw [ZKD]
   | cons a r ih2 =>
    intro hm
    rw [Tr.cntL,ih a (hm a (by simp)) K (by rw [hl a (hm a (by simp))];omega),ih2 (fun t ht=>hm t (by simp [ht]))]
    simp only [Tr.watL]
    rw [ZOl]
  rw [Tr.cnt,Tr.cntO,hL l (fun t ht=>ht)]
  simp only [Tr.wat,Tr.watO]
  rw [ZOl,Zbb (f:=fun j=>hdW 0 (h+1) [] j) (i:=h+1) (fun j hj=>(ZJq _ _ _ _).2 (by omega)) K hK]
  simp [hdW]
theorem ZiF {N:ZJ} {t:Tr} (hv:VE N t) {K:Nat} (hK:t.h<K):nw t=ZCv K (fun j=>t.wat j):=by
 rcases hv with h|h
 ·rw [ZOj h,ZMe (g:=fun _=>0) (fun j=>ZQd h j),ZKD]
 ·rw [ZMd h,Zjx h K hK]
mutual
theorem ZfQ (j:Nat):∀ t:Tr,t.own.wat j=t.wat j
 | .mk o h m s k=>by rw [Tr.own,Tr.wat,Tr.wat,ZiG j k]
theorem ZiG (j:Nat):∀ k,Tr.watO j (Tr.ownO k)=Tr.watO j k
 | none=>by rw [Tr.ownO,Tr.watO,Tr.watO,Tr.watL]
 | some l=>by rw [Tr.ownO,Tr.watO,Tr.watO,ZdJ j l]
theorem ZdJ (j:Nat):∀ l,Tr.watL j (Tr.ownL l)=Tr.watL j l
 | []=>by rw [Tr.ownL]
 | t::l=>by rw [Tr.ownL,Tr.watL,Tr.watL,ZfQ j t,ZdJ j l]
end
theorem Zkh:∀ h<17,∀ b<4,ZCv (max h b+3) (gW h b)≤12*(h+2):=by decide
theorem ZgU {row:List Tr} (h:1≤row.length):(Yc row).length=(row.length-1) / 4+1:=by
 have hlen:(Yc row).length=(ZV row.length 4).toNat:=by unfold Yc;simp
 have hg4:ZV row.length 4=((row.length:Int)-1) / 4+1:=rfl
 omega
theorem ZdK {N:ZJ} (hN:GoodN N):∀ (n:Nat) (row:List Tr) (h:Nat) (s:List UInt8) (k:Nat),Row N row h s→row.length≤n+1→s.length≤65536→row.length≤4 ^ k→(grp (Jd n row)).h≤h+k
 | 0,row,h,s,k,hr,hl,hs,hk=>by
  rw [Jd]
  match row,hl,hr with
  | [],_,_=>simp [grp,Tr.zero,Tr.h]
  | [t],_,hr=>have:=(hr.val t (by simp)).2;simp only [grp];omega
 | n+1,row,h,s,k,hr,hl,hs,hk=>by
  rw [Jd]
  split
  ·rename_i h1
   match row,h1,hr with
   | [],_,_=>simp [grp,Tr.zero,Tr.h]
   | [t],_,hr=>have:=(hr.val t (by simp)).2;simp only [grp];omega
  ·rename_i h2
   have hh:h+1≤16:=by
    match row,h2,hr with
    | t::r,h2,hr =>
     have h1:=(hr.val t (by simp))
     have h3:=ZDm hN h1.1
     have h4:(t.txt N).length≤s.length:=by rw [← hr.txt,Tr.txtL,List.length_append];omega
     have:=h1.1.height hN (by omega)
     omega
    | [],h2,_=>simp at h2
   obtain ⟨a,b,c⟩:=ZOZ hr (by omega) hh
   cases k with
   | zero=>simp at hk;omega
   | succ k =>
    have hlen:=ZgU (row:=row) (by omega)
    rw [Nat.pow_succ] at hk
    have:=ZdK hN n (Yc row) (h+1) s k a (by omega) hs (by omega)
    omega
theorem ZiH {N:ZJ} (hN:GoodN N) {s:List UInt8} (hs:s.length≤1024):(QX s).h≤3:=by
 obtain ⟨a,b,c⟩:=ZCs (N:=N) s
 have hl:((Qi s).map Qd).length≤64:=by
  unfold Qi
  split
  ·simp
  ·have hg:ZV s.length 16=((s.length:Int)-1) / 16+1:=rfl
   simp only [List.length_map,List.length_range]
   omega
 have:=ZdK hN s.length _ 0 s 3 a (by omega) (by omega) (by omega)
 unfold QX;omega
theorem ZZf {N:ZJ} {ro:Ro} (h:RtOk N ro) (j:Nat):(QK ro).wat j=0∧(QK ro).h=ro.h:=by
 unfold QK
 rcases h with rfl|⟨h0,x,h1,h2,h3,h4⟩
 ·rw [if_pos (by rfl)];exact ⟨ZE9 j,rfl⟩
 ·rw [if_neg h0]
  exact ⟨by rw [Tr.keep,Tr.wat,ZJr h0];rfl,rfl⟩
theorem Zki (t:Tr):t.own.h=t.h:=by obtain ⟨o,h,m,s,k⟩:=t;rfl
end Go.Q15
namespace Go.Q15
open Go Go.QAbs
set_option maxRecDepth 100000
set_option maxHeartbeats 16000000
def hOf (r:AR) (s:Nat):Nat:=((r.gens[s]?).getD 0).toNat*65536+s
def Y2 (r:AR):List Nat:=(ZAE r.states 1).map (hOf r)
theorem Zec {l:List Int} {z:Int} {s:Nat} (h:s∈ZAE l z):s<l.length∧l[s]?=some z:=by
 unfold ZAE YP at h
 rw [List.mem_filter,List.mem_range] at h
 exact ⟨h.1,by simpa using h.2⟩
theorem Zed {st:St} {lv b:Nat} {r:AR} (h:HasR st lv b r) (ho:AROk r):S Tb J8 [.ptr lv (b+3) 0 0 0] st=some (.lit ((Y2 r).map JH),st):=by
 refine Z5 rfl (fun A hA=>?_)
 have g3:=fun L=>ZW hA (ro:=false) (L:=L) h.h3
 have g2:=fun L=>ZW hA (ro:=false) (L:=L) h.h2
 unfold AR.b3 at g3
 unfold AR.b2 at g2
 have hw2:∀ L,wIs 1 0 (St.get ⟨A,false,L⟩ lv (b+2))=true:=fun L=>by rw [g2];rfl
 have hsl:=fun L=>ZfI (h.push hA (ro:=false) (L:=L)) ho.n16 1
 have hmem:=fun s hs=>Zec (l:=r.states) (z:=1) (s:=s) hs
 have hlen:(ZAE r.states 1).length≤16384:=by have:=ZJp r.states 1 r.states.length;have:=ho.n16;unfold ZAE;omega
 have hn16:=ho.n16
 have hgl:=ho.gl
 unfold Y2
 generalize ZAE r.states 1=l at *
 repeat' (first|refine ZQ7 rfl ?_|refine ZE ?_|refine ZC ?_|refine ZF rfl ?_|refine ZB rfl ?_|refine ZA ?_|refine Y5 rfl ?_|refine ZD rfl rfl rfl (hsl _) ?_|refine ZL ?_)
 refine Zq (α:=Nat) (fun i=>[(0,.ptr lv (b+3) 0 0 0),(3,.ref A.length 0 i 0 i),(9,.lit (l.map ZQ6)),(10,.int .i64 l.length),(11,.int .i64 i)]) (fun i=>⟨A,false,[.arr 1 i (((l.take i).map (hOf r)).map JH)]⟩) (fun i=>i≤l.length) (fun i=>l.length-i) 0 rfl rfl (Nat.zero_le _) ?_
 intro i hi
 replace hi:i≤l.length:=hi
 rcases Nat.lt_or_ge i l.length with hlt|hge
 ·obtain ⟨s,hs⟩:∃ x,l[i]?=some x:=⟨l[i]'hlt,by simp [hlt]⟩
  obtain ⟨m1,m2⟩:=hmem s (List.mem_of_getElem? hs)
  obtain ⟨g,g1',g2',g3'⟩:=ho.gen s m1
  have q:0≤((i:Nat):Int)∧l[((i:Nat):Int).toNat]?=some s:=⟨by omega,by rw [show ((i:Nat):Int).toNat=i by omega];exact hs⟩
  have q1:(r.gens.map (.int .u64))[0+((s:Nat):Int).toNat]?=some (AV.int .u64 g):=by
   rw [show 0+((s:Nat):Int).toNat=s by omega,List.getElem?_map,g1'];rfl
  have hMk:=fun st=>Ze3 s g (by omega) ⟨by omega,by have:=ho.most;omega⟩ st
  have hl2:(((l.take i).map (hOf r)).map JH).length+[AV.int .u64 ((g*65536+s:Nat):Int)].length<4294967296:=by simp;omega
  have hl3:i=(((l.take i).map (hOf r)).map JH).length:=by simp;omega
  have hlt2:((s:Nat):Int)<r.gens.length:=by omega
  repeat' (first|refine ZJ9 (f:=ZQ6) rfl rfl q (fun _=>rfl) ?_|refine QG rfl (g3 _) rfl rfl ?_|refine Jb rfl rfl (by omega) (hw2 _) ?_|refine QG rfl (g2 _) q1 rfl ?_|refine ZfH rfl rfl rfl hl3 rfl rfl hl2 (by decide) ?_|refine ZE ?_|refine ZC ?_|refine ZF rfl ?_|refine ZO rfl rfl ?_|refine QB rfl rfl ?_|refine ZB rfl ?_|refine ZA ?_|refine Z7 rfl rfl ?_|refine QQ rfl rfl ?_|(refine Zh rfl rfl (fun _=>?_) (fun _=>?_)<;>try (exfalso;omega))|refine ZU rfl ?_|refine Zi rfl rfl (by omega) ?_|refine QL rfl rfl rfl rfl ?_|refine ZD rfl rfl rfl (hMk _) ?_|refine ZI ?_|refine ZL ?_|refine Z2 ?_|refine Z4 ?_)
  all_goals try contradiction
  all_goals try (exfalso;omega)
  refine ⟨i+1,⟨?_,?_⟩,by omega,by omega⟩
  ·rfl
  ·have e:hOf r s=g*65536+s:=by unfold hOf;rw [g1'];simp
   rw [List.take_add_one,hs,List.map_append,List.map_append,← e]
   rfl
 ·obtain rfl:i=l.length:=by omega
  repeat' (first|refine ZE ?_|refine ZC ?_|refine ZF rfl ?_|refine ZB rfl ?_|refine ZA ?_|(refine Zh rfl rfl (fun _=>?_) (fun _=>?_)<;>try (exfalso;omega))|refine ZG rfl ?_|refine ZQ ?_|refine Zo ?_|refine ZP ?_|refine Za ?_|refine ZY rfl ?_|refine Zj ?_)
  all_goals try (exfalso;omega)
  refine Y6 (es:=(l.map (hOf r)).map JH) hA (.inr rfl) rfl (by rw [List.take_length];rfl) (by simp) (by intro v hv;obtain ⟨x,_,rfl⟩:=List.mem_map.1 hv;rfl) ?_
  rfl
theorem ZWq {st:St} {lv b:Nat} {r:AR} (h:HasR st lv b r) (ho:AROk r):S Tb Jf [.ptr lv (b+5) 0 0 0] st=some (.lit ((Y2 r).map JH),st):=by
 refine Z5 rfl (fun A hA=>?_)
 have g5:=fun L=>ZW hA (ro:=false) (L:=L) h.h5
 unfold AR.b5 at g5
 have hF:=fun L=>Zed (h.push hA (ro:=false) (L:=L)) ho
 repeat' (first|refine QG rfl (g5 _) rfl rfl ?_|refine ZE ?_|refine ZC ?_|refine ZF rfl ?_|refine ZO rfl rfl ?_|refine ZB rfl ?_|refine ZA ?_|refine Z7 rfl rfl ?_|refine ZG rfl ?_|refine Qm rfl rfl rfl rfl ?_|refine ZD rfl rfl rfl (hF _) ?_|refine ZI ?_|refine ZQ ?_|refine ZP ?_)
 all_goals try contradiction
 refine Zd hA (by first|exact .inl rfl|exact .inr rfl) rfl rfl rfl rfl ?_
 rfl
end Go.Q15
namespace Go.Q15
open Go Go.QAbs
set_option maxRecDepth 100000
set_option maxHeartbeats 32000000
theorem RootOk.rt {N:ZJ} {r:Ro} (h:RootOk N r):RtOk N r:=by
 rcases h with h|⟨x,h1,h2,h3,h4,h5⟩
 ·exact .inl h
 ·exact .inr ⟨h3,x,h1,h2,h4,h5⟩
theorem RtOk.keepB {N:ZJ} {r:Ro} (h:RtOk N r):VE N (QK r)∧(QK r).bytes=r.m.b:=by
 unfold QK
 rcases h with rfl|⟨h0,x,h1,h2,h3,h4⟩
 ·rw [if_pos (by rfl)];exact ⟨.inl zero_empty,rfl⟩
 ·rw [if_neg h0]
  exact ⟨.inr (.kept h0 h1 h2 h3 h4 rfl),by simp [Tr.keep,Tr.bytes,Tr.bytesO]⟩
theorem ZiI {N:ZJ} (hN:GoodN N) {t:Tr} (ht:VE N t) (hw:∀ j,t.wat j=0) (h16:t.h≤16) {a n:Int} {s:List UInt8} (h0:0≤a) (h1:0≤n) (h2:a+n≤t.bytes) (hb:t.bytes≤60000) (hs:s.length≤1024) :
 nw (JN N t a n s).own≤12*(t.h+2)+nw (QX s):=by
 have hR:=fun j=>ZgT hN j (s:=s) ht hw h0 h1 h2 (by omega) (by omega)
 have hB:=(ZBb hN (s:=s) (by omega)).1
 have hBh:=ZiH hN hs
 have hv:VE N (JN N t a n s).own:=Zea (ZOb hN (s:=s) ht h0 h1 h2 (by omega) (by omega)).ve
 have hE:(JN N t a n s).own.h<max t.h (QX s).h+3:=by
  rw [Zki]
  have:=(hR 0).2;omega
 rw [ZiF hv hE,ZiF hB (K:=max t.h (QX s).h+3) (by omega)]
 have hg:=Zkh t.h (by omega) (QX s).h (by omega)
 have hle:=ZfP (f:=fun j=>(JN N t a n s).own.wat j) (g:=fun j=>(QX s).wat j+gW t.h (QX s).h j) (max t.h (QX s).h+3) (fun j _=>by
  rw [ZfQ]
  exact (hR j).1)
 rw [ZOl] at hle
 omega
theorem ZdL {r:AR} (ho:AROk r) {o:Nat} {x:Nd} (hx:lk r.nodes o=some x):o∈Y2 r:=by
 obtain ⟨s,g,k1,k2,k3,k4⟩:=ho.key o x hx
 unfold Y2
 refine List.mem_map.2 ⟨s,?_,?_⟩
 ·unfold ZAE YP
  rw [List.mem_filter,List.mem_range]
  exact ⟨k2,by simp [k3]⟩
 ·unfold hOf;rw [k4,k1];simp
theorem eqV3 (m:Mea):eqV [(0,0),(1,0),(2,0)] 0 (.agg [.int .i64 m.b,.int .i64 m.r,.int .i64 m.l]) (.agg [.int .i64 m.b,.int .i64 m.r,.int .i64 m.l])=some true:=by
 show (if decide (m.b=m.b)=true then (if decide (m.r=m.r)=true then (if decide (m.l=m.l)=true then some true else some false) else some false) else some false)=_
 simp
theorem ZZg (o h:Nat) (m:Mea) (st:St):S Tb Q7 [(Tr.mk o h m [] (some [])).av,(Tr.mk o h m [] none).av] st=some (.bool true,st):=by
 refine Z5 rfl (fun A hA=>?_)
 have hq:=eqV3 m
 have e1:(Tr.mk o h m [] (some [])).av=.agg [.int .u64 o,.int .i64 h,.int .i64 m.b,.int .i64 m.r,.int .i64 m.l,.str [],.lit []]:=rfl
 have e2:(Tr.mk o h m [] none).av=.agg [.int .u64 o,.int .i64 h,.int .i64 m.b,.int .i64 m.r,.int .i64 m.l,.str [],.nils]:=rfl
 rw [e1,e2]
 repeat' (first|refine Qm rfl rfl hq rfl ?_|refine ZE ?_|refine ZC ?_|refine ZF rfl ?_|refine ZO rfl rfl ?_|refine ZS rfl rfl rfl rfl ?_|refine Z8 rfl ?_|refine Zp rfl rfl rfl rfl ?_|refine ZB rfl ?_|refine ZA ?_|refine YJ rfl rfl ?_|refine JI rfl ?_|(refine Zu rfl rfl (fun _=>?_) (fun _=>?_)<;>try (exfalso;omega))|(refine ZMw rfl rfl (fun _=>?_) (fun _=>?_)<;>try contradiction)|refine ZG rfl ?_|refine Ze rfl rfl rfl ?_|refine ZI ?_|refine ZL ?_)
 all_goals try contradiction
 all_goals try (exfalso;omega)
 refine Zq (α:=Nat) (fun i=>[(2,.ptr A.length 0 0 0 0),(3,.ptr A.length 1 0 0 0),(5,.int .i64 0)]) (fun i=>⟨A,false,[.arr 7 0 [.agg [.int .u64 o,.int .i64 h,.int .i64 m.b,.int .i64 m.r,.int .i64 m.l,.str [],.lit []]],.arr 7 0 [.agg [.int .u64 o,.int .i64 h,.int .i64 m.b,.int .i64 m.r,.int .i64 m.l,.str [],.nils]]]⟩) (fun i=>True) (fun i=>0) 0 rfl rfl trivial ?_
 intro i _
 repeat' (first|refine ZE ?_|refine ZC ?_|refine ZF rfl ?_|refine ZO rfl rfl ?_|refine ZS rfl rfl rfl rfl ?_|refine ZB rfl ?_|refine ZA ?_|refine YJ rfl rfl ?_|(refine Zh rfl rfl (fun _=>?_) (fun _=>?_)<;>try (exfalso;omega))|refine ZG rfl ?_|refine ZQ ?_|refine Zo ?_|refine ZP ?_|refine Za ?_|refine ZY rfl ?_|refine Zj ?_)
 all_goals try contradiction
 all_goals try (exfalso;omega)
 all_goals refine Zd hA (by first|exact .inl rfl|exact .inr rfl) rfl rfl rfl rfl ?_
 all_goals rfl
theorem ZgV {N:ZJ} {r:Ro} (h:RtOk N r) (st:St):S Tb Q7 [(QK r).own.av,(QK r).av] st=some (.bool true,st):=by
 unfold QK
 rcases h with rfl|⟨h0,_⟩
 ·rw [if_pos (by rfl)];exact ZZg 0 0 .zero st
 ·rw [if_neg h0];exact ZZg _ _ _ st
theorem ZdM (text:List UInt8) (at_ num:Int) (s:List UInt8) (ht:text.length<9223372036854775808) (hs:s.length<9223372036854775808) (st:St) :
 S Tb J7 [.str text,.int .i64 at_,.int .i64 num,.str s] st=some (.bool true,st):=by
 refine Z5 rfl (fun A hA=>?_)
 have hWk:=fun st=>Zjk st
 by_cases hg:900<text.length∨300<s.length
 ·repeat' (first|refine ZE ?_|refine ZC ?_|refine ZF rfl ?_|refine Z8 rfl ?_|refine Ja rfl rfl ?_|refine Zp rfl rfl rfl rfl ?_|refine ZB rfl ?_|refine ZA ?_|refine Qo rfl ?_|(refine QW rfl rfl (fun _=>?_) (fun _=>?_)<;>try (exfalso;omega))|refine ZU rfl ?_|refine ZD rfl rfl rfl (hWk _) ?_|refine ZQ ?_|refine ZP ?_|refine ZX ?_)
  all_goals try contradiction
  all_goals try (exfalso;omega)
  all_goals refine Zd hA (by first|exact .inl rfl|exact .inr rfl) rfl rfl rfl rfl ?_
  all_goals rfl
 obtain ⟨g1,g2⟩:text.length≤900∧s.length≤300:=by omega
 clear hg
 obtain ⟨LL,N,ro,kx,hS,hHas,hkx,hN,hOk,hRo,hmb⟩:=Zji text g1 A
 have hS':S Tb Jt [.lit [.str text]] ⟨A,false,[]⟩=some (.tup [.agg [.ptr A.length 6 0 0 0,.ptr A.length 11 0 0 0,.ref A.length kx 0 0 1],.bool true],⟨A,false,LL++[]⟩):=by rw [List.append_nil];exact hS
 have hRt:=hRo.rt
 obtain ⟨kv,kb⟩:=hRt.keepB
 rw [hmb] at kb
 have h13:=hRt.h13 hN
 have hkw:=fun j=>(ZZf hRt j).1
 have hkh:(QK ro).h=ro.h:=(ZZf hRt 0).2
 have p1:=ZGz (x:=at_) (n:=(text.length:Int)) (by omega)
 have hPa:=fun st=>Zh2 at_ text.length (by omega) (by omega) st
 generalize ZWl at_ text.length=a at *
 have p2:=ZGz (x:=num) (n:=(text.length:Int)-a) (by omega)
 have hPm:=fun st=>Zh2 num ((text.length:Int)-a) (by omega) (by omega) st
 generalize ZWl num ((text.length:Int)-a)=m at *
 have hRM:=ZOb hN (s:=s) kv p1.1 p2.1 (by omega) (by omega) (by omega)
 have hpv:VE N (JN N (QK ro) a m s).own:=Zea hRM.ve
 have hpb:(JN N (QK ro) a m s).own.bytes≤1200:=by rw [ZQb,hRM.bytes];omega
 have hcl:=ZiI hN (s:=s) kv hkw (by omega) p1.1 p2.1 (by omega) (by omega) (by omega)
 rw [hkh] at hcl
 have hBv:=ZBb hN (s:=s) (by omega)
 have hnb:=(ZbZ hN (t:=QX s))
 have n16:=hOk.n16
 have nn:=hOk.nn
 have nn0:=hOk.nb
 have hNd:(Xh N).nodes=N:=rfl
 generalize harOf:Xh N=r at *
 have hSt1:=ZfJ (hHas [.arr 3 0 [.agg [.ptr A.length 6 0 0 0,.ptr A.length 11 0 0 0,.ref A.length kx 0 0 1]],.arr 5 0 [ro.av]]).r nn0 n16 (by omega)
 have hHd1:=ZWq (hHas [.arr 3 0 [.agg [.ptr A.length 6 0 0 0,.ptr A.length 11 0 0 0,.ref A.length kx 0 0 1]],.arr 5 0 [ro.av]]).r hOk
 have hKp:=ZfL (hHas [.arr 3 0 [.agg [.ptr A.length 6 0 0 0,.ptr A.length 11 0 0 0,.ref A.length kx 0 0 1]],.arr 5 0 [ro.av],.arr 7 0 [r.statsAV]]).r.rd (by rw [hNd];exact hRt)
 have hRp:=ZgG (N:=r.nodes) (by rw [hNd];exact hN) (hHas [.arr 3 0 [.agg [.ptr A.length 6 0 0 0,.ptr A.length 11 0 0 0,.ref A.length kx 0 0 1]],.arr 5 0 [ro.av],.arr 7 0 [r.statsAV],.arr 7 0 [(QK ro).av]]).r.rd (t:=QK ro) (s:=s) (by rw [hNd];exact kv) p1.1 p2.1 (by omega) (by omega) (by omega)
 rw [hNd] at hRp
 have hBu:=fun st=>ZbK hN s (by omega) st
 have hNp:=fun st=>Zh6 hN hpv (by omega) st
 have hNb:=fun st=>Zh6 hN hBv.1 (by rw [hBv.2.2];omega) st
 have hnb2:(nw (QX s):Int)≤300:=by
  rcases hBv.1 with h|h
  ·rw [ZOj h];omega
  ·rw [ZMd h];have:=(ZbZ hN h).1;rw [hBv.2.2] at this;omega
 have hnp2:(nw (JN N (QK ro) a m s).own:Int)≤1200:=by
  rcases hpv with h|h
  ·rw [ZOj h];omega
  ·rw [ZMd h];have:=(ZbZ hN h).1;omega
 have hSame:m=0→s=[]→∀ st,S Tb Q7 [(JN N (QK ro) a m s).own.av,(QK ro).av] st=some (.bool true,st):=by
  intro h1 h2 st
  have e:JN N (QK ro) a m s=QK ro:=by unfold JN;rw [if_pos ⟨h1,h2⟩]
  rw [e];exact ZgV hRt st
 have hKt:=fun st=>Zh0 hpv.pos.1 (Zba hN hpv (by omega)) st
 have hkz:=ZiC (N:=N) (fun o x h=>(hOk.hnd (by rw [hNd];exact h)).2) hpv
 have hkl:=Tr.kwT_len (JN N (QK ro) a m s).own []
 have hsz:=Zba hN hpv (by omega)
 simp only [List.length_nil] at hkl
 have hDr:=ZgS (N:=r.nodes) (by rw [hNd];exact hN) hOk.lv hOk.nz (hHas [.arr 3 0 [.agg [.ptr A.length 6 0 0 0,.ptr A.length 11 0 0 0,.ref A.length kx 0 0 1]],.arr 5 0 [ro.av],.arr 7 0 [r.statsAV],.arr 7 0 [(QK ro).av],.arr 7 0 [(JN N (QK ro) a m s).own.av],.arr 7 0 [(QX s).av]]).r.rd (r:=ro) (by rw [hNd];exact hRt) (t:=(JN N (QK ro) a m s).own) (by rw [hNd];exact hpv) (by omega)
 have hTx:=Zkb (N:=r.nodes) (by rw [hNd];exact hN) (hHas [.arr 3 0 [.agg [.ptr A.length 6 0 0 0,.ptr A.length 11 0 0 0,.ref A.length kx 0 0 1]],.arr 5 0 [ro.av],.arr 7 0 [r.statsAV],.arr 7 0 [(QK ro).av],.arr 7 0 [(JN N (QK ro) a m s).own.av],.arr 7 0 [(QX s).av]]).r.rd (t:=(JN N (QK ro) a m s).own) (by rw [hNd];exact hpv) (by omega)
 have hSt2:=ZfJ (hHas [.arr 3 0 [.agg [.ptr A.length 6 0 0 0,.ptr A.length 11 0 0 0,.ref A.length kx 0 0 1]],.arr 5 0 [ro.av],.arr 7 0 [r.statsAV],.arr 7 0 [(QK ro).av],.arr 7 0 [(JN N (QK ro) a m s).own.av],.arr 7 0 [(QX s).av]]).r.allRo nn0 n16 (by omega)
 have hHd2:=ZWq (hHas [.arr 3 0 [.agg [.ptr A.length 6 0 0 0,.ptr A.length 11 0 0 0,.ref A.length kx 0 0 1]],.arr 5 0 [ro.av],.arr 7 0 [r.statsAV],.arr 7 0 [(QK ro).av],.arr 7 0 [(JN N (QK ro) a m s).own.av],.arr 7 0 [(QX s).av]]).r hOk
 have hEq:=Zjs r
 have hlh:(Y2 r).length<4294967296:=by
  have:=ZJp r.states 1 r.states.length
  unfold Y2 ZAE;rw [List.length_map];omega
 have hEH:=fun st=>ZWo (Y2 r) (by omega) st
 have hmem:∀ o∈(JN N (QK ro) a m s).own.kwT [],o∈Y2 r:=fun o ho=>by
  obtain ⟨_,x,hx⟩:=hkz o ho
  exact ZdL hOk (by rw [hNd];exact hx)
 have hHs:=fun o st=>Zjr (Y2 r) hlh o st
 generalize Y2 r=hl at *
 generalize (JN N (QK ro) a m s).own.kwT []=kl at *
 generalize ZiB r.nodes ro (JN N (QK ro) a m s).own=dd at *
 generalize (JN N (QK ro) a m s).own.txt r.nodes=tx at *
 generalize nw (JN N (QK ro) a m s).own=np at *
 generalize nw (QX s)=nb at *
 generalize QX s=tb at *
 generalize (JN N (QK ro) a m s).own=tp at *
 generalize QK ro=tk at *
 clear hkz hpv hpb hBv hRM kv hkw hnb hOk hHas hS hRo hRt harOf
 have k0:∀ T,(LL++T)[kx]?=some (.arr 5 0 [ro.av]):=hkx
 unfold Ro.av AR.statsAV at *
 have hlp:Ru (S Tb) p_quartolaw15_PlanPaths_25.loop [Fr.blk 0,Fr.seq (p_quartolaw15_PlanPaths_26.seq (p_quartolaw15_PlanPaths_27.seq (p_quartolaw15_PlanPaths_28.seq PC.ret)))] (fun x e st'=>Jq false [RV.s 8] (x,e,st')=some (AV.bool true,st))
  [(11,.ptr A.length 6 0 0 0),(12,.ptr A.length (LL.length+1) 0 0 0),(13,.ptr A.length (LL.length+2) 0 0 0),(14,.lit (hl.map JH)),(19,.ptr A.length (LL.length+4) 0 0 0),(22,.lit (kl.map JH)),(23,.int .i64 0)]
  ⟨A,false,LL++[.arr 3 0 [.agg [.ptr A.length 6 0 0 0,.ptr A.length 11 0 0 0,.ref A.length kx 0 0 1]],.arr 5 0 [.agg [.int .u64 ro.at_,.int .i64 ro.h,.int .i64 ro.m.b,.int .i64 ro.m.r,.int .i64 ro.m.l]],.arr 7 0 [.agg [.int .i64 r.slots,.int .i64 r.n,.int .i64 r.nodes.length,.int .i64 (ZAE r.states 2).length,.int .i64 r.allocs,.int .i64 r.frees,.int .i64 r.stale]],.arr 7 0 [tk.av],.arr 7 0 [tp.av],.arr 7 0 [tb.av]]⟩:=by
  refine Zq (α:=Nat) (fun i=>[(11,.ptr A.length 6 0 0 0),(12,.ptr A.length (LL.length+1) 0 0 0),(13,.ptr A.length (LL.length+2) 0 0 0),(14,.lit (hl.map JH)),(19,.ptr A.length (LL.length+4) 0 0 0),(22,.lit (kl.map JH)),(23,.int .i64 i)])
   (fun i=>⟨A,false,LL++[.arr 3 0 [.agg [.ptr A.length 6 0 0 0,.ptr A.length 11 0 0 0,.ref A.length kx 0 0 1]],.arr 5 0 [.agg [.int .u64 ro.at_,.int .i64 ro.h,.int .i64 ro.m.b,.int .i64 ro.m.r,.int .i64 ro.m.l]],.arr 7 0 [.agg [.int .i64 r.slots,.int .i64 r.n,.int .i64 r.nodes.length,.int .i64 (ZAE r.states 2).length,.int .i64 r.allocs,.int .i64 r.frees,.int .i64 r.stale]],.arr 7 0 [tk.av],.arr 7 0 [tp.av],.arr 7 0 [tb.av]]⟩) (fun i=>i≤kl.length) (fun i=>kl.length-i) 0 rfl rfl (Nat.zero_le _) ?_
  intro i hi
  replace hi:i≤kl.length:=hi
  rcases Nat.lt_or_ge i kl.length with hlt|hge
  ·obtain ⟨o,ho⟩:∃ x,kl[i]?=some x:=⟨kl[i]'hlt,List.getElem?_eq_getElem _⟩
   have q:0≤((i:Nat):Int)∧kl[((i:Nat):Int).toNat]?=some o:=⟨by omega,by rw [show ((i:Nat):Int).toNat=i by omega];exact ho⟩
   have hH:=fun st=>hHs o st
   simp only [decide_eq_true (hmem o (List.mem_of_getElem? ho))] at hH
   repeat' (first|refine ZQ7 rfl ?_|refine ZJ9 (f:=JH) rfl rfl q (fun _=>rfl) ?_|refine ZE ?_|refine ZC ?_|refine ZF rfl ?_|refine ZB rfl ?_|refine ZA ?_|refine QQ rfl rfl ?_|(refine Zh rfl rfl (fun _=>?_) (fun _=>?_)<;>try (exfalso;omega))|refine ZU rfl ?_|refine ZG rfl ?_|refine Jy rfl rfl ?_|refine Zi rfl rfl (by omega) ?_|refine ZD rfl rfl rfl (hH _) ?_|refine ZI ?_|refine ZL ?_|refine Z2 ?_|refine Z4 ?_)
   all_goals try contradiction
   all_goals try (exfalso;omega)
   exact ⟨i+1,⟨rfl,rfl⟩,by omega,by omega⟩
  ·obtain rfl:i=kl.length:=by omega
   repeat' (first|refine ZQ7 rfl ?_|refine Jl rfl rfl rfl (Zr _) ?_|refine Jl rfl rfl rfl rfl ?_|refine Js rfl rfl rfl hSt2 ?_|refine Qm rfl rfl hEq rfl ?_|refine ZE ?_|refine ZC ?_|refine ZF rfl ?_|refine Z8 rfl ?_|refine Zp rfl rfl rfl rfl ?_|refine QB rfl rfl ?_|refine ZB rfl ?_|refine ZA ?_|(refine Zh rfl rfl (fun _=>?_) (fun _=>?_)<;>try (exfalso;omega))|(refine Zl rfl rfl (fun _=>?_) (fun _=>?_)<;>try (exfalso;omega))|refine ZG rfl ?_|refine ZD rfl rfl (by first|rfl|(simp only [List.nil_append,List.append_nil,List.cons_append,Zn,ZZ,Zb];first|done|rfl)) (hDr) ?_|refine ZD rfl rfl (by first|rfl|(simp only [List.nil_append,List.append_nil,List.cons_append,Zn,ZZ,Zb];first|done|rfl)) (hTx) ?_|refine ZD rfl rfl (by first|rfl|(simp only [List.nil_append,List.append_nil,List.cons_append,Zn,ZZ,Zb];first|done|rfl)) (hHd2) ?_|refine ZD rfl rfl (by first|rfl|(simp only [List.nil_append,List.append_nil,List.cons_append,Zn,ZZ,Zb];first|done|rfl)) (hEH _) ?_|refine ZD rfl rfl (by first|rfl|(simp only [List.nil_append,List.append_nil,List.cons_append,Zn,ZZ,Zb];first|done|rfl)) (hWk _) ?_|refine ZQ ?_|refine Zo ?_|refine ZP ?_|refine Za ?_|refine ZY rfl ?_|refine Zj ?_)
   all_goals try contradiction
   all_goals try (exfalso;omega)
   all_goals refine Zd hA (by first|exact .inl rfl|exact .inr rfl) rfl rfl rfl rfl ?_
   all_goals rfl
 repeat' (first|refine Yl rfl rfl rfl rfl (ZWf _ (Nat.lt_succ_self _)) rfl rfl ?_|refine Yp rfl rfl rfl rfl rfl ?_|refine Jl rfl rfl rfl (Zr _) ?_|refine Jl rfl rfl rfl rfl ?_|refine Yl rfl rfl rfl rfl (QJ _ _ _) (Qt _ _) rfl ?_|refine Yl rfl rfl rfl rfl rfl rfl rfl ?_|refine ZMz rfl rfl (by decide) (k0 _) ?_|refine ZS rfl (k0 _) rfl rfl ?_|refine Js rfl rfl (wk1 _) (hNp _) ?_|refine Js rfl rfl (wk1 _) (hNb _) ?_|refine ZE ?_|refine ZC ?_|refine ZF rfl ?_|refine ZO rfl rfl ?_|refine Z8 rfl ?_|refine Ja rfl rfl ?_|refine Zp rfl rfl rfl rfl ?_|refine QB rfl rfl ?_|refine ZB rfl ?_|refine ZA ?_|refine Qo rfl ?_|(refine QW rfl rfl (fun _=>?_) (fun _=>?_)<;>try (exfalso;omega))|(refine Zl rfl rfl (fun _=>?_) (fun _=>?_)<;>try (exfalso;omega))|(refine Zu rfl rfl (fun _=>?_) (fun _=>?_)<;>try (exfalso;omega))|(refine YH rfl rfl (fun _=>?_) (fun _=>?_)<;>try contradiction)|refine ZG rfl ?_|refine Jy rfl rfl ?_|refine Zi rfl rfl (by omega) ?_|refine JB rfl rfl (by omega) ?_|refine ZZ8 rfl rfl (by omega) ?_|refine QL rfl rfl rfl rfl ?_|refine ZD rfl rfl (by first|rfl|(simp only [List.nil_append,List.append_nil,List.cons_append,Zn,ZZ,Zb];first|done|rfl)) (hS') ?_|refine ZD rfl rfl (by first|rfl|(simp only [List.nil_append,List.append_nil,List.cons_append,Zn,ZZ,Zb];first|done|rfl)) (hSt1) ?_|refine ZD rfl rfl (by first|rfl|(simp only [List.nil_append,List.append_nil,List.cons_append,Zn,ZZ,Zb];first|done|rfl)) (hHd1) ?_|refine ZD rfl rfl (by first|rfl|(simp only [List.nil_append,List.append_nil,List.cons_append,Zn,ZZ,Zb];first|done|rfl)) (hKp) ?_|refine ZD rfl rfl (by first|rfl|(simp only [List.nil_append,List.append_nil,List.cons_append,Zn,ZZ,Zb];first|done|rfl)) (hPa _) ?_|refine ZD rfl rfl (by first|rfl|(simp only [List.nil_append,List.append_nil,List.cons_append,Zn,ZZ,Zb];first|done|rfl)) (hPm _) ?_|refine ZD rfl rfl (by first|rfl|(simp only [List.nil_append,List.append_nil,List.cons_append,Zn,ZZ,Zb];first|done|rfl)) (hRp) ?_|refine ZD rfl rfl (by first|rfl|(simp only [List.nil_append,List.append_nil,List.cons_append,Zn,ZZ,Zb];first|done|rfl)) (hBu _) ?_|refine ZD rfl rfl (by first|rfl|(simp only [List.nil_append,List.append_nil,List.cons_append,Zn,ZZ,Zb];first|done|rfl)) (hSame ‹m=0› ‹s=[]› _) ?_|refine ZD rfl rfl (by first|rfl|(simp only [List.nil_append,List.append_nil,List.cons_append,Zn,ZZ,Zb];first|done|rfl)) (hKt _) ?_|refine ZI ?_|refine ZL ?_)
 all_goals try contradiction
 all_goals try (exfalso;omega)
 all_goals exact hlp
end Go.Q15
namespace Go.Q15
open Go Go.QAbs
set_option maxRecDepth 100000
open Go.Shelf in
def ZiJ:Ren:=⟨fun|41=>70|n=>n,fun|22=>117|23=>122|n=>n,fun n=>n⟩
theorem ZiK:Go.Proofs.SlLaysE0.n41 Go.Proofs.Try.prog ZiJ:={
 mixed:=by kernel_rfl
 f41 := ⟨"slices.Clone[[]quarto/api.Kid,quarto/api.Kid]", by decide, Go.Proofs.Try.func70.trans (congrArg some (by kernel_rfl))⟩
 t4:=Go.Proofs.Try.underlying4
 a4:=Go.Proofs.Try.isAgg4
 z4:=Go.Proofs.Try.sizeOf4
 v4:=Go.Proofs.Try.zeroValue4
 t22:=Go.Proofs.Try.underlying117
 a22:=Go.Proofs.Try.isAgg117
 z22:=Go.Proofs.Try.sizeOf117
 v22:=Go.Proofs.Try.zeroValue117 }
theorem ZiL:∃ i z,Go.Proofs.Try.prog.info? 122=some i∧i.zero=some z∧i.size=4∧i.bytes=32∧z.cells.size=4:=⟨_,_,rfl,rfl,rfl,rfl,rfl⟩
theorem Zee:ZcF Go.Proofs.Try.prog Zz (.base (ZFL 4)):=by
 obtain ⟨i,z,h1,h2,h3,h4,h5⟩:=ZiL
 refine ZhS (T:=122) (fun n c W=>Go.Proofs.AnyE.slices_Clone_nil ZiK n c W) fun ad n c news W hl hn hc ho=>?_
 exact Zft ZiK i z 4 32 h1 h2 h3 h4 h5 (by decide) Go.Proofs.Try.sizeOf122 ad n c news W hl (by unfold maxLen;omega) (by omega) hc ho
theorem Zkj:ZcG Go.Proofs.Try.prog tl:=⟨⟨Go.Proofs.Try.call70,Zee⟩,Zi9⟩
theorem Tb_ok:TabOk Go.Proofs.Try.prog Tb:=ZhQ Zkj
theorem planPaths_run (text:List UInt8) (at_ n:Int) (s:List UInt8) (h1:text.length≤maxLen) (_h2:(Lit.int .i64 at_).wf=true) (_h3:(Lit.int .i64 n).wf=true) (h4:s.length≤maxLen) :
 ∃ st',S Tb J7 [.str text,.int .i64 at_,.int .i64 n,.str s] .empty=some (.bool true,st'):=by
 have hm:maxLen<9223372036854775808:=by decide +kernel
 exact ⟨_,ZdM text at_ n s (by omega) (by omega) .empty⟩
end Go.Q15
