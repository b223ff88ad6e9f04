/- A part of the proof: RGc7, RGc, PPa, SSf, SSk, RGd, RGe, FY, SHJ, TZm, FYt, TZb. No condition. -/
import Derived.SliceStrings
import Derived.Deep.Slices
import Derived.Carry
import Derived.Shelf.Strings.OnBuilder
import Derived.Test.YtnbialakgbcbfaaGreatProg
import Derived.Test.YtnbialakgbcbfaaGreatPlT10
set_option linter.unusedVariables false
set_option linter.unusedSimpArgs false
set_option maxRecDepth 100000
namespace Go.Q15
open Go Go.QAbs
set_option maxHeartbeats 16000000
variable {rv:AV}{A:List (Bool × List Blk)}{it ixa ixb jb kl kx la lb vr:Nat}{st:St}{t:Tr}
theorem Zwb{N:ZF}(hN:GoodN N)(h32:N.length<4294967296)(hR:∀L,Rd ⟨A,false,L⟩ la ixa N)(hB:∀L,RRd ⟨A,false,L⟩ lb ixb N){rs:List Ro}
 (hrv:(rv=.nils/\rs=[])\/(rv=.ref kl kx vr 0 rs.length/\rs≠[]/\∀L,St.get ⟨A,false,L⟩ kl kx=some (.arr 5 vr (rs.map Ro.av)))) (hrs:∀r∈rs,RootOk N r/\r.m.b<=900) (hrl:rs.length<65536) (l:List Stp) (hl:l.length<=30) (ht:∀s∈l,s.text.length<=200)
 {i ver:Nat} {es:LV} {ts:List Tr} {G:List Blk} (inv:RInv N l i es ts) (hlt:i<l.length) {y:Stp} (hy:l[i]?=some y) (hw:7=y.what % 8) {k:List Fr} {Q:Qn}
 (hnext:∀ver' es' ts' G',RInv N l (i+1) es' ts'->Rk (S Tb) k Q .norm [(1,.lit (l.map Stp.av)),(2,.ptr A.length 0 0 0 0),(6,.ref A.length 1 ver' 0 ts'.length),(7,.int .i64 ((i+1:Nat):Int))] ⟨A,false,.arr 3 0 [.agg [.ptr la ixa 0 0 0,.ptr lb ixb 0 0 0,rv]]::.arr 7 ver' es'::G'⟩) :
 Ru (S Tb) p_quartolaw15_Laid_both_59 k Q [(1,.lit (l.map Stp.av)),(2,.ptr A.length 0 0 0 0),(6,.ref A.length 1 ver 0 ts.length),(7,.int .i64 i)] ⟨A,false,.arr 3 0 [.agg [.ptr la ixa 0 0 0,.ptr lb ixb 0 0 0,rv]]::.arr 7 ver es::G⟩:=by
 have hile:=inv.le;have hele:=inv.elen;have htl:=inv.len
 have hl1:∀ {m:Nat} {c:Tr} (h:m<=ts.length),m+[c].length<4294967296:=fun h=>by rw[List.length_singleton];omega
 have hy1:0<=((i:Nat):Int)/\l[((i:Nat):Int).toNat]?=some y:=⟨by omega,by rw[show ((i:Nat):Int).toNat=i by omega];exact hy⟩
 have hs:=ht y (jM hy)
 have e0:∀L:List Blk,(⟨A,false,L⟩:St)=⟨A,false,L++[]⟩:=fun L=>by rw[List.append_nil]
 rw[e0 (.arr 3 0 [.agg [.ptr la ixa 0 0 0,.ptr lb ixb 0 0 0,rv]]::.arr 7 ver es::G)]
 have hyw:∀(st:St) (e:Env) (x:Opd) (d:Nat) (keep:List Nat) (is:List QAbs.PI) (k:List Fr) (Q:Qn),ZY e x=some (.int .u8 y.what)->Is (S Tb) is keep k Q ((d,.int .u8 (7:Nat))::e) st->Is (S Tb) (⟨some d,none,false,.bin .rem x (.v (.int .u8 8))⟩::is) keep k Q e st:=fun st e x d keep is k Q hx h=>ZBZ (b:=8) hx rfl rfl (by decide) (by rw[<- hw];exact h)
 by_cases h2:ts.length<1\/12<=ts.length
 ·repeat'(first|refine Yu Y ?_|refine Z6 (f:=Stp.av) Y Y hy1 (fun _=>rfl) ?_|refine QW Y Y Y Y Y ?_|refine QI Y Y Y Y ?_|refine QO Y Y Y Y Y Y Y ?_|refine hyw _ _ _ _ _ _ _ _ Y ?_|refine ruS Y ?_|refine isS Y ?_|refine rkS Y ?_|refine Zp Y ?_|refine Zk Y Y ?_|(refine cm0 Y Y Y ?_ ?_<;>intro _<;>try omega)|refine ZL Y Y (by omega) ?_)
  all_goals try first|contradiction|omega
  all_goals exact hnext ver es ts _ (inv.same (by omega))
 obtain⟨x,hx⟩:∃x,ts[ts.length-1]?=some x:=⟨ts[ts.length-1]'(by omega),by simp[show ts.length-1<ts.length by omega]⟩
 obtain⟨vx,bx⟩:=inv.vb x (jM hx)
 have gx:es[0+((ts.length:Int)-1).toNat]?=some x.av:=by rw[show 0+((ts.length:Int)-1).toNat=ts.length-1 by omega];exact inv.get hx
 have px:=vx.pos.2
 have hWx:=fun st=>Q3 vx (by omega) st
 have hve:=ZW7 vx;have hby:=ZiS x
 have hCp:=fun st=>Zxe x vx.pos.1 st
 generalize x.own=c at *
 repeat'(first|refine Yu Y ?_|refine Z6 (f:=Stp.av) Y Y hy1 (fun _=>rfl) ?_|refine QW Y Y Y Y Y ?_|refine QI Y Y Y Y ?_|refine QO Y Y Y Y Y Y Y ?_|refine hyw _ _ _ _ _ _ _ _ Y ?_|refine Xe Y Y (by omega) Y ?_|refine ZB Y Y gx (ZG _) ?_|refine Y4 Y ?_|refine ZDC (ts:=ts) (ys:=[c]) Y Y (Nat.le_refl _) hele Y (hl1 (Nat.le_refl _)) ?_|refine ruS Y ?_|refine isS Y ?_|refine rkS Y ?_|refine Zp Y ?_|refine Zk Y Y ?_|(refine cm0 Y Y Y ?_ ?_<;>intro _<;>try omega)|(refine cm0 Y Y Y ?_ ?_<;>intro _<;>try omega)|(refine cm0 Y Y Y ?_ ?_<;>intro _<;>try omega)|refine ZL Y Y (by omega) ?_|refine QC Y Y (by omega) ?_|refine ZA Y Y (by first|rfl|(simp only[List.nil_append,List.append_nil,List.cons_append,ZH,ZC,ZE];first|done|rfl)) (hCp _) ?_)
 all_goals try first|contradiction|omega
 refine hnext (ver+1) _ (ts.take (ts.length)++[c]) _ (inv.step (by omega) (Nat.le_refl _) [c] ?_ (by simp only[List.length_cons,List.length_nil];omega))
 intro t ht;rw[List.mem_singleton]at ht;subst ht
 exact⟨hve,by omega⟩
theorem Zpm{N:ZF}(hN:GoodN N)(h32:N.length<4294967296)(hR:∀L,Rd ⟨A,false,L⟩ la ixa N)(hB:∀L,RRd ⟨A,false,L⟩ lb ixb N){rs:List Ro}
 (hrv:(rv=.nils/\rs=[])\/(rv=.ref kl kx vr 0 rs.length/\rs≠[]/\∀L,St.get ⟨A,false,L⟩ kl kx=some (.arr 5 vr (rs.map Ro.av)))) (hrs:∀r∈rs,RootOk N r/\r.m.b<=900) (hrl:rs.length<65536) (l:List Stp) (hl:l.length<=30) (ht:∀s∈l,s.text.length<=200) {Q:Qn}
 (hQ:∀ver es ts G,RInv N l l.length es ts->Q .ret [(4,.ref A.length 1 ver 0 ts.length),(5,.bool true)] ⟨A,false,.arr 3 0 [.agg [.ptr la ixa 0 0 0,.ptr lb ixb 0 0 0,rv]]::.arr 7 ver es::G⟩) :
 Ru (S Tb) p_quartolaw15_Laid_both_59.loop [.blk 0,.seq (p_quartolaw15_Laid_both_60.seq .ret)] Q [(1,.lit (l.map Stp.av)),(2,.ptr A.length 0 0 0 0),(6,.ref A.length 1 0 0 0),(7,.int .i64 0)] ⟨A,false,[.arr 3 0 [.agg [.ptr la ixa 0 0 0,.ptr lb ixb 0 0 0,rv]],.arr 7 0 []]⟩:=by
 refine Zc (α:=Nat × Nat × LV × List Tr × List Blk) (fun q=>[(1,.lit (l.map Stp.av)),(2,.ptr A.length 0 0 0 0),(6,.ref A.length 1 q.2.1 0 q.2.2.2.1.length),(7,.int .i64 q.1)])
  (fun q=>⟨A,false,.arr 3 0 [.agg [.ptr la ixa 0 0 0,.ptr lb ixb 0 0 0,rv]]::.arr 7 q.2.1 q.2.2.1::q.2.2.2.2⟩) (fun q=>RInv N l q.1 q.2.2.1 q.2.2.2.1) (fun q=>l.length-q.1) (0,0,[],[],[]) rfl rfl ⟨Nat.zero_le _,rfl,fun t ht=>by simp at ht,Nat.le_refl _⟩ ?_
 rintro⟨i,ver,es,ts,G⟩ inv
 simp only at inv ⊢
 have hile:=inv.le
 rcases Nat.lt_or_ge i l.length with hlt|hge
 rotate_left
 ·obtain rfl:i=l.length:=by omega
  repeat'(first|refine ruS Y ?_|refine isS Y ?_|refine rkS Y ?_|refine Zi Y ?_|(refine cm0 Y Y Y ?_ ?_<;>intro _<;>try omega))
  all_goals try omega
  exact hQ ver es ts G inv
 obtain⟨y,hy⟩:∃y,l[i]?=some y:=⟨l[i]'hlt,jE _⟩
 obtain⟨w,hw8,hw⟩:∃w:Nat,w<8/\w=y.what % 8:=⟨_,Nat.mod_lt _ (by decide),rfl⟩
 have hnext:∀ver' es' ts' G',RInv N l (i+1) es' ts'->∃c:Nat × Nat × LV × List Tr × List Blk,(([(1,.lit (l.map Stp.av)),(2,.ptr A.length 0 0 0 0),(6,.ref A.length 1 ver' 0 ts'.length),(7,.int .i64 ((i+1:Nat):Int))]:Env)=[(1,.lit (l.map Stp.av)),(2,.ptr A.length 0 0 0 0),(6,.ref A.length 1 c.2.1 0 c.2.2.2.1.length),(7,.int .i64 c.1)] /\
  (⟨A,false,.arr 3 0 [.agg [.ptr la ixa 0 0 0,.ptr lb ixb 0 0 0,rv]]::.arr 7 ver' es'::G'⟩:St)=⟨A,false,.arr 3 0 [.agg [.ptr la ixa 0 0 0,.ptr lb ixb 0 0 0,rv]]::.arr 7 c.2.1 c.2.2.1::c.2.2.2.2⟩)/\RInv N l c.1 c.2.2.1 c.2.2.2.1/\l.length-c.1<l.length-i :=
  fun ver' es' ts' G' h=>⟨(i+1,ver',es',ts',G'),⟨rfl,rfl⟩,h,by simp only;omega⟩
 match w,hw8,hw with
 | 0,_,hw=>exact ZvC hN h32 hR hB hrv hrs hrl l hl ht inv hlt hy hw (fun ver' es' ts' G' h=>ZIf (hnext ver' es' ts' G' h))
 | 1,_,hw=>exact ZvD hN h32 hR hB hrv hrs hrl l hl ht inv hlt hy hw (fun ver' es' ts' G' h=>ZIf (hnext ver' es' ts' G' h))
 | 2,_,hw=>exact ZvE hN h32 hR hB hrv hrs hrl l hl ht inv hlt hy hw (fun ver' es' ts' G' h=>ZIf (hnext ver' es' ts' G' h))
 | 3,_,hw=>exact ZvF hN h32 hR hB hrv hrs hrl l hl ht inv hlt hy hw (fun ver' es' ts' G' h=>ZIf (hnext ver' es' ts' G' h))
 | 4,_,hw=>exact ZvG hN h32 hR hB hrv hrs hrl l hl ht inv hlt hy hw (fun ver' es' ts' G' h=>ZIf (hnext ver' es' ts' G' h))
 | 5,_,hw=>exact ZvH hN h32 hR hB hrv hrs hrl l hl ht inv hlt hy hw (fun ver' es' ts' G' h=>ZIf (hnext ver' es' ts' G' h))
 | 6,_,hw=>exact ZvI hN h32 hR hB hrv hrs hrl l hl ht inv hlt hy hw (fun ver' es' ts' G' h=>ZIf (hnext ver' es' ts' G' h))
 | 7,_,hw=>exact Zwb hN h32 hR hB hrv hrs hrl l hl ht inv hlt hy hw (fun ver' es' ts' G' h=>ZIf (hnext ver' es' ts' G' h))
theorem ZuF:∀ {N:ZF} {o:Nat} {x:Nd},lk N o=some x->∃i:Nat,N[i]?=some (o,x)
 | [],o,x,h=>by simp[lk]at h
 | p::l,o,x,h=>by
  rw[lk]at h
  split at h
  ·rename_i q
   refine⟨0,?_⟩;rw[List.getElem?_cons_zero,<- Option.some.inj h,<- q]
  ·obtain⟨i,hi⟩:=ZuF h
   exact⟨i+1,by rw[List.getElem?_cons_succ];exact hi⟩
theorem Zwc{N:ZF}(ho:Ord N)(hl:N.length<=700):AROk (Xb N):=by
 have hb:∀i:Nat,i<700->(Xb N).blk[i]?=some ((700:Int)-1-i):=fun i hi=>by
  show ((List.range 700).map fun (j:Nat)=>((700:Nat):Int)-1-j)[i]?=_
  rw[jG,List.getElem?_range hi];rfl
 have hs:∀i:Nat,i<700->(Xb N).states[i]?=some (if i<N.length then (1:Int) else 0):=fun i hi=>by
  show ((List.range 700).map fun (j:Nat)=>if j<N.length then (1:Int) else 0)[i]?=_
  rw[jG,List.getElem?_range hi];rfl
 have hsl:(Xb N).states.length=700:=by
  show ((List.range 700).map _).length=700
  rw[List.length_map,List.length_range]
 have hg:∀i:Nat,i<700->(Xb N).gens[i]?=some 1:=fun i hi=>by
  show (List.replicate 700 (1:Int))[i]?=some 1
  rw[List.getElem?_replicate,if_pos hi]
 have hn:(Xb N).n=700-N.length:=rfl
 refine⟨?_,by rw[hsl];decide,by rw[hsl,hn];omega,?_,fun i hi=>⟨699-i,?_,?_,?_⟩,fun i j hi hj q=>?_,fun s hs'=>⟨1,hg s (by omega),by omega,?_⟩,?_,fun h x hx=>?_,?_,?_,?_⟩
 ·show 700-N.length<=((List.range 700).map _).length
  rw[List.length_map,List.length_range];omega
 ·rw[hsl]
  show (List.replicate 700 (1:Int)).length=700
  rw[List.length_replicate]
 ·rw[hb i (by omega)];congr 1;omega
 ·rw[hsl];omega
 ·rw[hs _ (by omega),if_neg (by omega)]
 ·rw[hb i (by omega),hb j (by omega)]at q
  have:=Option.some.inj q
  omega
 ·show ((1:Nat):Int)<=3;decide
 ·show (3:Int)<=_;decide
 ·obtain⟨i,hi⟩:=ZuF (N:=N) hx
  have h1:=ho i _ hi;have h2:=(List.getElem?_eq_some_iff.1 hi).1
  exact⟨i,1,by simp only at h1;omega,by rw[hsl];omega,by rw[hs i (by omega),if_pos h2],by rw[hg i (by omega)];rfl⟩
 ·show 0<=((N.length:Nat):Int)/\((N.length:Nat):Int)+((700-N.length:Nat):Int)<=0+((700:Nat):Int)
  omega
 ·show (0:Int)<=0/\(0:Int)<=900000
  omega
 ·show ((700:Nat):Int)<=16384
  omega
theorem AROk.lv{r:AR}(h:AROk r):∀l,Lv r.nodes l->l.length<=16384:=fun l hl=>h.few hl.1 hl.2
theorem AROk.nz{r:AR}(h:AROk r):∀o x,lk r.nodes o=some x->o≠0:=fun o x hx=>(h.hnd hx).2
theorem Zrw{N:ZF}(hN:GoodN N)(hK:∀l,Lv N l->l.length<=16384){r:Ro}(hr:RtOk N r)(t:Tr):(ZU4 N r t).length<=16384:=by
 unfold ZU4
 split
 ·simp
 ·rename_i h0
  obtain⟨x,x1,x2,x3,x4⟩:∃x,lk N r.at_=some x/\NdOk x/\x.h=r.h/\x.mea=r.m:=by
   rcases hr with rfl|w
   ·exact absurd Y h0
   ·exact w.2
  have:=hK _ (Zsi hN r.h r.at_ [] x x1 x3 ⟨by simp,by simp⟩)
  exact Nat.le_trans (List.length_filter_le ..) this
theorem ZQ0(w:List Nat)(hl:w.length<9223372036854775808)(st:St):S Tb JQ [.lit (w.map Z7),.lit (w.map Z7)] st=some (.bool true,st):=by
 refine Zj Y (fun A hA=>?_)
 repeat'(first|refine Yu Y ?_|refine ruS Y ?_|refine isS Y ?_|refine ZX ?_|(refine cm0 Y Y Y ?_ ?_<;>intro _<;>try omega))
 all_goals try contradiction
 refine Zc (α:=Nat) (fun i=>[(0,.lit (w.map Z7)),(1,.lit (w.map Z7)),(5,.int .i64 i)]) (fun i=>⟨A,false,[]⟩) (fun i=>i<=w.length) (fun i=>w.length-i) 0 Y Y (Nat.zero_le _) ?_
 intro i hi;replace hi:i<=w.length:=hi
 rcases Nat.lt_or_ge i w.length with hlt|hge
 ·obtain⟨k,hk⟩:∃k,w[i]?=some k:=⟨w[i]'hlt,jE _⟩
  have q:0<=((i:Nat):Int)/\w[((i:Nat):Int).toNat]?=some k:=⟨by omega,by rw[show ((i:Nat):Int).toNat=i by omega];exact hk⟩
  repeat'(first|refine Yu Y ?_|refine Z6 (f:=Z7) Y Y q (fun _=>rfl) ?_|refine ruS Y ?_|refine isS Y ?_|refine rkS Y ?_|refine Zk Y Y ?_|(refine cm0 Y Y Y ?_ ?_<;>intro _<;>try omega)|refine ZL Y Y (by omega) ?_)
  all_goals try first|contradiction|omega
  all_goals first|exact absurd Y ‹_›|exact⟨i+1,⟨rfl,rfl⟩,by omega,by omega⟩
 ·obtain rfl:i=w.length:=by omega
  repeat'(first|refine Yu Y ?_|refine ruS Y ?_|refine isS Y ?_|refine rkS Y ?_|(refine cm0 Y Y Y ?_ ?_<;>intro _<;>try omega))
  all_goals try omega
  refine ZO hA (by simp) Y Y Y Y ?_
  rfl
structure Op where
 at_:Int
 num:Int
 text:B8
def Zxz(l:List Op):Prop:=∃s∈l,300<s.text.length
noncomputable instance (l:List Op):Decidable (Zxz l):=Classical.propDecidable _
theorem Zwd{N:ZF}(hN:GoodN N)(h32:N.length<4294967296)(hr:Rd st la ixa N)(hr2:RRd st lb ixb N){rs:List Ro}
 (hrv:(rv=.nils/\rs=[])\/(rv=.ref kl kx vr 0 rs.length/\rs≠[]/\st.get kl kx=some (.arr 5 vr (rs.map Ro.av)))) (hrs:∀r∈rs,RootOk N r/\r.m.b<=900) (hrl:rs.length<65536) (l:List Stp) (hl:l.length<=30) (ht:∀s∈l,s.text.length<=200) :
 Sp Tb YW [.agg [.ptr la ixa 0 0 0,.ptr lb ixb 0 0 0,rv],.lit (l.map Stp.av)] st fun v st'=>st'=st/\∃es ts,RInv N l l.length es ts/\v=.tup [.lit (ts.map Tr.av),.bool true]:=by
 refine ZqQ Y ?_;obtain⟨A,hA⟩:∃A,A=st.A++[(st.ro,st.L)]:=⟨_,rfl⟩;rw[<- hA]
 have hLp:=fun Q hQ=>Zpm hN h32 (fun L=>hr.push hA (ro:=false) (L:=L)) (fun L=>hr2.push hA (ro:=false) (L:=L)) (rv:=rv) (rs:=rs) (kl:=kl) (kx:=kx) (vr:=vr)
  (hrv.imp id fun h=>⟨h.1,h.2.1,fun L=>ZS hA h.2.2⟩) hrs hrl l hl ht (Q:=Q) hQ
 rcases hrv with⟨rfl,rfl⟩|⟨rfl,hne,hg⟩
 all_goals repeat'(first|refine hLp _ ?_|refine ruS Y ?_|refine isS Y ?_|refine ZX ?_|refine ZJ Y Y Y ?_|refine QN Y ?_)
 all_goals intro ver es ts G inv
 all_goals skip
 all_goals exact⟨_,_,ZvB hA (.inr Y) Y Y Y (rfl:(Blk.arr 3 0 _::Blk.arr 7 ver es::G)[1]?=_) inv.elen inv.es,rfl,es,ts,inv,rfl⟩
structure BA(A:List (Bool × List Blk))(L:List Blk)(N:ZF)(it jb:Nat)(rv:AV)(kx:Nat)(rs:List Ro):Prop where
 ha:∀T,Has ⟨A,false,L++T⟩ A.length 1 (Xb N)
 hb:∀T,RHas A (L++T) 7 it N
 hx:∀T,(L++T)[jb]?=some (.arr 3 0 [.agg [.ptr A.length 6 0 0 0,.ptr A.length 11 0 0 0,rv]])
 hk:(rv=.nils/\rs=[])\/(rv=.ref A.length kx (rs.length-1) 0 rs.length/\rs≠[]/\∀T,(L++T)[kx]?=some (.arr 5 (rs.length-1) (rs.map Ro.av)))
theorem BA.app{L:List Blk}{N:ZF}{rs:List Ro}(h:BA A L N it jb rv kx rs)(T:List Blk):BA A (L++T) N it jb rv kx rs :=
 ⟨fun U=>by rw[List.append_assoc];exact h.ha _,fun U=>by rw[List.append_assoc];exact h.hb _,fun U=>by rw[List.append_assoc];exact h.hx _,h.hk.imp id fun q=>⟨q.1,q.2.1,fun U=>by rw[List.append_assoc];exact q.2.2 _⟩⟩
theorem Zwe(texts:List B8)(h4:texts.length<=4)(h9:(texts.map List.length).sum<=900)(A:List (Bool × List Blk)):
 ∃LL N it rs kx rv,S Tb XE [.lit (texts.map .str)] ⟨A,false,[]⟩=some (.tup [.agg [.ptr A.length 6 0 0 0,.ptr A.length 11 0 0 0,rv],.bool true],⟨A,false,LL⟩) /\
  BA A (LL++[.arr 3 0 [.agg [.ptr A.length 6 0 0 0,.ptr A.length 11 0 0 0,rv]]]) N it LL.length rv kx rs/\GoodN N/\AROk (Xb N)/\(∀r∈rs,RootOk N r/\r.m.b<=900)/\rs.length<=4/\N.length<=700:=by
 obtain⟨v,st',hS,L,N,Ia,Ib,rs,kx,inv,rfl,X,rfl⟩:=Zxx texts h4 h9 A []
 have hg:∀j,1<=j->j<L.length->∀T:List Blk,(L.set 0 X++T)[j]?=L[j]?:=by
  intro j h1 h2 T
  rw[jL (by simpa using h2),jS (by omega)]
 obtain⟨b,hb,hH,_⟩:=inv.pa
 have hb1:b=1:=by simp at hb;omega
 subst hb1;obtain⟨b',it,hb',hR,hI⟩:=inv.pb
 have hb2:b'=7:=by simp at hb';omega
 subst hb2;have hlt:=hH.lt;have hl11:=(List.getElem?_eq_some_iff.1 hR.h4).1;have hfew:=inv.few;rw[List.take_length]at hfew
 have hit:N≠[]->1<=it/\it<L.length:=fun q=>by
  have h1:=inv.ownb it ((hI it).2 (.inr ⟨q,rfl⟩));have h2:=(List.getElem?_eq_some_iff.1 (hR.hi q)).1
  exact⟨by simp at h1;omega,h2⟩
 refine⟨_,N,it,rs,kx,rvV A.length kx rs,hS,⟨fun T=>?_,fun T=>?_,fun T=>?_,?_⟩,inv.good,Zwc inv.ord (by omega),fun r hr=>⟨inv.roots r hr,?_⟩,by rw[inv.rlen];exact h4,by omega⟩
 ·show Has ⟨A,false,(L.set 0 X++_)++T⟩ _ _ _
  rw[List.append_assoc]
  exact hH.frame (fun i h1 h2=>hg i (by omega) (by omega) _)
 ·show RHas A ((L.set 0 X++_)++T) _ _ _
  rw[List.append_assoc]
  exact hR.frame (fun i h1 h2=>hg i (by omega) (by omega) _) (fun q=>hg it (hit q).1 (hit q).2 _)
 ·rw[List.append_assoc,List.getElem?_append_right (Nat.le_refl _),Nat.sub_self];rfl
 ·cases rs with
  | nil=>exact .inl ⟨rfl,rfl⟩
  | cons r rs =>
   obtain⟨k1,_,_,k4⟩:=inv.kb (by simp)
   simp only[List.length_nil]at k4;have kl:=(List.getElem?_eq_some_iff.1 k1).1
   refine .inr ⟨rfl,by simp,fun T=>?_⟩
   show ((L.set 0 X++_)++T)[kx]?=_
   rw[List.append_assoc,hg kx (by omega) kl];exact k1
 ·obtain⟨j,hj⟩:=List.mem_iff_getElem?.1 hr
  have hjl:=(List.getElem?_eq_some_iff.1 hj).1;rw[inv.rlen]at hjl
  have hs:texts[j]?=some (texts[j]'hjl):=by simp[hjl]
  rw[inv.rb j r _ hj hs]
  have:(texts[j]'hjl).length<=(texts.map List.length).sum:=ZmJ (List.mem_map_of_mem (List.getElem_mem _))
  omega
theorem ZuG{N:ZF}(hN:GoodN N)(hl:N.length<4294967296)(ht:VE N t)(hb:t.bytes<=65536){lv ix:Nat}(hr:RRd st lv ix N):S Tb Qc [.ptr lv ix 0 0 0,t.av] st=some (.str (t.txt N),st):=by
 rcases ht with h|h
 ·rw[h.txt N]
  obtain⟨o,hh,m,s,k⟩:=t;obtain⟨h1,h2,h3,h4,h5⟩:=h;simp only[Tr.old,Tr.h,Tr.m,Tr.text,Tr.ks]at h1 h2 h3 h4 h5;subst h1 h2 h3 h4
  refine Zj Y (fun A hA=>?_)
  cases k
  all_goals simp only[Tr.av,Tr.avO,Tr.avL_map,Mea.zero]at *
  all_goals repeat'(first|refine ruS Y ?_|refine isS Y ?_|refine ZB Y Y Y Y ?_|refine rkS Y ?_|(refine cm0 Y Y Y ?_ ?_<;>intro _<;>try omega)|refine ZJ Y Y Y ?_)
  all_goals try first|contradiction|omega
  all_goals refine ZO hA (by simp) Y Y Y Y ?_
  all_goals rfl
 ·exact ZLA hN hl _ t h Y hb hr
theorem Zpn{N:ZF}(hN:GoodN N)(ht:VE N t)(hb:t.bytes<=65536)(st:St):S Tb Yk [t.av] st=some (.lit ((t.kwT []).map Z7),st):=by
 rcases ht with h|h
 ·obtain⟨o,hh,m,s,k⟩:=t
  obtain⟨h1,h2,h3,h4,h5⟩:=h;simp only[Tr.old,Tr.h,Tr.m,Tr.text,Tr.ks]at h1 h2 h3 h4 h5;subst h1 h2 h3 h4
  have hK:∀st,S Tb JF [(Tr.mk 0 0 .zero [] k).av] st=some (.lit (([]:List Nat).map Z7),st):=by
   intro st
   refine Zj Y (fun A hA=>?_)
   cases k with
   | none =>
    simp only[Tr.av,Tr.avO,Mea.zero]at *
    repeat'(first|refine ruS Y ?_|refine isS Y ?_|refine ZB Y Y Y Y ?_|refine rkS Y ?_|refine QG Y ?_|(refine cm0 Y Y Y ?_ ?_<;>intro _<;>try omega)|refine ZJ Y Y Y ?_|refine QN Y ?_|refine Zr ?_)
    all_goals try first|contradiction|omega
    all_goals refine Qu hA (.inr Y) Y Y (by simp) (by intro v hv;simp at hv) rfl
   | some l =>
    simp only[Option.getD]at h5;subst h5
    simp only[Tr.av,Tr.avO,Tr.avL_map,List.map_nil,Mea.zero]at *
    repeat'(first|refine ruS Y ?_|refine isS Y ?_|refine ZB Y Y Y Y ?_|refine rkS Y ?_|refine Qg Y Y ?_|(refine cm0 Y Y Y ?_ ?_<;>intro _<;>try omega)|refine ZJ Y Y Y ?_|refine QN Y ?_|refine Zr ?_)
    all_goals try first|contradiction|omega
    all_goals refine Qu hA (.inr Y) Y Y (by simp) (by intro v hv;simp at hv) rfl
  have hO:=fun st=>Zsa ([]:List Nat) (by decide) st
  have e:(Tr.mk 0 0 .zero [] k).kwT []=JI []:=by rw[Tr.kwT,Tr.kwO_getD,h5];rfl
  rw[e]
  refine Zj Y (fun A hA=>?_)
  show Ru _ _ _ (fun x e st'=>Jp false _ (x,e,st')=some (AV.lit ((JI []).map Z7),st)) _ _
  repeat'(first|refine ruS Y ?_|refine isS Y ?_|refine ZB Y Y Y Y ?_|refine rkS Y ?_|refine Za Y (ZQ _) (Zg _) ?_|refine ZA Y Y (by first|rfl|(simp only[List.nil_append,List.append_nil,List.cons_append,ZH,ZC,ZE];first|done|rfl)) (hK _) ?_|refine ZA Y Y (by first|rfl|(simp only[List.nil_append,List.append_nil,List.cons_append,ZH,ZC,ZE];first|done|rfl)) (hO _) ?_)
  all_goals refine ZO hA (by simp) Y Y Y Y ?_
  all_goals rfl
 ·exact Zq3 hN h hb st
theorem ZuH{N:ZF}(hN:GoodN N)(ht:VE N t)(hb:t.bytes<=65536):∃c:Int,(∀st,S Tb ZAI [t.av] st=some (.int .i64 c,st))/\∀st,S Tb YB [t.av] st=some (.int .i64 c,st):=by
 rcases ht with h|h
 ·refine⟨0,fun st=>?_,fun st=>?_⟩
  ·have:=ZYz (t:=t) (c:=1) h.ks (fun st=>ZBK _ h st) st
   rw[this];rfl
  ·have hZ:=fun st=>YJ t h st
   refine Zj Y (fun A hA=>?_)
   repeat'(first|refine ruS Y ?_|refine isS Y ?_|refine rkS Y ?_|refine Z5 Y Y (ZG _) ?_|refine Za Y (ZQ _) (Zg _) ?_|refine ZA Y Y (by first|rfl|(simp only[List.nil_append,List.append_nil,List.cons_append,ZH,ZC,ZE];first|done|rfl)) (hZ _) ?_)
   all_goals try contradiction
   all_goals refine ZO hA (by simp) Y Y Y Y ?_
   all_goals rfl
 ·have:=(Zw6 hN h).1
  exact⟨_,Zwu h (by omega),Zt9 h (by omega)⟩
theorem Znj{N:ZF}(h:N.length<=700):(Xb N).statsAV=ZTd N:=by
 have e:ZW6 (Xb N).states 2=[]:=by
  unfold ZW6 XD;rw[List.filter_eq_nil_iff];intro i hi q
  have q2:(Xb N).states[i]?=some 2:=by simpa using q
  obtain⟨j,_,hj⟩:=List.mem_map.1 (show (2:Int)∈(List.range 700).map fun (j:Nat)=>if j<N.length then (1:Int) else 0 from jM q2)
  split at hj<;>omega
 unfold AR.statsAV;rw[e];rfl
theorem ZuI{N:ZF}(h:N.length<=700):eqV [(0,0),(1,0),(2,0),(3,0),(4,0),(5,0),(6,0)] 0 (ZTd N) (ZTd N)=some true:=by
 have:=Zu3 (Xb N)
 rw[Znj h]at this;exact this
theorem Zwx(lv ix:Nat)(r:Ro)(t:Tr):ZE (ZH ([]++[AV.ptr lv ix 0 0 0,r.av,t.av]++[]))=some [.ptr lv ix 0 0 0,r.av,t.av]:=by
 have h:weak (AV.ptr lv ix 0 0 0)=.ptr lv ix 0 0 0:=rfl;have h2:weak r.av=r.av:=rfl;simp only[List.nil_append,List.append_nil,List.cons_append,ZH,ZC,h,h2,ZE]
theorem ZuJ{LB:List Blk}{N:ZF}{rs:List Ro}(hBA:BA A LB N it jb rv kx rs)(hN:GoodN N)(hOk:AROk (Xb N))(hl7:N.length<=700)(hrs:∀r∈rs,RootOk N r)(hrl:rs.length<=4)
 {t:Tr} (hv:VE N t) (hb:t.bytes<=9000) {v7 v8:AV} {bx:Nat} (hbx:LB[bx]?=some (.arr 7 0 [t.av])) {k:List Fr} {Q:Qn}
 (hQ:Rk (S Tb) k Q .norm [(5,.ptr A.length jb 0 0 0),(7,v7),(8,v8),(9,.ptr A.length bx 0 0 0),(12,.int .i64 rs.length),(85,.bool false)] ⟨A,false,LB⟩) :
 Ru (S Tb) p_quartolaw15_PlanPlays_22.loop (.blk 2::k) Q [(5,.ptr A.length jb 0 0 0),(7,v7),(8,v8),(9,.ptr A.length bx 0 0 0),(12,.int .i64 0)] ⟨A,false,LB⟩:=by
 have hx:LB[jb]?=some (.arr 3 0 [.agg [.ptr A.length 6 0 0 0,.ptr A.length 11 0 0 0,rv]]):=by have:=hBA.hx [];rwa [List.append_nil]at this
 have hA1:=hBA.ha [];have hB1:=(hBA.hb []).rrd;rw[List.append_nil]at hA1 hB1;have hRd:Rd ⟨A,false,LB⟩ A.length 6 N:=hA1.rd
 refine Zc (α:=Nat) (fun i=>[(5,.ptr A.length jb 0 0 0),(7,v7),(8,v8),(9,.ptr A.length bx 0 0 0),(12,.int .i64 i)]) (fun i=>⟨A,false,LB⟩) (fun i=>i<=rs.length) (fun i=>rs.length-i) 0 Y Y (Nat.zero_le _) ?_
 intro i hi;replace hi:i<=rs.length:=hi
 rcases hBA.hk with⟨rfl,rfl⟩|⟨rfl,hne,hk⟩
 ·obtain rfl:i=0:=by simpa using hi
  repeat'(first|refine ZB Y hx Y Y ?_|refine ruS Y ?_|refine isS Y ?_|refine rkS Y ?_|refine QG Y ?_|(refine cm0 Y Y Y ?_ ?_<;>intro _<;>try omega))
  all_goals try first|contradiction|omega
  all_goals exact hQ
 ·have hk0:=hk []
  rw[List.append_nil]at hk0
  rcases Nat.lt_or_ge i rs.length with hlt|hge
  ·obtain⟨r,hr⟩:∃r,rs[i]?=some r:=⟨rs[i]'hlt,jE _⟩
   have g2:(rs.map Ro.av)[0+((i:Nat):Int).toNat]?=some r.av:=by rw[show 0+((i:Nat):Int).toNat=i by omega,jG,hr];rfl
   have hro:=hrs r (jM hr)
   have hD:S Tb ZAf [.ptr A.length 6 0 0 0,r.av,t.av] ⟨A,false,LB⟩=_:=Zq4 (b:=1) hN hOk.lv hOk.nz hRd hro.rt hv (by omega)
   have hD2:S Tb J2 [.ptr A.length 11 0 0 0,r.av,t.av] ⟨A,false,LB⟩=_:=Zjh hN (by omega) hB1 hro hv (by omega)
   rw[ZoL hN hOk.nz hro hv]at hD2;have hdl:=Zrw hN hOk.lv hro.rt t
   have hE:=fun st=>ZQ0 (ZU4 N r t) (by omega) st
   generalize ZU4 N r t=dl at *
   repeat'(first|refine Zp Y ?_|refine ZB Y hx Y Y ?_|refine Xe Y Y (by omega) hk0 ?_|refine ZB Y hk0 g2 (ZRI _) ?_|refine ZB Y hbx Y (ZG _) ?_|refine ruS Y ?_|refine isS Y ?_|refine rkS Y ?_|(refine cm0 Y Y Y ?_ ?_<;>intro _<;>try omega)|(refine cm0 Y Y Y ?_ ?_<;>intro _<;>try omega)|refine ZL Y Y (by omega) ?_|refine ZA Y Y (Zwx _ _ _ _) hD ?_|refine ZA Y Y (Zwx _ _ _ _) hD2 ?_|refine ZA Y Y (by first|rfl|(simp only[List.nil_append,List.append_nil,List.cons_append,ZH,ZC,ZE];first|done|rfl)) (hE _) ?_)
   all_goals try first|contradiction|omega
   exact⟨i+1,⟨rfl,rfl⟩,by omega,by omega⟩
  ·obtain rfl:i=rs.length:=by omega
   repeat'(first|refine Zp Y ?_|refine ZB Y hx Y Y ?_|refine ruS Y ?_|refine isS Y ?_|refine rkS Y ?_|(refine cm0 Y Y Y ?_ ?_<;>intro _<;>try omega))
   all_goals try first|contradiction|omega
   all_goals exact hQ
theorem Zwf(hA:A=st.A++[(st.ro,st.L)]){LB:List Blk}{N:ZF}{rs:List Ro}(hBA:BA A LB N it jb rv kx rs)(hN:GoodN N)(hOk:AROk (Xb N))(hl7:N.length<=700)(hrs:∀r∈rs,RootOk N r)(hrl:rs.length<=4)
 (ts:List Tr) (htl:ts.length<=60) (hts:∀t∈ts,VE N t/\t.bytes<=9000) :
 Ru (S Tb) p_quartolaw15_PlanPlays_24.loop [Fr.blk 0,Fr.seq (p_quartolaw15_PlanPlays_25.seq PC.ret)] (fun x e st'=>Jp false [RV.s 4] (x,e,st')=some (AV.bool true,st))
  [(5,.ptr A.length jb 0 0 0),(7,.lit (ts.map Tr.av)),(8,.int .i64 0)] ⟨A,false,LB⟩:=by
 refine Zc (α:=Nat × List Blk) (fun q=>[(5,.ptr A.length jb 0 0 0),(7,.lit (ts.map Tr.av)),(8,.int .i64 q.1)]) (fun q=>⟨A,false,q.2⟩) (fun q=>q.1<=ts.length/\BA A q.2 N it jb rv kx rs) (fun q=>ts.length-q.1) (0,LB) Y Y ⟨Nat.zero_le _,hBA⟩ ?_
 clear hBA
 rintro⟨i,LG⟩ ⟨hi,hBA⟩
 simp only at hi hBA ⊢
 rcases Nat.lt_or_ge i ts.length with hlt|hge
 ·obtain⟨t,ht⟩:∃x,ts[i]?=some x:=⟨ts[i]'hlt,jE _⟩
  have q:0<=((i:Nat):Int)/\ts[((i:Nat):Int).toNat]?=some t:=⟨by omega,by rw[show ((i:Nat):Int).toNat=i by omega];exact ht⟩
  obtain⟨hv,hb⟩:=hts t (jM ht);have hBA2:=hBA.app [.arr 7 0 [t.av]];have hx:(LG++[Blk.arr 7 0 [t.av]])[jb]?=some (.arr 3 0 [.agg [.ptr A.length 6 0 0 0,.ptr A.length 11 0 0 0,rv]]):=hBA.hx _;have hA1:=hBA.ha [.arr 7 0 [t.av]];have hB1:RRd ⟨A,false,LG++[.arr 7 0 [t.av]]⟩ A.length 11 N:=(hBA.hb [.arr 7 0 [t.av]]).rrd;have hRd:Rd ⟨A,false,LG++[.arr 7 0 [t.av]]⟩ A.length 6 N:=hA1.rd
  have hbx:(LG++[Blk.arr 7 0 [t.av]])[LG.length]?=some (.arr 7 0 [t.av]):=List.getElem?_concat_length ..
  have hTx:=Zxd hN hRd hv (by omega)
  have hWo:=ZuG hN (by omega) hv (by omega) hB1
  obtain⟨c,hNw,hNw2⟩:=ZuH hN hv (by omega)
  have hKp:=fun st=>ZsY hv.pos.1 (Zji hN hv (by omega)) st
  have hKp2:=fun st=>Zpn hN hv (by omega) st
  have hkl:=Tr.kwT_len t []
  have hsz:=Zji hN hv (by omega)
  simp only[List.length_nil]at hkl
  have hE:=fun st=>ZQ0 (t.kwT []) (by omega) st
  have hIn:=fun k Q hQ=>ZuJ hBA2 hN hOk hl7 hrs hrl hv hb (v7:=.lit (ts.map Tr.av)) (v8:=.int .i64 i) (bx:=LG.length) hbx (k:=k) (Q:=Q) hQ
  generalize t.kwT []=kl at *
  generalize t.txt N=X at *
  repeat'(first|refine Yu Y ?_|refine Z6 (f:=Tr.av) Y Y q ZQ ?_|refine ZB Y hx Y Y ?_|refine ZB Y hbx Y (ZG _) ?_|refine hIn _ _ ?_|refine ruS Y ?_|refine isS Y ?_|refine rkS Y ?_|(refine cm0 Y Y Y ?_ ?_<;>intro _<;>try omega)|(refine cm0 Y Y Y ?_ ?_<;>intro _<;>try omega)|(refine ZCM Y Y (fun _=>?_) (fun _=>?_)<;>try contradiction)|refine ZL Y Y (by omega) ?_|refine Za Y Y Y ?_|refine Zk Y (ZG _) ?_|refine J5 Y Y Y (Zn _ _ _) (Zx _ _) Y ?_|refine ZA Y Y wkPT hTx ?_|refine ZA Y Y wkPT hWo ?_|refine Zw Y Y (ZmH _) (hNw _) ?_|refine ZA Y Y (by first|rfl|(simp only[List.nil_append,List.append_nil,List.cons_append,ZH,ZC,ZE];first|done|rfl)) (hNw2 _) ?_|refine Zw Y Y (ZmH _) (hKp _) ?_|refine ZA Y Y (by first|rfl|(simp only[List.nil_append,List.append_nil,List.cons_append,ZH,ZC,ZE];first|done|rfl)) (hKp2 _) ?_|refine ZA Y Y (by first|rfl|(simp only[List.nil_append,List.append_nil,List.cons_append,ZH,ZC,ZE];first|done|rfl)) (hE _) ?_)
  all_goals try first|contradiction|omega
  exact⟨(i+1,_),⟨rfl,rfl⟩,⟨hlt,hBA2⟩,by simp only;omega⟩
 ·obtain rfl:i=ts.length:=by omega
  have hx:LG[jb]?=some (.arr 3 0 [.agg [.ptr A.length 6 0 0 0,.ptr A.length 11 0 0 0,rv]]):=by have:=hBA.hx [];rwa [List.append_nil]at this
  have hA1:=hBA.ha [];have hB1:=hBA.hb [];rw[List.append_nil]at hA1 hB1
  have hSt:S Tb YM [.ptr A.length 6 0 0 0] (St.allRo ⟨A,false,LG⟩)=some (ZTd N,St.allRo ⟨A,false,LG⟩):=by
   have:=Zuz (b:=1) hA1.r.allRo hOk.nb hOk.n16 (by show 700-N.length<65536;omega)
   rw[Znj hl7]at this;exact this
  have hS2:S Tb JJ [.ptr A.length 11 0 0 0] ⟨A,false,LG⟩=some (ZTd N,⟨A,false,LG⟩):=ZoP (b:=7) hl7 (ZAB hB1.h0) (ZAB hB1.h4)
  have hWk:=fun st=>ZjE st
  have heq:=ZuI hl7
  generalize hgs:ZTd N=sv at *
  repeat'(first|refine Yu Y ?_|refine ZB Y hx Y Y ?_|refine QD Y Y heq Y ?_|refine ruS Y ?_|refine isS Y ?_|refine rkS Y ?_|(refine cm0 Y Y Y ?_ ?_<;>intro _<;>try omega)|refine Zw Y Y Y hSt ?_|refine ZA Y Y Y (hS2) ?_|refine ZA Y Y Y (hWk _) ?_)
  all_goals try first|contradiction|omega
  all_goals refine ZO hA (by simp) Y Y Y Y ?_
  all_goals rfl
theorem Znk(texts:List B8)(l:List Stp)(hb:texts.length<9223372036854775808/\(∀s∈texts,s.length<9223372036854775808)/\l.length<9223372036854775808/\∀s∈l,s.text.length<9223372036854775808)(st:St):
 S Tb YV [.lit (texts.map .str),.lit (l.map Stp.av)] st=some (.bool true,st):=by
 refine Zj Y (fun A hA=>?_)
 have hLo:=fun st=>Zxa texts hb.1 hb.2.1 st
 have hMa:=fun st=>Zxb l hb.2.2.1 hb.2.2.2 st
 have hWk:=fun st=>ZjE st
 by_cases hl:Zfp texts
 ·simp only[decide_eq_true hl]at hLo
  repeat'(first|refine ruS Y ?_|refine isS Y ?_|refine rkS Y ?_|refine ZA Y Y Y (hLo _) ?_|refine ZA Y Y Y (hWk _) ?_)
  all_goals try contradiction
  all_goals refine ZO hA (by simp) Y Y Y Y ?_
  all_goals rfl
 simp only[decide_eq_false hl]at hLo
 by_cases hm:Zqk l
 ·simp only[decide_eq_true hm]at hMa
  repeat'(first|refine ruS Y ?_|refine isS Y ?_|refine rkS Y ?_|refine ZA Y Y Y (hLo _) ?_|refine ZA Y Y Y (hMa _) ?_|refine ZA Y Y Y (hWk _) ?_)
  all_goals try contradiction
  all_goals refine ZO hA (by simp) Y Y Y Y ?_
  all_goals rfl
 simp only[decide_eq_false hm]at hMa;obtain⟨t4,t9⟩:=ZuB hl;obtain⟨l30,l200⟩:=ZuA hm;obtain⟨LL,N,it,rs,kx,rv,hS,hBA,hN,hOk,hrs,hrl,hl7⟩:=Zwe texts t4 t9 A;have hx:=hBA.hx [];have hA1:=hBA.ha [];have hB1:=hBA.hb [];rw[List.append_nil]at hx hA1 hB1
 obtain⟨v,st',hR,rfl,es,ts,inv,rfl⟩:=Zwd hN (by omega) hA1.rd hB1.rrd (rv:=rv) (rs:=rs) (kl:=A.length) (kx:=kx) (vr:=rs.length-1)
  (hBA.hk.imp id fun h=>⟨h.1,h.2.1,ZAB (by have:=h.2.2 [];rwa [List.append_nil]at this)⟩) hrs (by omega) l l30 l200
 have hlen:=inv.len
 have hLp:=Zwf hA hBA hN hOk hl7 (fun z hz=>(hrs z hz).1) hrl ts (by omega) (fun t ht=>⟨(inv.vb t ht).1,by have:=(inv.vb t ht).2;omega⟩)
 have hrv:=hBA.hk
 rcases hrv with⟨rfl,_⟩|⟨rfl,_,_⟩
 ·repeat'(first|refine J5 Y Y Y (ZY3 _ (Nat.lt_succ_self _)) Y Y ?_|refine ZB Y hx Y Y ?_|refine ZA Y Y Y hR ?_|exact hLp|refine ruS Y ?_|refine isS Y ?_|refine ZX ?_|refine Za Y Y Y ?_|refine ZA Y Y Y (hLo _) ?_|refine ZA Y Y Y (hMa _) ?_|refine ZA Y Y Y (hS) ?_)
  all_goals try contradiction
 ·repeat'(first|refine J5 Y Y Y (Zft _ (Nat.lt_succ_self _)) Y Y ?_|refine ZB Y hx Y Y ?_|refine ZA Y Y Y hR ?_|exact hLp|refine ruS Y ?_|refine isS Y ?_|refine ZX ?_|refine Za Y Y Y ?_|refine ZA Y Y Y (hLo _) ?_|refine ZA Y Y Y (hMa _) ?_|refine ZA Y Y Y (hS) ?_)
  all_goals try contradiction
end Go.Q15
namespace Go.QAbs
open Go.ChangeShapes Go.WideShapes Go.RowKit Go.Deep
variable {rv:AV}{A:List (Bool × List Blk)}{it ixa ixb jb kl kx la lb vr:Nat}{st:St}
variable {P:Program}
def rho0:Rho:=⟨fun _ _=>⟨0,0,0⟩,fun _=>(0,[])⟩
theorem Zrx(lv ix:Nat):St.empty.get lv ix=none:=by
 unfold St.empty St.get
 split<;>simp[vis]
theorem ZuK{W:World}{b o:Nat}{v:Value}(h:W.cell? ⟨b,o,none⟩=some v):(cx .empty rho0 W 0).im b o v :=
 ⟨h,fun ⟨lv,ix,w,ver,es,hg,_⟩=>by rw[Zrx]at hg;simp at hg⟩
theorem walk_in(hm:P.follows .mixedOrders=true){T:Tab}(hT:TabOk P T){f:FuncId}{args:LV}(h:∃st',S T f args .empty=some (.bool true,st')){W:World}{xs:List Value}(hg:KG P W (.of W))(hx:RL (cx .empty rho0 W 0) args xs):
 Calls P f xs.toArray W fun e W'=>e=.returned (.bool true)/\Below W.heap.size W W':=by
 obtain⟨st',h⟩:=h
 refine (Zvh hm hT h hg (ZrN W) hx).mono fun e' W' ⟨x,_,he,g,hv⟩=>?_
 subst he
 exact⟨by rw[Yg hv],g.rel.below.b⟩
theorem Zql{W:World}{b off len cap w:Nat}(es:LV)(g:Nat->Value)(hlen:es.length=len)(hc:len<=cap)(he:∀(i:Nat) (e:AV),es[i]?=some e->R (cx .empty rho0 W 0).pure e (g i))
 (hg:∀i,i<len->(g i).cells.size=w/\∀(j:Nat) (v:Value),(g i).cells[j]?=some v->W.cell? ⟨b,off+i*w+j,none⟩=some v):R (cx .empty rho0 W 0) (.lit es) (.slice (some ⟨b,off,none⟩) len cap):=by
 subst hlen
 exact .lit (w:=w) g he (fun i hi=>⟨(hg i hi).1,fun j v hv=>ZuK ((hg i hi).2 j v hv)⟩) hc
section
variable {H:Type}{enc:TypeId × Value->H}
theorem open_strs_arg{W:World}{base:Nat}{t e:TypeId}{v:Value}{d:DataW H}{ps:List MemPlace}(ht:P.underlying t=some (.slice e))(he:P.underlying e=some .string)(hc:P.cellsOf e=1)
 (hval:Value.okWide P W .any base t v) (h:DataW.Trod enc P W 0 (fun _=>true) true t v d ps) :
 ∃ss:List B8,(∀s∈ss,s.length<=maxLen)/\ss.length<=maxLen/\R (cx .empty rho0 W 0) (.lit (ss.map .str)) v:=by
 obtain⟨a0,len,cap,rfl⟩:=okWide_slice ht hval;obtain⟨fuel,hf⟩:=h
 rcases open_strings ht he hc hf with⟨hcs,hx⟩|⟨a,len',cap',ss,hcs,_,hl,hm,hz,hx,hcell,hsz⟩
 ·refine⟨[],by simp,by simp,?_⟩
  have:(Value.slice a0 len cap)=.slice none 0 0:=by simpa [Value.cells] using hcs
  rw[this];exact .lit0 _ _
 ·have hv:(Value.slice a0 len cap)=.slice (some a) len' cap':=by simpa [Value.cells] using hcs
  rw[hv];simp only[if_true]at hz
  refine⟨(ss.take len').map (fun s=>s.data.toList),?_,?_,?_⟩
  ·intro s hs
   obtain⟨s',hs',rfl⟩:=List.mem_map.1 hs;rw[Array.length_toList];exact hsz s' (List.mem_of_mem_take hs')
  ·rw[List.length_map,List.length_take];omega
  ·cases len' with
   | zero=>exact .lit0 _ _
   | succ n =>
    obtain⟨b,off,spot⟩:=a
    have hspot:spot=none:=by simpa [Addr.add] using World.cell?_spot (hcell 0 (by omega))
    subst hspot
    refine Zql (w:=1) _ (fun i=>.string (ss.getD i ByteArray.empty)) (by simp;omega) hl (fun i e he=>?_) (fun i hi=>⟨rfl,fun j v hv=>?_⟩)
    ·rw[jG,jG,List.getElem?_take]at he
     by_cases hi:i<n+1
     ·rw[if_pos hi]at he
      have hs:ss[i]?=some (ss.getD i ByteArray.empty):=by
       have:i<ss.length:=by omega
       simp[List.getD,this]
      rw[hs]at he;simp only[Option.map_some,Option.some.injEq]at he;subst he;rw[ZtP (ss.getD i ByteArray.empty)];exact .str _
     ·rw[if_neg hi]at he;simp at he
    ·have hj : j = 0 := by
      have:j<(Value.string (ss.getD i ByteArray.empty)).cells.size:=(Array.getElem?_eq_some_iff.1 hv).1
      simp[Value.cells]at this;omega
     subst hj
     have hv':Value.string (ss.getD i ByteArray.empty)=v:=by simpa [Value.cells] using hv
     rw[<- hv']
     have:=hcell i (by omega)
     simpa [Addr.add_lit] using this
end
end Go.QAbs
namespace Go.Proofs
open Go.Shelf
def Tryz.lays156_ren:Go.Shelf.Ren:=⟨fun|156=>152|165=>228|166=>229|169=>230|240=>261|241=>262|276=>282|277=>283|n=>n,fun|31=>22|9=>9|3=>3|4=>4|0=>0|20=>20|72=>299|76=>303|70=>297|37=>157|75=>302|127=>323|164=>342|5=>5|80=>305|n=>n,fun|n=>n⟩
theorem Tryz.lays156:Go.Proofs.Lays.n156 Tryz.prog Tryz.lays156_ren:={
 mixed:=by kernel_rfl
 f156:=Tryz.func152.trans (congrArg some (by kernel_rfl))
 f165:=Tryz.func228.trans (congrArg some (by kernel_rfl))
 f166:=Tryz.func229.trans (congrArg some (by kernel_rfl))
 f169:=Tryz.func230.trans (congrArg some (by kernel_rfl))
 f240:=Tryz.func261.trans (congrArg some (by kernel_rfl))
 f241:=Tryz.func262.trans (congrArg some (by kernel_rfl))
 f276:=Tryz.func282.trans (congrArg some (by kernel_rfl))
 f277:=Tryz.func283.trans (congrArg some (by kernel_rfl))
 t0:=Tryz.underlying0
 a0:=Tryz.isAgg0
 z0:=Tryz.sizeOf0
 v0:=Tryz.zeroValue0
 t3:=Tryz.underlying3
 a3:=Tryz.isAgg3
 z3:=Tryz.sizeOf3
 v3:=Tryz.zeroValue3
 t4:=Tryz.underlying4
 a4:=Tryz.isAgg4
 z4:=Tryz.sizeOf4
 v4:=Tryz.zeroValue4
 t9:=Tryz.underlying9
 a9:=Tryz.isAgg9
 z9:=Tryz.sizeOf9
 v9:=Tryz.zeroValue9
 t20:=Tryz.underlying20
 a20:=Tryz.isAgg20
 z20:=Tryz.sizeOf20
 v20:=Tryz.zeroValue20
 t31:=Tryz.underlying22
 a31:=Tryz.isAgg22
 z31:=Tryz.sizeOf22
 v31:=Tryz.zeroValue22
 t37:=Tryz.underlying157
 a37:=Tryz.isAgg157
 z37:=Tryz.sizeOf157
 v37:=Tryz.zeroValue157
 t70:=Tryz.underlying297
 a70:=Tryz.isAgg297
 z70:=Tryz.sizeOf297
 v70:=Tryz.zeroValue297
 t72:=Tryz.underlying299
 a72:=Tryz.isAgg299
 z72:=Tryz.sizeOf299
 v72:=Tryz.zeroValue299
 t75:=Tryz.underlying302
 a75:=Tryz.isAgg302
 z75:=Tryz.sizeOf302
 v75:=Tryz.zeroValue302
 t76:=Tryz.underlying303
 a76:=Tryz.isAgg303
 z76:=Tryz.sizeOf303
 v76:=Tryz.zeroValue303
 t127:=Tryz.underlying323
 a127:=Tryz.isAgg323
 z127:=Tryz.sizeOf323
 v127:=Tryz.zeroValue323
 t164:=Tryz.underlying342
 a164:=Tryz.isAgg342
 z164:=Tryz.sizeOf342
 v164:=Tryz.zeroValue342 }
theorem Tryz.Builder_Extra_156:Builder.Extra Tryz.prog Tryz.lays156_ren:={
 sizeBuilder:=by kernel_rfl
 liesBuilder:=by kernel_rfl
 t5:=Tryz.underlying5
 a5:=Tryz.isAgg5
 z5:=Tryz.sizeOf5
 v5:=Tryz.zeroValue5
 infoByte:=by kernel_rfl
 cellsByte:=by kernel_rfl
 sizeByte:=by kernel_rfl
 neB5:=by decide }
open Go.RowKit in
theorem Tryz.strings_Join_none(a:Option Addr)(c:Nat)(sep:ByteArray)(w:World):
 Calls Tryz.prog 152 #[.slice a 0 c,.string sep] w fun e w'=>e=.returned (.string ⟨#[]⟩)/\w'=w:=Any.strings_Join_none Tryz.lays156 Tryz.Builder_Extra_156 a c sep w
open Go.RowKit in
theorem Tryz.strings_Join(bk o c:Nat)(xs:List ByteArray)(sep:ByteArray)(w:World)(hcells:∀(j:Nat) x,xs[j]?=some x->w.cell? ⟨bk,o+j,none⟩=some (.string x))(hbk:bk<w.heap.size)(hN:xs.length<=140737488355328)(hcap:xs.length<=c)(hlen:(Lib.join (xs.map (·.data.toList)) sep.data.toList).length<=140737488355328):
 Calls Tryz.prog 152 #[.slice (some ⟨bk,o,none⟩) xs.length c,.string sep] w fun e w'=>e=.returned (.string ⟨(Lib.join (xs.map (·.data.toList)) sep.data.toList).toArray⟩)/\Below w.heap.size w w':=Any.strings_Join Tryz.lays156 Tryz.Builder_Extra_156 bk o c xs sep w hcells hbk hN hcap hlen
end Go.Proofs
namespace Go.Q15
open Go Go.QAbs
variable {rv:AV}{A:List (Bool × List Blk)}{it ixa ixb jb kl kx la lb vr:Nat}{st:St}{t:Tr}
open Go.Shelf in
def ZuL:Ren:=⟨fun|41=>179|n=>n,fun|22=>160|23=>239|n=>n,fun n=>n⟩
theorem ZuM:Go.Proofs.SlLaysE0.n41 Proofs.Tryz.prog ZuL:={
 mixed:=by kernel_rfl
 f41 := ⟨"slices.Clone[[]quarto/api.Kid,quarto/api.Kid]", by decide, Proofs.Tryz.func179.trans (congrArg some (by kernel_rfl))⟩
 t4:=Proofs.Tryz.underlying4
 a4:=Proofs.Tryz.isAgg4
 z4:=Proofs.Tryz.sizeOf4
 v4:=Proofs.Tryz.zeroValue4
 t22:=Proofs.Tryz.underlying160
 a22:=Proofs.Tryz.isAgg160
 z22:=Proofs.Tryz.sizeOf160
 v22:=Proofs.Tryz.zeroValue160 }
theorem ZuN:∃i z,Proofs.Tryz.prog.info? 239=some i/\i.zero=some z/\i.size=4/\i.bytes=32/\z.cells.size=4:=⟨_,_,rfl,rfl,rfl,rfl,rfl⟩
theorem Zpo:Zil Proofs.Tryz.prog Zu (.base (ZIe 4)):=by
 obtain⟨i,z,h1,h2,h3,h4,h5⟩:=ZuN
 refine ZtQ (T:=239) (fun n c W=>Go.Proofs.AnyE.slices_Clone_nil ZuM n c W) fun ad n c news W hl hn hc ho=>?_
 exact ZrP ZuM i z 4 32 h1 h2 h3 h4 h5 (by decide) Proofs.Tryz.sizeOf239 ad n c news W hl (by unfold maxLen;omega) (by omega) hc ho
theorem Zxf:Zmc Proofs.Tryz.prog tl:=⟨⟨Proofs.Tryz.call179,Zpo⟩,⟨Proofs.Tryz.call152,Zvj Proofs.Tryz.strings_Join_none Proofs.Tryz.strings_Join⟩,Zv1⟩
theorem Tb_ok:TabOk Proofs.Tryz.prog Tb:=ZtO Zxf
end Go.Q15
namespace Go.QAbs
open Go.ChangeShapes Go.WideShapes Go.RowKit Go.Deep
variable {rv:AV}{A:List (Bool × List Blk)}{it ixa ixb jb kl kx la lb vr:Nat}{st:St}
variable {P:Program}
section
variable {H:Type}{enc:TypeId × Value->H}
theorem open_steps_arg{W:World}{base:Nat}{t e t0 t1 t2 t3:TypeId}{f0 f1 f2 f3:Field}{v:Value}{d:DataW H}{ps:List MemPlace}(ht:P.underlying t=some (.slice e))(he:P.underlying e=some (.struct #[f0,f1,f2,f3]))(hc:P.cellsOf e=4)
 (hf0:f0.type=t0/\f0.offset=0/\P.underlying t0=some (.int .u8)/\P.cellsOf t0=1) (hf1:f1.type=t1/\f1.offset=1/\P.underlying t1=some (.int .i64)/\P.cellsOf t1=1) (hf2:f2.type=t2/\f2.offset=2/\P.underlying t2=some (.int .i64)/\P.cellsOf t2=1)
 (hf3:f3.type=t3/\f3.offset=3/\P.underlying t3=some .string/\P.cellsOf t3=1) (hval:Value.okWide P W .any base t v) (h:DataW.Trod enc P W 0 (fun _=>true) true t v d ps) :
 ∃l:List (Nat × Int × Int × B8),(∀s∈l,s.2.2.2.length<=maxLen)/\l.length<=maxLen/\R (cx .empty rho0 W 0) (.lit (l.map fun q=>.agg [.int .u8 q.1,.int .i64 q.2.1,.int .i64 q.2.2.1,.str q.2.2.2])) v:=by
 obtain⟨a0,len,cap,rfl⟩:=okWide_slice ht hval;obtain⟨fuel,hf⟩:=h
 rcases open_slice ht hf with⟨hcs,hx⟩|⟨a,len',cap',m,n,D,Pl,hcs,_,hl,hm,hmm,hx,hall⟩
 ·refine⟨[],by simp,by simp,?_⟩
  have:(Value.slice a0 len cap)=.slice none 0 0:=by simpa [Value.cells] using hcs
  rw[this];exact .lit0 _ _
 ·have hv:(Value.slice a0 len cap)=.slice (some a) len' cap':=by simpa [Value.cells] using hcs
  rw[hv];simp only[if_true]at hmm;subst hmm;rw[hc]at hall
  have each:∀i,i<len'->∃q:Nat × Int × Int × B8,q.2.2.2.length<=maxLen/\W.cell? (a.add (i*4))=some (.int .u8 q.1)/\W.cell? (a.add (i*4+1))=some (.int .i64 q.2.1)/\W.cell? (a.add (i*4+2))=some (.int .i64 q.2.2.1)/\W.cell? (a.add (i*4+3))=some (.string ⟨q.2.2.2.toArray⟩):=by
   intro i hi
   obtain⟨cs',h1,h2⟩:=hall i (by omega)
   obtain⟨_,hlen,hcell⟩:=World.cells?_some h1;obtain⟨xs,k,_,_,_,hxl,hfs⟩:=DataW.trod_struct he h2;have g0:=hfs 0 f0 rfl;have g1:=hfs 1 f1 rfl;have g2:=hfs 2 f2 rfl;have g3:=hfs 3 f3 rfl
   match cs',hlen,xs,hxl with
   | [c0,c1,c2,c3],_,[y0,y1,y2,y3],_ =>
    simp only[hf0.1,hf0.2.1,hf0.2.2.2,hf1.1,hf1.2.1,hf1.2.2.2,hf2.1,hf2.2.1,hf2.2.2.2,hf3.1,hf3.2.1,hf3.2.2.2,List.drop,List.take,List.getElem?_cons_zero,List.getElem?_cons_succ]at g0 g1 g2 g3;obtain⟨n0,e0,_,w0⟩:=DataW.trod_int hf0.2.2.1 g0;obtain⟨n1,e1,_,_⟩:=DataW.trod_int hf1.2.2.1 g1;obtain⟨n2,e2,_,_⟩:=DataW.trod_int hf2.2.2.1 g2;obtain⟨s,e3,_,hs⟩:=DataW.trod_string hf3.2.2.1 g3;simp only[List.cons.injEq,and_true]at e0 e1 e2 e3;subst e0;subst e1;subst e2;subst e3
    have hn0:0<=n0:=by
     simp only[Lit.wf,Bool.and_eq_true,decide_eq_true_eq]at w0;exact w0.1
    refine⟨(n0.toNat,n1,n2,s.data.toList),by simp only[Array.length_toList];exact hs,?_,?_,?_,?_⟩
    ·have:=hcell 0 (by omega)
     simp only[add_add,Nat.add_zero,List.getElem?_cons_zero]at this;rw[this];simp only[Int.toNat_of_nonneg hn0]
    ·have:=hcell 1 (by omega)
     simpa only [add_add,List.getElem?_cons_succ,List.getElem?_cons_zero] using this
    ·have:=hcell 2 (by omega)
     simpa only [add_add,List.getElem?_cons_succ,List.getElem?_cons_zero] using this
    ·have:=hcell 3 (by omega)
     simp only[add_add,List.getElem?_cons_succ,List.getElem?_cons_zero]at this;rw[this,ZtP s]
  obtain⟨q,hq⟩:=choose_lt each
  refine⟨(List.range len').map q,?_,by simp;omega,?_⟩
  ·intro s hs
   obtain⟨i,hi,rfl⟩:=List.mem_map.1 hs;exact (hq i (List.mem_range.1 hi)).1
  ·cases len' with
   | zero=>exact .lit0 _ _
   | succ len' =>
    obtain⟨b,off,spot⟩:=a
    have hspot:spot=none:=by simpa [Addr.add] using World.cell?_spot (hq 0 (by omega)).2.1
    subst hspot
    refine Zql (w:=4) _ (fun i=>.agg #[.int .u8 (q i).1,.int .i64 (q i).2.1,.int .i64 (q i).2.2.1,.string ⟨(q i).2.2.2.toArray⟩]) (by simp) hl (fun i e he=>?_) (fun i hi=>⟨by simp[Value.cells],fun j v hv=>?_⟩)
    ·rw[jG,jG]at he
     by_cases hi:i<len'+1
     ·rw[List.getElem?_range hi]at he
      simp only[Option.map_some,Option.some.injEq]at he;subst he;have hr:=RL.cons (C:=(cx .empty rho0 W 0).pure) (.int .u8 ((q i).1:Int)) (.cons (.int .i64 (q i).2.1) (.cons (.int .i64 (q i).2.2.1) (.cons (.str (q i).2.2.2) (.nil _))));exact .agg (xs:=[_,_,_,_]) hr.1 hr.2
     ·have:(List.range (len'+1))[i]?=none:=by simp;omega
      rw[this]at he;simp at he
    ·obtain⟨_,k0,k1,k2,k3⟩:=hq i hi
     have hj:j<4:=by
      have:=(Array.getElem?_eq_some_iff.1 hv).1
      simpa [Value.cells] using this
     simp only[Addr.add_lit]at k0 k1 k2 k3
     match j,hj with
     | 0,_ =>
      have:v=.int .u8 (q i).1:=by simpa [Value.cells] using hv.symm
      subst this;simpa using k0
     | 1,_ =>
      have:v=.int .i64 (q i).2.1:=by simpa [Value.cells] using hv.symm
      subst this;simpa [Nat.add_assoc] using k1
     | 2,_ =>
      have:v=.int .i64 (q i).2.2.1:=by simpa [Value.cells] using hv.symm
      subst this;simpa [Nat.add_assoc] using k2
     | 3,_ =>
      have:v=.string ⟨(q i).2.2.2.toArray⟩:=by simpa [Value.cells] using hv.symm
      subst this;simpa [Nat.add_assoc] using k3
end
end Go.QAbs
namespace Go.Q15
open Go Go.QAbs
variable {rv:AV}{A:List (Bool × List Blk)}{it ixa ixb jb kl kx la lb vr:Nat}{st:St}{t:Tr}
def Zwy(q:Nat × Int × Int × B8):Stp:=⟨q.1,q.2.1,q.2.2.1,q.2.2.2⟩
theorem planPlays_run(ss:List B8)(l:List (Nat × Int × Int × B8))(h1:∀s∈ss,s.length<=maxLen)(h2:ss.length<=maxLen)(h3:∀s∈l,s.2.2.2.length<=maxLen)(h4:l.length<=maxLen):
 ∃st',S Tb YV [.lit (ss.map .str),.lit (l.map fun q=>.agg [.int .u8 q.1,.int .i64 q.2.1,.int .i64 q.2.2.1,.str q.2.2.2])] .empty=some (.bool true,st'):=by
 have hm:maxLen<9223372036854775808:=by decide +kernel
 have:=Znk ss (l.map Zwy) ⟨by omega,fun s hs=>by have:=h1 s hs;omega,by rw[List.length_map];omega,fun s hs=>by obtain⟨q,hq,rfl⟩:=List.mem_map.1 hs;have:=h3 q hq;simp only[Zwy];omega⟩ .empty
 rw[List.map_map]at this;exact⟨_,this⟩
end Go.Q15
