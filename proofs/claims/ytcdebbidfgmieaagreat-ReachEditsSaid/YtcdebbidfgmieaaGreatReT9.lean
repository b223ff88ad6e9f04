/- A part of the proof. No condition. -/
import Derived.Test.YtcdebbidfgmieaaGreatReT8
set_option linter.unusedVariables false
set_option linter.unusedSimpArgs false
set_option maxHeartbeats 16000000
set_option maxRecDepth 100000
namespace Go.Q15
open Go Go.QAbs
variable {w:AV}{e:Env}{f g:FuncId}{a z:Int}{Q:JD}{A:List (Bool × List Blk)}{args caps:LV}{k:List Fr}{l:List Nat}{s s0:B8}{i ix la lm mx n o ver:Nat}{x:Nd}{v:Opd}{O:Orc}{ro:Ro}{st:St}{t:Tr}
def Ad(r:AR)(o:Nat):Prop:=J8 o/\r.states[o % 65536]?=some 1/\r.gens[o % 65536]?=some ((o / 65536:Nat):Int)
instance (r:AR) (o:Nat):Decidable (Ad r o):=by unfold Ad;exact inferInstance
def BU(r:AR)(o:Nat):Int:=if J8 o/\r.states[o % 65536]?=some 1 then ((o % 65536:Nat):Int) else 0
theorem OV{lv b:Nat}{r:AR}(h:HasR st lv b r)(hl:r.gens.length=r.states.length)(o:Nat)(ho:o<18446744073709551616):
 S Tb J7 [.ptr lv (b+3) 0 0 0,.int .u64 o] st=some (.tup [.int .i64 (BU r o),.bool (decide (Ad r o))],st):=by
 refine Zv Y (fun A hA=>?_);have g3:=fun L=>ZD hA (ro:=false) (L:=L) h.h3
 have g0:=fun L=>ZD hA (ro:=false) (L:=L) h.h0
 have g2:=fun L=>ZD hA (ro:=false) (L:=L) h.h2
 unfold AR.b3 at g3;unfold AR.b0 at g0;unfold AR.b2 at g2;have hw0:∀L,wIs 1 0 (St.get ⟨A,false,L⟩ lv b)=true:=fun L=>by rw[g0];rfl
 have hw2:∀L,wIs 1 0 (St.get ⟨A,false,L⟩ lv (b+2))=true:=fun L=>by rw[g2];rfl
 by_cases hh:J8 o
 ·have hS:=fun st=>Zp2 o hh st
  have hG:=fun st=>Zs9 o hh st
  rcases Nat.lt_or_ge (o % 65536) r.states.length with hlt|hge
  ·obtain⟨x,hx⟩:∃x,r.states[o % 65536]?=some x:=⟨_,jE hlt⟩
   obtain⟨y,hy⟩:∃x,r.gens[o % 65536]?=some x:=⟨_,jE (by omega)⟩
   have q0:(r.states.map (.int .u8))[0+((o % 65536:Nat):Int).toNat]?=some (AV.int .u8 x):=by
    rw[show 0+((o % 65536:Nat):Int).toNat=o % 65536 by omega,jG,hx];rfl
   have q2:(r.gens.map (.int .u64))[0+((o % 65536:Nat):Int).toNat]?=some (AV.int .u64 y):=by
    rw[show 0+((o % 65536:Nat):Int).toNat=o % 65536 by omega,jG,hy];rfl
   by_cases h1:x=1
   ·subst h1
    have e1:BU r o=((o % 65536:Nat):Int):=by unfold BU;rw[if_pos ⟨hh,hx⟩]
    by_cases h2:((o / 65536:Nat):Int)=y
    ·subst h2
     rw[e1,decide_eq_true (show Ad r o from ⟨hh,hx,hy⟩)];repeat'(first|refine ruS Y ?_|refine isS Y ?_|refine rkS Y ?_|refine Z6 Y ?_|refine cm0 Y Y Y ?_ ?_|(intro _;try omega)|refine ZA Y Y Y (hS _) ?_|refine ZA Y Y Y (hG _) ?_|refine Zk Y (g3 _) Y Y ?_|refine JH Y Y (by omega) (hw0 _) ?_|refine JH Y Y (by omega) (hw2 _) ?_|refine Zk Y (g0 _) q0 Y ?_|refine Zk Y (g2 _) q2 Y ?_)
     all_goals try omega
     all_goals try contradiction
     all_goals refine ZQ hA (by simp) Y Y Y Y ?_
     all_goals rfl
    ·rw[e1,decide_eq_false (show ¬ Ad r o from fun q=>h2 (by have:=q.2.2;rw[hy]at this;exact (Option.some.inj this).symm))]
     repeat'(first|refine ruS Y ?_|refine isS Y ?_|refine rkS Y ?_|refine Z6 Y ?_|refine cm0 Y Y Y ?_ ?_|(intro _;try omega)|refine ZA Y Y Y (hS _) ?_|refine ZA Y Y Y (hG _) ?_|refine Zk Y (g3 _) Y Y ?_|refine JH Y Y (by omega) (hw0 _) ?_|refine JH Y Y (by omega) (hw2 _) ?_|refine Zk Y (g0 _) q0 Y ?_|refine Zk Y (g2 _) q2 Y ?_)
     all_goals try omega
     all_goals try contradiction
     all_goals refine ZQ hA (by simp) Y Y Y Y ?_
     all_goals rfl
   ·have e1:BU r o=0:=by unfold BU;rw[if_neg (fun q=>h1 (by have:=q.2;rw[hx]at this;exact Option.some.inj this))]
    rw[e1,decide_eq_false (show ¬ Ad r o from fun q=>h1 (by have:=q.2.1;rw[hx]at this;exact Option.some.inj this))];repeat'(first|refine ruS Y ?_|refine isS Y ?_|refine rkS Y ?_|refine Z6 Y ?_|refine cm0 Y Y Y ?_ ?_|(intro _;try omega)|refine ZA Y Y Y (hS _) ?_|refine Zk Y (g3 _) Y Y ?_|refine JH Y Y (by omega) (hw0 _) ?_|refine Zk Y (g0 _) q0 Y ?_)
    all_goals try omega
    all_goals try contradiction
    all_goals refine ZQ hA (by simp) Y Y Y Y ?_
    all_goals rfl
  ·have hn:r.states[o % 65536]?=none:=List.getElem?_eq_none hge
   have e1:BU r o=0:=by unfold BU;rw[if_neg (fun q=>by rw[hn]at q;simp at q)]
   rw[e1,decide_eq_false (show ¬ Ad r o from fun q=>by have:=q.2.1;rw[hn]at this;simp at this)];repeat'(first|refine ruS Y ?_|refine isS Y ?_|refine rkS Y ?_|refine Z6 Y ?_|refine cm0 Y Y Y ?_ ?_|(intro _;try omega)|refine ZA Y Y Y (hS _) ?_|refine Zk Y (g3 _) Y Y ?_)
   all_goals try omega
   all_goals refine ZQ hA (by simp) Y Y Y Y ?_
   all_goals rfl
 ·have hS:=fun st=>Zp3 o ho hh st
  have e1:BU r o=0:=by unfold BU;rw[if_neg (fun q=>hh q.1)]
  rw[e1,decide_eq_false (show ¬ Ad r o from fun q=>hh q.1)];repeat'(first|refine ruS Y ?_|refine isS Y ?_|refine rkS Y ?_|refine cm0 Y Y Y ?_ ?_|(intro _;try omega)|refine ZA Y Y Y (hS _) ?_)
  all_goals try omega
  all_goals try contradiction
  all_goals refine ZQ hA (by simp) Y Y Y Y ?_
  all_goals rfl
theorem ZtS{lv b:Nat}{r:AR}(h:HasR st lv b r)(hl:r.gens.length=r.states.length)(o:Nat)(ho:o<18446744073709551616):
 S Tb Xa [.ptr lv (b+3) 0 0 0,.int .u64 o] st=some (.bool (decide (Ad r o)),st):=by
 refine Zv Y (fun A hA=>?_);have hs:=fun L=>OV (h.push hA (ro:=false) (L:=L)) hl o ho
 repeat'(first|refine ruS Y ?_|refine isS Y ?_|refine rkS Y ?_|refine Qc Y Y Y Y ?_|refine ZA Y Y Y (hs _) ?_)
 refine ZQ hA (by simp) Y Y Y Y ?_;rfl
theorem Zup{lv b:Nat}{r:AR}(h:HasR st lv b r)(hl:r.gens.length=r.states.length)(o:Nat)(ho:o<18446744073709551616):
 S Tb Ym [.ptr lv (b+5) 0 0 0,.int .u64 o] st=some (.bool (decide (Ad r o)),st):=by
 refine Zv Y (fun A hA=>?_);have hs:=fun L=>ZtS (h.push hA (ro:=false) (L:=L)) hl o ho
 have g5:=fun L=>ZD hA (ro:=false) (L:=L) h.h5
 unfold AR.b5 at g5;repeat'(first|refine ruS Y ?_|refine isS Y ?_|refine rkS Y ?_|refine Qc Y Y Y Y ?_|refine ZA Y Y Y (hs _) ?_|refine Zk Y (g5 _) Y Y ?_)
 refine ZQ hA (by simp) Y Y Y Y ?_;rfl
theorem AROk.live{r:AR}(h:AROk r)(hx:lk r.nodes o=some x):Ad r o/\o<18446744073709551616:=by
 obtain⟨s,g,k1,k2,k3,k4⟩:=h.key o x hx;obtain⟨h1,h2⟩:=h.hnd hx;have:=h.n16;have hm:o % 65536=s:=by omega
 have hd:o / 65536=g:=by omega
 unfold Ad;rw[hm,hd];refine⟨⟨h1,k3,k4⟩,?_⟩;unfold J8 at h1;omega
theorem U_{x:Nat}(h:l[i]?=some x):(l.map Zj)[0+((i:Nat):Int).toNat]?=some (.int .u64 x):=by
 rw[show 0+((i:Nat):Int).toNat=i by omega,jG,h];rfl
theorem VA{x h:Nat}(hx:l[i]?=some x)(hn:h∉l.take i)(e:x≠h):h∉l.take (i+1):=by
 rw[ZF hx,List.mem_append,List.mem_singleton];exact fun q=>q.elim hn fun q=>e q.symm
theorem ZtT{lv:Nat}(hn:n=l.length)(hg:st.get lv ix=some (.arr 1 ver (l.map Zj)))(hb:l.length<4294967296)(h:Nat):
 S Tb J3 [.ref lv ix ver 0 n,.int .u64 h] st=some (.bool (decide (h∈l)),st):=by
 refine Zv Y (fun A hA=>?_);subst hn;have g:=fun L=>ZD hA (ro:=false) (L:=L) hg
 have hw:∀L,wIs 1 ver (St.get ⟨A,false,L⟩ lv ix)=true:=fun L=>by rw[g];simp[wIs]
 repeat'(first|refine ruS Y ?_|refine isS Y ?_|refine ZO ?_)
 refine Ze (α:=Nat) (fun i=>[(0,.ref lv ix ver 0 l.length),(1,.int .u64 h),(5,.int .i64 i)]) (fun i=>⟨A,false,[]⟩) (fun i=>i<=l.length/\h∉l.take i) (fun i=>l.length-i) 0 Y Y ⟨by omega,by simp⟩ ?_;rintro i ⟨hi,hni⟩;rcases Nat.lt_or_ge i l.length with hlt|hge
 ·obtain⟨x,hx⟩:∃x,l[i]?=some x:=⟨l[i]'hlt,jE _⟩
  have q:=U_ hx;repeat'(first|refine ruS Y ?_|refine isS Y ?_|refine rkS Y ?_|refine Z6 Y ?_|refine cm0 Y Y Y ?_ ?_|(intro _;try omega)|refine ZV Y Y (by omega) ?_|refine JH Y Y (by omega) (hw _) ?_|refine Zk Y (g _) q Y ?_)
  all_goals try omega
  ·rename_i e
   obtain rfl:x=h:=by omega
   rw[decide_eq_true (jM hx)];refine ZQ hA (by simp) Y Y Y Y ?_;rfl
  ·rename_i e
   exact⟨i+1,⟨rfl,rfl⟩,⟨by omega,VA hx hni (by omega)⟩,by omega⟩
 ·obtain rfl:i=l.length:=by omega
  rw[List.take_length]at hni;rw[decide_eq_false hni];repeat'(first|refine ruS Y ?_|refine isS Y ?_|refine rkS Y ?_|refine Z6 Y ?_|refine cm0 Y Y Y ?_ ?_|(intro _;try omega))
  all_goals try omega
  refine ZQ hA (by simp) Y Y Y Y ?_;rfl
theorem ZtU(l:List Nat)(hb:l.length<4294967296)(h:Nat)(st:St):
 S Tb J3 [.lit (l.map Zj),.int .u64 h] st=some (.bool (decide (h∈l)),st):=by
 refine Zv Y (fun A hA=>?_);repeat'(first|refine ruS Y ?_|refine isS Y ?_|refine ZO ?_)
 refine Ze (α:=Nat) (fun i=>[(0,.lit (l.map Zj)),(1,.int .u64 h),(5,.int .i64 i)]) (fun i=>⟨A,false,[]⟩) (fun i=>i<=l.length/\h∉l.take i) (fun i=>l.length-i) 0 Y Y ⟨by omega,by simp⟩ ?_;rintro i ⟨hi,hni⟩;rcases Nat.lt_or_ge i l.length with hlt|hge
 ·obtain⟨x,hx⟩:∃x,l[i]?=some x:=⟨l[i]'hlt,jE _⟩
  have q:0<=((i:Nat):Int)/\l[((i:Nat):Int).toNat]?=some x:=⟨by omega,by rw[show ((i:Nat):Int).toNat=i by omega];exact hx⟩
  repeat'(first|refine QY Y Y q (fun _=>rfl) ?_|refine ruS Y ?_|refine isS Y ?_|refine rkS Y ?_|refine Z5 Y ?_|refine Zx Y Y ?_|refine cm0 Y Y Y ?_ ?_|(intro _;try omega)|refine ZV Y Y (by omega) ?_)
  all_goals try omega
  ·rename_i e
   obtain rfl:x=h:=by omega
   rw[decide_eq_true (jM hx)];refine ZQ hA (by simp) Y Y Y Y ?_;rfl
  ·rename_i e
   exact⟨i+1,⟨rfl,rfl⟩,⟨by omega,VA hx hni (by omega)⟩,by omega⟩
 ·obtain rfl:i=l.length:=by omega
  rw[List.take_length]at hni;rw[decide_eq_false hni];repeat'(first|refine ruS Y ?_|refine isS Y ?_|refine rkS Y ?_|refine Z5 Y ?_|refine cm0 Y Y Y ?_ ?_|(intro _;try omega))
  all_goals try omega
  refine ZQ hA (by simp) Y Y Y Y ?_;rfl
def ltL(n:Nat)(r:AR)(v:Nat)(ros:List Ro)(G0:List Blk)(w:Nat)(ss:List B8)(G1:List Blk):List Blk :=
 r.b0::r.b1::r.b2::r.b3 n 0::r.b4::r.b5 n 0::.arr 5 v (ros.map Ro.av)::(G0++.arr 1 w (ss.map .str)::G1)
section
variable {A:List (Bool × List Blk)}{r:AR}{v:Nat}{ros:List Ro}{G0:List Blk}{w:Nat}{ss:List B8}{G1:List Blk}
theorem GB:Has ⟨A,false,ltL A.length r v ros G0 w ss G1⟩ A.length 0 r:=Yq A [] (.arr 5 v (ros.map Ro.av)::(G0++.arr 1 w (ss.map .str)::G1)) r
theorem VB:Rd ⟨A,false,ltL A.length r v ros G0 w ss G1⟩ A.length 5 r.nodes:=(GB).r.rd
theorem Zuq(r':AR):QG ⟨A,false,ltL A.length r v ros G0 w ss G1⟩ A.length 0 r'=⟨A,false,ltL A.length r' v ros G0 w ss G1⟩:=Ib A [] (.arr 5 v (ros.map Ro.av)::(G0++.arr 1 w (ss.map .str)::G1)) r r'
theorem OW:(ltL n r v ros G0 w ss G1)[6]?=some (.arr 5 v (ros.map Ro.av)):=rfl
theorem lt_7:(ltL n r v ros G0 w ss G1)[7+G0.length]?=some (.arr 1 w (ss.map .str)):=by
 rw[show 7+G0.length=G0.length+7 by omega];show (G0++.arr 1 w (ss.map .str)::G1)[G0.length]?=_
 exact Ek _ _ _
theorem VC(b:Blk):ltL n r v ros G0 w ss G1++[b]=ltL n r v ros G0 w ss (G1++[b]):=by simp[ltL]
theorem ZtV(v':Nat)(x:Ro):(ltL n r v ros G0 w ss G1).set 6 (.arr 5 v' (ros.map Ro.av++[x.av]))=ltL n r v' (ros++[x]) G0 w ss G1:=by
 unfold ltL;rw[List.map_append];rfl
theorem ZtW(w':Nat)(s:B8):(ltL n r v ros G0 w ss G1).set (7+G0.length) (.arr 1 w' (ss.map .str++[.str s]))=ltL n r v ros G0 w' (ss++[s]) G1:=by
 rw[show 7+G0.length=G0.length+7 by omega];unfold ltL;simp only[List.set_cons_succ,List.map_append];rw[show (G0++Blk.arr 1 w (ss.map .str)::G1).set G0.length (Blk.arr 1 w' (ss.map .str++[AV.str s]))=G0++Blk.arr 1 w' (ss.map .str++[AV.str s])::G1 by simp];rfl
end
theorem ZlS{ys:List Ed}{y:Ed}(h:ys[i]?=some y):((ys.map Ed.av).drop i).take (i+1-i)=[y].map Ed.av:=by
 rw[<- List.map_drop,<- List.map_take,show i+1-i=1 by omega];obtain⟨h1,h2⟩:=List.getElem?_eq_some_iff.1 h;rw[List.drop_eq_getElem_cons h1,h2];rfl
theorem Zqa(ys:List Ed):Qy 5 (ys.map Ed.av)=true:=by
 induction ys with
 | nil=>rfl
 | cons b s ih=>rw[jC,Qy,List.all_cons];exact Bool.and_eq_true_iff.2 ⟨rfl,ih⟩
theorem VD{keep:List Nat}{is:List QAbs.PI}{d:Nat}{ys:List Ed}{y:Ed}{x a b:Opd}(hx:ZL e x=some (.lit (ys.map Ed.av)))(ha:ZL e a=some (.int .i64 i))(hb:ZL e b=some (.int .i64 z))(hz:z=i+1)(hy:ys[i]?=some y)
 (h:Is O is keep k Q ((d,.lit ([y].map Ed.av))::e) st):Is O (⟨some d,none,false,.slc 5 x (some a) (some b)⟩::is) keep k Q e st:=by
 have hlt:=(List.getElem?_eq_some_iff.1 hy).1;refine Ky (r:=i+1) (l:=i) hx ?_ ?_ (Zqa _) ?_
 ·simp only[AK,ZB hb,JT,List.length_map]
  rw[if_pos (by omega)];congr 1;omega
 ·simp only[AK,ZB ha,JT]
  rw[if_pos (by omega)];rfl
 ·rw[ZlS hy];exact h
theorem Zus{texts:List B8}{ys:List Ed}(hl:¬ Cq texts)(hm:¬ Dd ys):(texts.flatten.length<=900/\texts.length<=4)/\ys.length<=60/\∀y∈ys,y.text.length<=200:=by
 refine⟨?_,ZqU hm⟩;have:=ZqV hl;rw[List.length_flatten];omega
theorem ZlT{texts:List B8}(h9:texts.flatten.length<=900):∀s∈texts,s.length<=900:=by
 intro s hs;obtain⟨i,hi,rfl⟩:=List.getElem_of_mem hs;have h1:=DZ (l:=texts) (jE hi);have h2:=Cp texts (i+1);rw[h1,lL]at h2;omega
def AO(o:Nat):ZC->ZC
 | []=>[]
 | p::l=>if p.1=o then l else p::AO o l
theorem ZlU(o:Nat):∀N:ZC,Af (.int .u64 o) (N.map nodeAV)=some ((AO o N).map nodeAV):=by
 intro N;induction N with
 | nil=>rfl
 | cons p l ih =>
  rw[jC,Af,AO];have hk:Bs (.int .u64 (o:Int)) (nodeAV p).1=some (decide ((o:Int)=p.1)):=by
   simp only[nodeAV,Bs,if_true];congr 1
  rw[hk,oS];by_cases q:p.1=o
  ·rw[if_pos (by simp[q]),if_pos q]
  ·rw[if_neg (by simp;omega),if_neg q,ih];rfl
theorem GC{o h:Nat}(hne:h≠o):∀N:ZC,lk (AO o N) h=lk N h
 | []=>rfl
 | p::l=>by
  rw[AO];by_cases q:p.1=o
  ·rw[if_pos q,lk,if_neg (by omega)]
  ·rw[if_neg q,lk,lk,GC hne l]
theorem VF{o:Nat}{x:Nd}:∀ {N:ZC},lk N o=some x->(AO o N).length+1=N.length
 | [],h=>by simp[lk]at h
 | p::l,h=>by
  rw[AO];by_cases q:p.1=o
  ·rw[if_pos q];rfl
  ·rw[if_neg q]
   rw[lk,if_neg q]at h;have:=VF h;simp only[List.length_cons];omega
def AR.give(r:AR)(o:Nat):AR :=
 if r.gens[o % 65536]?=some r.most then { r with states:=r.states.set (o % 65536) 2 }
 else { r with gens:=r.gens.set (o % 65536) ((o / 65536:Nat)+1),states:=r.states.set (o % 65536) 0,blk:=r.blk.take r.n++[((o % 65536:Nat):Int)],n:=r.n+1,ver:=r.ver+1 }
def AR.del(r:AR)(o:Nat):AR:={ r.give o with nodes:=AO o r.nodes,frees:=r.frees+1 }
theorem VG{lv b:Nat}{r:AR}(h:Has st lv b r)(hl:r.gens.length=r.states.length)(hn:r.n<=r.blk.length)(hb:r.n<65536)(hv:Ad r o)(hm:((o / 65536:Nat):Int)<=r.most)(hm4:r.most<=4294967295):
 ∃z,S Tb J5 [.ptr lv (b+3) 0 0 0,.int .u64 o] st=some (.tup [.bool z,.int .i64 0],QG st lv b (r.give o)):=by
 have ho:o<18446744073709551616:=by have:=hv.1;unfold J8 at this;omega
 have hs0:BU r o=((o % 65536:Nat):Int):=by unfold BU;rw[if_pos ⟨hv.1,hv.2.1⟩]
 have hst:=(List.getElem?_eq_some_iff.1 hv.2.1).1;have hle:=h.le;have H:=h.cl;have hks:=DW lv b;have q0:(r.states.map (.int .u8))[0+((o % 65536:Nat):Int).toNat]?=some (AV.int .u8 1):=by
  rw[show 0+((o % 65536:Nat):Int).toNat=o % 65536 by omega,jG,hv.2.1];rfl
 have q2:(r.gens.map (.int .u64))[0+((o % 65536:Nat):Int).toNat]?=some (AV.int .u64 ((o / 65536:Nat):Int)):=by
  rw[show 0+((o % 65536:Nat):Int).toNat=o % 65536 by omega,jG,hv.2.2];rfl
 have eZ:0+((o % 65536:Nat):Int).toNat=o % 65536:=by omega
 by_cases hmost:((o / 65536:Nat):Int)=r.most
 ·refine⟨true,AS Y (fun A hA=>?_)⟩
  have hsl:=fun L=>OV (h.r.push hA (ro:=false) (L:=L)) hl o ho
  rw[hs0,decide_eq_true hv]at hsl;have g3:=fun L=>ZD hA (ro:=false) (L:=L) h.h3
  have g0:=fun L=>ZD hA (ro:=false) (L:=L) h.h0
  have g2:=fun L=>ZD hA (ro:=false) (L:=L) h.h2
  unfold AR.b3 at g3;unfold AR.b0 at g0;unfold AR.b2 at g2;have hw0:∀L,wIs 1 0 (St.get ⟨A,false,L⟩ lv b)=true:=fun L=>by rw[g0];rfl
  have hw2:∀L,wIs 1 0 (St.get ⟨A,false,L⟩ lv (b+2))=true:=fun L=>by rw[g2];rfl
  have hA':A=(Qo st (arK lv b) (arB lv b r)).ps:=by rw[H.same];exact hA
  have hmem:((o % 65536:Nat):Int)<r.gens.length:=by omega
  repeat'(first|refine ruS Y ?_|refine isS Y ?_|refine ZO ?_|refine cm0 Y Y Y ?_ ?_|(intro _;try omega)|refine Qc Y Y Y Y ?_|refine ZA Y Y Y (hsl _) ?_|refine Zk Y (g3 _) Y Y ?_|refine JH Y Y (by omega) (hw0 _) ?_|refine JH Y Y (by omega) (hw2 _) ?_|refine Zk Y (g2 _) q2 Y ?_)
  all_goals try first|contradiction|omega
  refine Cd H hA' Y Y (j:=0) Y Y Y Y q0 Y Y (fun A1 hA1 _=>?_);repeat'(first|refine ruS Y ?_|refine isS Y ?_|refine rkS Y ?_)
  have e:(arB lv b r).set 0 (Blk.arr 1 0 ((r.states.map (AV.int .u8)).set (0+((o % 65536:Nat):Int).toNat) (.int .u8 2)))=arB lv b (r.give o):=by
   unfold AR.give;rw[if_pos (by rw[hv.2.2,hmost]),eZ];simp[arB,AR.b0,AR.b1,AR.b2,AR.b3,AR.b4,AR.b5,List.map_set]
  rw[e]at hA1;refine ZQ hA1 (.inr Y) Y Y Y Y ?_;rfl
 ·refine⟨false,AS Y (fun A hA=>?_)⟩
  have hsl:=fun L=>OV (h.r.push hA (ro:=false) (L:=L)) hl o ho
  rw[hs0,decide_eq_true hv]at hsl;have g3:=fun L=>ZD hA (ro:=false) (L:=L) h.h3
  have g2:=fun L=>ZD hA (ro:=false) (L:=L) h.h2
  unfold AR.b3 at g3;unfold AR.b2 at g2;have hw2:∀L,wIs 1 0 (St.get ⟨A,false,L⟩ lv (b+2))=true:=fun L=>by rw[g2];rfl
  have hA':A=(Qo st (arK lv b) (arB lv b r)).ps:=by rw[H.same];exact hA
  have hmem:((o % 65536:Nat):Int)<r.gens.length:=by omega
  have hwr:IntKind.u64.wrap (((o / 65536:Nat):Int)+1)=((o / 65536:Nat):Int)+1:=by
   rw[show ((o / 65536:Nat):Int)+1=((o / 65536+1:Nat):Int) by omega];exact Fl (by omega)
  repeat'(first|refine ruS Y ?_|refine isS Y ?_|refine ZO ?_|refine cm0 Y Y Y ?_ ?_|(intro _;try omega)|refine Qc Y Y Y Y ?_|refine ZA Y Y Y (hsl _) ?_|refine Zk Y (g3 _) Y Y ?_|refine JH Y Y (by omega) (hw2 _) ?_|refine Zk Y (g2 _) q2 Y ?_|refine SW Y Y ?_)
  all_goals try first|contradiction|omega
  rw[hwr];skip
  refine Cd H hA' Y Y (j:=2) Y Y Y Y q2 Y Y (fun A1 hA1 _=>?_);have k3:=fun L=>H.old hA1 rfl rfl (ro:=false) (L:=L) (j:=3) rfl rfl
  have k0:=fun L=>H.old hA1 rfl rfl (ro:=false) (L:=L) (j:=0) rfl rfl
  have hw0:∀L,wIs 1 0 (St.get ⟨A1,false,L⟩ lv b)=true:=fun L=>by rw[k0];rfl
  unfold AR.b3 at k3;repeat'(first|refine ruS Y ?_|refine isS Y ?_|refine ZO ?_|refine Zk Y (k3 _) Y Y ?_|refine JH Y Y (by omega) (hw0 _) ?_)
  refine Cd H hA1 Y Y (j:=0) Y Y Y Y q0 Y Y (fun A2 hA2 _=>?_);have k3:=fun L=>H.old hA2 rfl rfl (ro:=false) (L:=L) (j:=3) rfl rfl
  unfold AR.b3 at k3;repeat'(first|refine ruS Y ?_|refine isS Y ?_|refine ZO ?_|refine Z7 Y Y Y Y ?_|refine Zk Y (k3 _) Y Y ?_)
  refine ZqX H hA2 Y Y (j:=1) Y Y (by rw[List.length_map];exact hn) Y Y Y Y Y (by simp;omega) (by decide) (fun A3 hA3 _=>?_);repeat'(refine isS Y ?_)
  refine Cd H hA3 Y Y (j:=3) Y Y Y Y Y (Q2 _ (Nat.lt_succ_self _)) Y (fun A4 hA4 _=>?_);repeat'(first|refine ruS Y ?_|refine isS Y ?_|refine rkS Y ?_)
  have e:((((arB lv b r).set 2 (Blk.arr 1 0 ((r.gens.map (AV.int .u64)).set (0+((o % 65536:Nat):Int).toNat) (.int .u64 (((o / 65536:Nat):Int)+1))))).set 0 (Blk.arr 1 0 ((r.states.map (AV.int .u8)).set (0+((o % 65536:Nat):Int).toNat) (.int .u8 0)))).set 1 (Blk.arr 1 (r.ver+1) ((r.blk.map (AV.int .i64)).take r.n++[AV.int .i64 ((o % 65536:Nat):Int)]))).set 3 (Blk.arr 4 0 ([AV.agg [.ref lv (b+1) r.ver 0 r.n,.ref lv b 0 0 r.states.length,.ref lv (b+2) 0 0 r.gens.length,.int .u64 r.most]].set 0 (.agg [.ref lv (b+1) (r.ver+1) 0 (r.n+1),.ref lv b 0 0 r.states.length,.ref lv (b+2) 0 0 r.gens.length,.int .u64 r.most])))=arB lv b (r.give o):=by
   unfold AR.give;rw[if_neg (by rw[hv.2.2];exact fun q=>hmost (Option.some.inj q)),eZ];simp[arB,AR.b0,AR.b1,AR.b2,AR.b3,AR.b4,AR.b5,List.map_set,List.map_take]
  replace hA4:A4=(Qo st (arK lv b) (arB lv b (r.give o))).ps:=by rw[<- e];exact hA4
  refine ZQ hA4 (.inr Y) Y Y Y Y ?_;rfl
theorem OX(r:AR)(o:Nat):(r.give o).nodes=r.nodes/\(r.give o).slots=r.slots/\(r.give o).allocs=r.allocs/\(r.give o).frees=r.frees/\(r.give o).stale=r.stale/\(r.give o).most=r.most/\(r.give o).states.length=r.states.length/\(r.give o).gens.length=r.gens.length:=by
 unfold AR.give;split<;>simp
theorem ZtX{lv b:Nat}{r:AR}(h:Has st lv b r)(hl:r.gens.length=r.states.length)(hn:r.n<=r.blk.length)(hb:r.n<65536)(hv:Ad r o)(hm:((o / 65536:Nat):Int)<=r.most)(hm4:r.most<=4294967295)(hf:0<=r.frees/\r.frees<4294967296):
 S Tb K9 [.ptr lv (b+5) 0 0 0,.int .u64 o] st=some (.int .i64 0,QG st lv b (r.del o)):=by
 refine AS Y (fun A hA=>?_);have hle:=h.le;have g5:=fun L=>ZD hA (ro:=false) (L:=L) h.h5
 unfold AR.b5 at g5;obtain⟨z,hG0⟩:=VG h hl hn hb hv hm hm4;have hG:∀L,∃z,S Tb J5 [.ptr lv (b+3) 0 0 0,.int .u64 o] ⟨A,false,L⟩=some (.tup [.bool z,.int .i64 0],QG ⟨A,false,L⟩ lv b (r.give o)):=fun L=>VG (h.push hA) hl hn hb hv hm hm4
 obtain⟨z,hG⟩:=hG [];have H:=(h.put (r.give o)).cl;obtain⟨e1,e2,e3,e4,e5,e6,e7,e8⟩:=OX r o;have hdel:=ZlU o r.nodes;repeat'(first|refine ruS Y ?_|refine isS Y ?_|refine ZO ?_|refine cm0 Y Y Y ?_ ?_|(intro _;try omega)|refine Qc Y Y Y Y ?_|refine Zk Y (g5 _) Y Y ?_|refine ZA Y Y Y (hG) ?_)
 rw[Cm hA hle];obtain⟨A1,hA1⟩:∃A1,A1=(QG st lv b (r.give o)).ps:=⟨_,rfl⟩;rw[<- hA1];replace hA1:A1=(Qo (QG st lv b (r.give o)) (arK lv b) (arB lv b (r.give o))).ps:=by rw[H.same];exact hA1
 have k5:=fun L=>H.old hA1 rfl rfl (ro:=false) (L:=L) (j:=5) rfl rfl
 unfold AR.b5 at k5;rw[e2,e3,e4,e5]at k5;have hb4:(arB lv b (r.give o))[4]?=some (.map (r.nodes.map nodeAV)):=by rw[<- e1];rfl
 repeat'(first|refine A6 Y ?_|refine Zk Y (k5 _) Y Y ?_)
 all_goals try contradiction
 refine ZqW H hA1 Y Y (j:=4) Y hb4 Y Y Y hdel (fun A2 hA2 _=>?_);have k5:=fun L=>H.old hA2 rfl rfl (ro:=false) (L:=L) (j:=5) rfl rfl
 unfold AR.b5 at k5;rw[e2,e3,e4,e5]at k5;have hb5:((arB lv b (r.give o)).set 4 (.map ((AO o r.nodes).map nodeAV)))[5]?=some (.arr 6 0 [.agg [.int .i64 r.slots,.ptr lv (b+3) 0 0 0,.map lv (b+4),.int .i64 r.allocs,.int .i64 r.frees,.int .i64 r.stale]]):=by
  rw[<- e2,<- e3,<- e4,<- e5];rfl
 repeat'(first|refine ruS Y ?_|refine isS Y ?_|refine ZO ?_|refine ZV Y Y (by omega) ?_|refine Zk Y (k5 _) Y Y ?_)
 refine Cd H hA2 Y Y (j:=5) Y hb5 Y Y Y Y Y (fun A3 hA3 _=>?_);repeat'(first|refine ruS Y ?_|refine isS Y ?_|refine rkS Y ?_)
 have e:((arB lv b (r.give o)).set 4 (Blk.map ((AO o r.nodes).map nodeAV))).set 5 (Blk.arr 6 0 ([AV.agg [.int .i64 r.slots,.ptr lv (b+3) 0 0 0,.map lv (b+4),.int .i64 r.allocs,.int .i64 r.frees,.int .i64 r.stale]].set 0 (.agg [.int .i64 r.slots,.ptr lv (b+3) 0 0 0,.map lv (b+4),.int .i64 r.allocs,.int .i64 (r.frees+1),.int .i64 r.stale])))=arB lv b (r.del o):=by
  unfold AR.del;rw[<- e2,<- e3,<- e4,<- e5];rfl
 replace hA3:A3=(QG st lv b (r.del o)).ps:=by
  rw[<- N5 (r1:=r.give o)];show A3=(Qo (QG st lv b (r.give o)) (arK lv b) (arB lv b (r.del o))).ps
  rw[<- e];exact hA3
 refine ZQ hA3 (.inr Y) Y Y Y Y ?_;rfl
theorem Zeo(l:List Int)(s:Int):∀n,n<=l.length->(Qr l s n).length=(l.take n).countP (· == s):=by
 intro n;induction n with
 | zero=>intro _;rfl
 | succ n ih =>
  intro h;obtain⟨x,hx⟩:∃x,l[n]?=some x:=⟨_,jE (by omega)⟩
  rw[F4,lL,ih (by omega),ZF hx,List.countP_append,hx];by_cases q:x=s
  ·subst q;simp
  ·rw[if_neg (fun e=>q (Option.some.inj e))];simp[q]
theorem VH(l:List Int)(s:Int):(Z2 l s).length=l.countP (· == s):=by
 unfold Z2;rw[Zeo l s _ (Nat.le_refl _),List.take_length]
structure FOk(r:AR)(l:List Nat):Prop where
 gl:r.gens.length=r.states.length
 nb:r.n<=r.blk.length
 n16:r.states.length<=16384
 live:∀o∈l,Ad r o/\((o / 65536:Nat):Int)<=r.most/\∃x,lk r.nodes o=some x
 nd:l.Nodup
 most:r.most<=4294967295
 fr:0<=r.frees/\r.frees+l.length<4294967296
 nn:r.n+l.length<=65000
theorem AROk.fok{r:AR}(h:AROk r)(hnd:l.Nodup)(hl:∀o∈l,∃x,lk r.nodes o=some x)(hb:l.length<=40000):FOk r l:=by
 have h1:=h.fr;have h2:=h.nn;have h3:=h.n16;refine⟨h.gl,h.nb,h.n16,fun o ho=>?_,hnd,h.most,by omega,by omega⟩;obtain⟨x,hx⟩:=hl o ho;obtain⟨s,g,k1,k2,k3,k4⟩:=h.key o x hx;obtain⟨g',j1,j2,j3⟩:=h.gen s k2;rw[k4]at j1;have e:(g:Int)=g':=Option.some.inj j1;have:o / 65536=g:=by omega
 exact⟨(h.live hx).1,by rw[this];omega,x,hx⟩
def Ig(r:AR)(o:Nat):Prop:=r.states[o % 65536]?≠some 1
theorem VI{r:AR}(i:Nat):(r.del o).states[i]?=some 1->i≠o % 65536/\r.states[i]?=some 1:=by
 intro h;have key:∀z:Int,z≠1->(r.states.set (o % 65536) z)[i]?=some 1->i≠o % 65536/\r.states[i]?=some 1:=by
  intro z hz q;by_cases e:i=o % 65536
  ·subst e
   rw[List.getElem?_set]at q;rw[if_pos rfl]at q;split at q
   ·exact absurd (Option.some.inj q) hz
   ·simp at q
  ·rw[jS (fun w=>e w.symm)]at q
   exact⟨e,q⟩
 unfold AR.del AR.give at h;split at h
 ·exact key 2 (by decide) h
 ·exact key 0 (by decide) h
theorem VJ{r:AR}{p:Nat}(h:Ig r p\/p=o):Ig (r.del o) p:=by
 intro q;obtain⟨q1,q2⟩:=VI _ q;rcases h with h|h
 ·exact h q2
 ·subst h;exact q1 Y
theorem FOk.del{r:AR}(h:FOk r (o::l)):FOk (r.del o) l /\
 (r.del o).n+(Z2 (r.del o).states 2).length=r.n+(Z2 r.states 2).length+1/\(r.del o).nodes.length+1=r.nodes.length:=by
 obtain⟨hv,hm,x,hx⟩:=h.live o (by simp);have hst:=(List.getElem?_eq_some_iff.1 hv.2.1).1;have hs1:=(List.getElem?_eq_some_iff.1 hv.2.1).2;obtain⟨e1,e2,e3,e4,e5,e6,e7,e8⟩:=OX r o;have hnd:=List.nodup_cons.1 h.nd;have f1:=h.fr;have f2:=h.nn;have f3:=h.nb;rw[List.length_cons]at f1 f2;have hn:((r.del o).n=r.n\/(r.del o).n=r.n+1)/\(r.del o).n<=(r.del o).blk.length:=by
  unfold AR.del AR.give;split
  ·exact⟨.inl Y,f3⟩
  ·exact⟨.inr Y,by simp;omega⟩
 refine⟨⟨?_,hn.2,?_,fun p hp=>?_,hnd.2,?_,?_,?_⟩,?_,?_⟩
 ·show (r.give o).gens.length=(r.give o).states.length;rw[e7,e8];exact h.gl
 ·show (r.give o).states.length<=_;rw[e7];exact h.n16
 ·obtain⟨pv,pm,y,hy⟩:=h.live p (List.mem_cons_of_mem _ hp)
  have hne:p≠o:=fun e=>hnd.1 (e▸hp)
  have hsl:p % 65536≠o % 65536:=fun e=>by
   have a:=pv.2.2;have c:=hv.2.2;rw[e,c]at a;have:o / 65536=p / 65536:=by have:=Option.some.inj a;omega
   omega
  refine⟨⟨pv.1,?_,?_⟩,?_,y,?_⟩
  ·show (r.give o).states[p % 65536]?=_
   unfold AR.give;split
   ·rw[jS (fun w=>hsl w.symm)];exact pv.2.1
   ·rw[jS (fun w=>hsl w.symm)];exact pv.2.1
  ·show (r.give o).gens[p % 65536]?=_
   unfold AR.give;split
   ·exact pv.2.2
   ·rw[jS (fun w=>hsl w.symm)];exact pv.2.2
  ·show _<=(r.give o).most;rw[e6];exact pm
  ·show lk (AO o r.nodes) p=some y;rw[GC hne];exact hy
 ·show (r.give o).most<=_;rw[e6];exact h.most
 ·show 0<=r.frees+1/\r.frees+1+l.length<_;omega
 ·have:=hn.1;omega
 ·rw[VH,VH]
  unfold AR.del AR.give;split
  ·show r.n+(r.states.set (o % 65536) 2).countP (· == 2)=_
   rw[List.countP_set hst,hs1];simp;omega
  ·show r.n+1+(r.states.set (o % 65536) 0).countP (· == 2)=_
   rw[List.countP_set hst,hs1];simp;omega
 ·exact VF hx
def AD(r:AR)(l:List Nat):AR:=l.foldl AR.del r
theorem Znx(r:AR)(l:List Nat)(o:Nat):AD r (l++[o])=(AD r l).del o:=by unfold AD;rw[List.foldl_append];rfl
theorem FOk.dels:∀ {l:List Nat} {r:AR} {l2:List Nat},FOk r (l++l2)->FOk (AD r l) l2/\(AD r l).n+(Z2 (AD r l).states 2).length=r.n+(Z2 r.states 2).length+l.length/\(AD r l).nodes.length+l.length=r.nodes.length/\∀o,Ig r o\/o∈l->Ig (AD r l) o:=by
 intro l;induction l with
 | nil=>intro r l2 h;exact⟨h,rfl,rfl,fun o q=>q.elim id fun w=>by simp at w⟩
 | cons a l ih =>
  intro r l2 h;obtain⟨h1,h2,h3⟩:=FOk.del h;obtain⟨i1,i2,i3,i4⟩:=ih h1;refine⟨i1,?_,?_,fun o q=>?_⟩
  ·show (AD (r.del a) l).n+(Z2 (AD (r.del a) l).states 2).length=_
   rw[List.length_cons];omega
  ·show (AD (r.del a) l).nodes.length+_=_
   rw[List.length_cons];omega
  ·refine i4 o ?_
   rcases q with q|q
   ·exact .inl (VJ (.inl q))
   ·rcases List.mem_cons.1 q with rfl|q
    ·exact .inl (VJ (.inr Y))
    ·exact .inr q
theorem Zjv:∀(n:Nat) (l:List Nat),l.Nodup->(∀x∈l,x<n)->l.length<=n:=by
 intro n;induction n with
 | zero=>intro l _ h;cases l with
  | nil=>exact Nat.le_refl _
  | cons a l=>have:=h a (by simp);omega
 | succ n ih =>
  intro l hd h;by_cases hm:n∈l
  ·have := ih (l.erase n) (hd.erase n) (fun x hx => by
    have h1:=h x (List.mem_of_mem_erase hx);have h2:x≠n:=fun e=>by subst e;exact hd.not_mem_erase hx
    omega)
   rw[List.length_erase_of_mem hm]at this;omega
  ·have := ih l hd (fun x hx => by
    have h1:=h x hx;have h2:x≠n:=fun e=>hm (e▸hx)
    omega)
   omega
theorem AROk.few{r:AR}(h:AROk r)(hd:l.Nodup)(hl:∀o∈l,∃x,lk r.nodes o=some x):l.length<=16384:=by
 have h16:=h.n16;have key:∀o∈l,Ad r o:=fun o ho=>by obtain⟨x,hx⟩:=hl o ho;exact (h.live hx).1
 have h1:(l.map (· % 65536)).Nodup:=by
  unfold List.Nodup at hd ⊢;rw[List.pairwise_map];refine hd.imp_of_mem (fun {p o} hp ho hne e=>hne ?_);have a:=(key p hp).2.2;have c:=(key o ho).2.2;rw[e,c]at a;have:=Option.some.inj a;omega
 have:=Zjv r.states.length _ h1 (fun x hx=>by
  obtain⟨o,ho,rfl⟩:=List.mem_map.1 hx;exact (List.getElem?_eq_some_iff.1 (key o ho).2.1).1)
 rw[List.length_map]at this;omega
theorem Zqc(texts:List B8)(hl:texts.flatten.length<=900):∀i,i<=texts.length->(Jw (texts.take i)).1.nodes.length+(Jw (texts.take i)).1.n=1500:=by
 intro i;induction i with
 | zero=>intro _;simp[Jw,Qq]
 | succ i ih =>
  intro hi;obtain⟨s,hs⟩:∃s,texts[i]?=some s:=⟨texts[i]'(by omega),by simp[show i<texts.length by omega]⟩
  have hl2:=Cp texts (i+1);have h:=GA texts hl i (by omega);obtain⟨hn,_⟩:=F_ (s:=s) h (by rw[<- ZF hs];omega);have hfl:=DZ hs;have hs2:s.length<=900:=by rw[hfl,lL]at hl2;omega
  obtain⟨b1,b2,b3⟩:=YY h.good (show s.length<=65536 by omega);obtain⟨w1,_⟩:=CI (Yq [] [] [] _) h.ok h.good b1 (by rw[b3];omega) hn;have h1:=w1.n;have h2:=w1.nl;have h3:=ih (by omega);rw[ZF hs,F9];show (wrV (QR s) _).1.nodes.length+(wrV (QR s) _).1.n=1500
  omega
theorem Zqd{N:ZC}(hN:GoodN N){ros:List Ro}(h:PlanOk N ros){y:Ed}(hy:y.text.length<=200){B:Int}(hB:0<=B)(hr:∀r∈ros,r.m.b<=B):(Aq N ros y).bytes<=B+200:=by
 unfold Aq
 match hq:Er ros y.n with
 | none =>
  obtain⟨b1,b2,b3⟩:=YY hN (s:=y.text) (by omega);show (QR y.text).bytes<=_;omega
 | some r =>
  have hm:=jM (show ros[_]?=some r from hq);obtain⟨h1,h2,h3,h4⟩:=h.rt r hm;have h5:=hr r hm;have p1:=Qk (x:=y.at_) h3;have p2:=Qk (x:=y.len) (n:=r.m.b-JF y.at_ r.m.b) (by omega);have:=IF hN (s:=y.text) h1.keep (a:=JF y.at_ r.m.b) (n:=JF y.len (r.m.b-JF y.at_ r.m.b)) p1.1 p2.1 (by omega) (by omega) (by omega);show (Tr.own _).bytes<=_
  rw[Ic,this.bytes];omega
namespace Tr
mutual
theorem wr_sl:∀(t:Tr) (r:AR),(t.wr r).1.states.length=r.states.length/\(t.wr r).1.slots=r.slots
 | .mk o h m s k,r=>by
  unfold wr;by_cases ho:o≠0
  ·rw[if_pos ho];exact⟨rfl,rfl⟩
  ·rw[if_neg ho]
   by_cases hh:h=0
   ·rw[if_pos hh];exact⟨by simp[AR.add,AR.alloc,AR.take],rfl⟩
   ·rw[if_neg hh]
    obtain⟨h1,h2⟩:=Zut k r;exact⟨by simp[AR.add,AR.alloc,AR.take,h1],by simp[AR.add,AR.alloc,AR.take,h2]⟩
theorem Zut:∀(k:Option (List Tr)) (r:AR),(wrO k r).1.states.length=r.states.length/\(wrO k r).1.slots=r.slots
 | none,r=>by unfold wrO;exact⟨rfl,rfl⟩
 | some l,r=>by unfold wrO;exact VK l r
theorem VK:∀(l:List Tr) (r:AR),(wrL l r).1.states.length=r.states.length/\(wrL l r).1.slots=r.slots
 | [],r=>by unfold wrL;exact⟨rfl,rfl⟩
 | t::l,r=>by
  unfold wrL;obtain⟨h1,h2⟩:=wr_sl t r;obtain⟨h3,h4⟩:=VK l (t.wr r).1;exact⟨h3.trans h1,h4.trans h2⟩
end
end Tr
theorem OY(t:Tr)(r:AR):(wrV t r).1.states.length=r.states.length/\(wrV t r).1.slots=r.slots:=by
 unfold wrV;split
 ·exact⟨rfl,rfl⟩
 ·exact t.wr_sl r
theorem Zqf(texts:List B8):(Jw texts).1.slots=1500/\(Jw texts).1.states.length=1500:=by
 unfold Jw
 suffices h:∀(l:List B8) (p:AR × List Ro),p.1.slots=1500/\p.1.states.length=1500->(l.foldl Db p).1.slots=1500/\(l.foldl Db p).1.states.length=1500 from h _ _ ⟨rfl,by simp[Qq]⟩
 intro l;induction l with
 | nil=>intro p h;exact h
 | cons s l ih =>
  intro p h;rw[List.foldl_cons];refine ih _ ?_;have:=OY (QR s) p.1;exact⟨this.2.trans h.1,this.1.trans h.2⟩
def KdP(r:AR):Prop:=∃l:List Nat,l.Nodup/\(∀h∈l,∃x,lk r.nodes h=some x)/\l.length=r.nodes.length
theorem KdP.wr{r r':AR}{c:Nat}{hs:List Nat}(h:KdP r)(w:WrB r c r' hs):KdP r':=by
 obtain⟨l,h1,h2,h3⟩:=h;refine⟨l++hs,?_,fun o ho=>?_,?_⟩
 ·rw[List.nodup_append]
  refine⟨h1,w.nodup,fun a ha b hb e=>?_⟩;subst e;obtain⟨x,hx⟩:=h2 a ha;have:=w.new a hb;rw[hx]at this;simp at this
 ·rcases List.mem_append.1 ho with q|q
  ·obtain⟨x,hx⟩:=h2 o q
   exact⟨x,w.ext o x hx⟩
  ·exact w.has o q
 ·rw[lL,h3,w.nl,w.len]
theorem Zqg(texts:List B8)(hl:texts.flatten.length<=900):∀i,i<=texts.length->KdP (Jw (texts.take i)).1:=by
 intro i;induction i with
 | zero=>intro _;exact⟨[],.nil,by simp,by simp[Jw,Qq]⟩
 | succ i ih =>
  intro hi;obtain⟨s,hs⟩:∃s,texts[i]?=some s:=⟨texts[i]'(by omega),by simp[show i<texts.length by omega]⟩
  have hl2:=Cp texts (i+1);have h:=GA texts hl i (by omega);obtain⟨hn,_⟩:=F_ (s:=s) h (by rw[<- ZF hs];omega);have hfl:=DZ hs;have hs2:s.length<=900:=by rw[hfl,lL]at hl2;omega
  obtain⟨b1,b2,b3⟩:=YY h.good (show s.length<=65536 by omega);obtain⟨w1,_⟩:=CI (Yq [] [] [] _) h.ok h.good b1 (by rw[b3];omega) hn;rw[ZF hs,F9];exact (ih (by omega)).wr w1
structure MkInv(r:AR)(ros:List Ro)(ss:List B8)(n:Nat)(B:Nat):Prop where
 ok:AROk r
 good:GoodN r.nodes
 rts:Rts r.nodes ros ss
 len:ros.length=n
 n20:n<=20
 small:∀s∈ss,s.length<=B
 nl:r.nodes.length+r.n=1500
 sl:r.slots=1500/\r.states.length=1500
 kd:KdP r
theorem MkInv.plan{r:AR}{ros:List Ro}{ss:List B8}{n B:Nat}(h:MkInv r ros ss n B)(hB:B<=60000):PlanOk r.nodes ros:=h.rts.plan h.good (by have:=h.len;have:=h.n20;omega) (fun s hs=>by have:=h.small s hs;omega)
theorem MkInv.mb{r:AR}{ros:List Ro}{ss:List B8}{n B:Nat}(h:MkInv r ros ss n B):∀ro∈ros,ro.m.b<=(B:Int):=by
 intro ro hr;obtain⟨i,hi,rfl⟩:=List.getElem_of_mem hr;have hi2:i<ss.length:=by rw[<- h.rts.1];exact hi
 have g:=h.rts.2 i _ _ (jE hi) (jE hi2);have:=(g.b h.good).2;have:=h.small _ (List.getElem_mem hi2);omega
def bel(N:ZC):Nat->Nat->List Nat->List Nat
 | 0,h,s=>if h∈s then s else s++[h]
 | n+1,h,s=>if h∈s then s else (Yb N h).ks.foldl (fun s k=>bel N n k.at_ s) (s++[h])
structure Visit(τ:List Nat->List Nat->St)(lm mx:Nat)(g:FuncId)(caps:LV):Prop where
 len:∀u w u' w',(τ u w).ps.length=(τ u' w').ps.length
 wr:∀u w,(τ u w).wr lm
 get:∀u w,(τ u w).get lm mx=some (.map (YG u))
 upd:∀u w v,(τ u w).upd lm mx (.map (YG v))=τ v w
 call:∀u w h more L,w.length<1000000000->∃v,S Tb g ([.int .u64 (h:Nat)]++caps) ⟨(τ u w).ps++more,false,L⟩=some (v,⟨(τ u (w++[h])).ps++more,false,L⟩)
 wk:∀h:Nat,ZG (ZS ([]++[.int .u64 (h:Nat)]++caps))=some ([.int .u64 (h:Nat)]++caps)
 wk2:∀la b h:Nat,ZG (ZS ([]++[.ptr la b 0 0 0,.int .u64 (h:Nat),.map lm mx,.func (.func g) [] caps]++[]))=some [.ptr la b 0 0 0,.int .u64 (h:Nat),.map lm mx,.func (.func g) [] caps]
theorem Zqi{L:List Blk}{keep:List Nat}{is:List QAbs.PI}{s0:St}{more:List (Bool × List Blk)}{x i:Opd}{lv h:Nat}{es es':List (AV × AV)}(hx:ZL e x=some (.map lv ix))(hi:ZL e i=some (.int .u64 h))(hv:ZL e v=some w)(hw:s0.wr lv)(hg:s0.get lv ix=some (.map es))
 (hs:ZI Zs (lv+1) ⟨s0.ps++more,false,L⟩ w=some (w,⟨s0.ps++more,false,L⟩)) (hp:AE (.int .u64 h) w es=some es')
 (hh:Is O is keep k Q e ⟨(s0.upd lv ix (.map es')).ps++more,false,L⟩):Is O (⟨none,none,false,.mupd 0 x i v⟩::is) keep k Q e ⟨s0.ps++more,false,L⟩:=by
 have hl:=St.get_le hg;have g':=Eo hg more false L;have w':=Ul hl hw more false L;refine Zm (od:=none) (v:=.undef) (st':=St.upd ⟨s0.ps++more,false,L⟩ lv ix (.map es')) ?_ ?_
 ·simp only[ZW,evalPO,ZB hx,ZB hi,ZB hv,BN,Jh,if_true,hs,oS,BY,g',AA,hp,St.put_upd w' g',AF]
 ·rw[Um hl];exact hh
theorem VL{N:ZC}{P:Nat}(ih:∀(h:Nat) (s:List Nat) (x:Nd),lk N h=some x->x.h=n->3*(bel N n h s).length+1<=3*s.length+P):∀(ks:List Kid) (s:List Nat),(∀k∈ks,∃y,lk N k.at_=some y/\y.h=n)->3*(ks.foldl (fun s k=>bel N n k.at_ s) s).length+ks.length<=3*s.length+ks.length*P:=by
 intro ks;induction ks with
 | nil=>intro s _;simp
 | cons k l ihl =>
  intro s hk;rw[List.foldl_cons];obtain⟨y,y1,y2⟩:=hk k (by simp);have a1:=ih k.at_ s y y1 y2;have a2:=ihl (bel N n k.at_ s) (fun z hz=>hk z (List.mem_cons_of_mem _ hz));rw[List.length_cons,Nat.add_mul];omega
theorem ZtY{N:ZC}(hN:GoodN N):∀(n h:Nat) (s:List Nat) (x:Nd),lk N h=some x->x.h=n->3*(bel N n h s).length+1<=3*s.length+4 ^ (n+1):=by
 intro n;induction n with
 | zero =>
  intro h s x hx hh;rw[bel];split
  ·omega
  ·rw[lL];simp;omega
 | succ n ih =>
  intro h s x hx hh;rw[bel,QS hx];have hp:4 ^ (n+1+1)=4*4 ^ (n+1):=by rw[Nat.pow_succ];omega
  have h1:0<4 ^ (n+1):=Nat.pow_pos (by decide);split
  ·omega
  ·have hk4:=(hN h x hx).1.len
   have hkids:=(hN h x hx).2;have:=VL ih x.ks (s++[h]) (fun k hk=>by obtain⟨_,y,y1,y2,_⟩:=hkids k hk;exact⟨y,y1,by omega⟩);rw[lL,List.length_singleton]at this;have h3:(4-x.ks.length)*4 ^ (n+1)+x.ks.length*4 ^ (n+1)=4*4 ^ (n+1):=by rw[<- Nat.add_mul];congr 1;omega
   have h4:(4-x.ks.length)*1<=(4-x.ks.length)*4 ^ (n+1):=Nat.mul_le_mul_left _ h1;generalize 4 ^ (n+1)=P at *;generalize (4-x.ks.length)*P=P1 at *;generalize x.ks.length*P=P2 at *;omega
theorem VM{τ:List Nat->List Nat->St}(hV:Visit τ lm mx g caps){N:ZC}{b:Nat}(hR:∀u w,Rd (τ u w) la (b+5) N){h:Nat}(hx:lk N h=some x)(hk4:x.ks.length<=4)(s:List Nat)(hs:h∉s)(f:Kid->List Nat->List Nat){B:Nat}(hB:B<=900000000)
 (hlen:∀i,((x.ks.take i).foldl (fun s k=>f k s) (s++[h])).length<=B)
 (hf:∀k∈x.ks,∀(s:List Nat) (more:List (Bool × List Blk)) (L:List Blk),s.length<=B->S Tb JN [.ptr la (b+5) 0 0 0,.int .u64 k.at_,.map lm mx,.func (.func g) [] caps] ⟨(τ s s).ps++more,false,L⟩=some (.int .i64 0,⟨(τ (f k s) (f k s)).ps++more,false,L⟩))
 {more:List (Bool × List Blk)} {st st':St} (hst:st.ps=(τ s s).ps++more) (hst':st'.ps=(τ (x.ks.foldl (fun s k=>f k s) (s++[h])) (x.ks.foldl (fun s k=>f k s) (s++[h]))).ps++more) :
 S Tb JN [.ptr la (b+5) 0 0 0,.int .u64 h,.map lm mx,.func (.func g) [] caps] st=some (.int .i64 0,st'):=by
 refine AS Y (fun A hA=>?_);have hA2:A=(τ s s).ps++more:=hA.trans hst;clear hA;subst hA2;have hlk:=fun L=>Cn (Eo (hV.get s s) more false L) h
 simp only[decide_eq_false hs]at hlk;have hl0:=hlen 0;simp only[List.take_zero,List.foldl_nil,lL,List.length_singleton]at hl0;repeat'(first|refine ruS Y ?_|refine isS Y ?_|refine ZO ?_|refine YI Y Y (hlk _) ?_)
 all_goals try contradiction
 refine Zqi Y Y Y (hV.wr s s) (hV.get s s) Y (F6 h s hs) ?_;rw[hV.upd];have hG:=fun L=>Fp ((hR (s++[h]) s).more more false L) hx hk4
 have hcp:x.copy.av=.agg [.int .i64 x.h,.str x.text,.lit (x.ks.map Kid.av)]:=rfl;rw[hcp]at hG;obtain⟨v,hc⟩:=hV.call (s++[h]) s h more [.arr 3 0 [.agg [.int .i64 x.h,.str x.text,.lit (x.ks.map Kid.av)]]] (by omega);generalize hA1:(τ (s++[h]) s).ps++more=A1 at *;repeat'(first|refine ZA Y Y (hV.wk h) hc ?_|refine ruS Y ?_|refine isS Y ?_|refine ZO ?_|refine cm0 Y Y Y ?_ ?_|(intro _;try omega)|refine ZX Y Y Y ?_|refine Zg Y Y Y Y Y Y ?_|refine ZA Y Y Y (hG _) ?_)
 all_goals try contradiction
 obtain⟨A2,hA2⟩:∃A2,A2=(τ (s++[h]) (s++[h])).ps++more:=⟨_,rfl⟩
 have e12:A1.length=A2.length:=by
  have:=hV.len (s++[h]) s (s++[h]) (s++[h]);rw[<- hA1,hA2];simp only[lL]at this ⊢;omega
 rw[<- hA2,e12];repeat'(first|refine JS Y ?_|refine isS Y ?_|refine ZE Y Y Y Y ?_|refine ZO ?_|refine Kt ?_)
 refine Ze (α:=Nat × List Blk) (fun p=>[(0,.ptr la (b+5) 0 0 0),(2,.map lm mx),(3,.func (.func g) [] caps),(32,.lit (x.ks.map Kid.av)),(33,.int .i64 x.ks.length),(34,.int .i64 p.1)])
  (fun p=>⟨(τ ((x.ks.take p.1).foldl (fun s k=>f k s) (s++[h])) ((x.ks.take p.1).foldl (fun s k=>f k s) (s++[h]))).ps++more,false,.arr 3 0 [.agg [.int .i64 x.h,.str x.text,.lit (x.ks.map Kid.av)]]::p.2⟩) (fun p=>p.1<=x.ks.length) (fun p=>x.ks.length-p.1) (0,[]) rfl (by rw[hA2];rfl) (Nat.zero_le _) ?_
 rintro⟨i,G⟩ hi;simp only at hi ⊢;rcases Nat.lt_or_ge i x.ks.length with hlt|hge
 ·obtain⟨kd,hk⟩:∃k,x.ks[i]?=some k:=⟨x.ks[i]'hlt,jE _⟩
  have qk:0<=((i:Nat):Int)/\x.ks[((i:Nat):Int).toNat]?=some kd:=⟨by omega,by rw[show ((i:Nat):Int).toNat=i by omega];exact hk⟩
  have hcl:=fun L=>hf kd (jM hk) _ more L (hlen i)
  have hnx:(x.ks.take (i+1)).foldl (fun s k=>f k s) (s++[h])=f kd ((x.ks.take i).foldl (fun s k=>f k s) (s++[h])):=by
   rw[ZF hk,List.foldl_append];rfl
  rw[<- hnx]at hcl;generalize hP:(τ ((x.ks.take (i+1)).foldl (fun s k=>f k s) (s++[h])) ((x.ks.take (i+1)).foldl (fun s k=>f k s) (s++[h]))).ps++more=P at *;generalize (τ ((x.ks.take i).foldl (fun s k=>f k s) (s++[h])) ((x.ks.take i).foldl (fun s k=>f k s) (s++[h]))).ps++more=A3 at *;repeat'(first|refine QY (f:=Kid.av) Y Y qk (fun _=>rfl) ?_|refine ZA Y Y (hV.wk2 _ _ _) (hcl _) ?_|refine ruS Y ?_|refine isS Y ?_|refine rkS Y ?_|refine QU Y Y Y ?_|refine Zx Y Y ?_|refine cm0 Y Y Y ?_ ?_|(intro _;try omega)|refine ZV Y Y (by omega) ?_|refine Zi Y Y Y ?_|refine Jr Y Y Y Y Y Y ?_)
  all_goals try first|contradiction|omega
  refine⟨(i+1,G++[.arr 4 0 [kd.av]]),⟨rfl,?_⟩,by simp only;omega,by simp only;omega⟩;simp only;rw[hP];rfl
 ·obtain rfl:i=x.ks.length:=by omega
  rw[List.take_length];repeat'(first|refine ruS Y ?_|refine isS Y ?_|refine rkS Y ?_|refine cm0 Y Y Y ?_ ?_|(intro _;try omega))
  all_goals try omega
  refine ZQ (st:=st') hst'.symm (.inr Y) Y Y Y Y ?_;rfl
theorem VN{τ:List Nat->List Nat->St}(hV:Visit τ lm mx g caps){b:Nat}{h:Nat}(s:List Nat)(hs:h∈s){more:List (Bool × List Blk)}(hst:st.ps=(τ s s).ps++more):
 S Tb JN [.ptr la (b+5) 0 0 0,.int .u64 h,.map lm mx,.func (.func g) [] caps] st=some (.int .i64 0,st):=by
 refine AS Y (fun A hA=>?_);have hA2:A=(τ s s).ps++more:=hA.trans hst;have hA0:=hA;clear hA;subst hA2;have hlk:=fun L=>Cn (Eo (hV.get s s) more false L) h
 simp only[decide_eq_true hs]at hlk;repeat'(first|refine ruS Y ?_|refine isS Y ?_|refine rkS Y ?_|refine YI Y Y (hlk _) ?_)
 all_goals try contradiction
 refine ZQ (st:=st) hA0 (.inr Y) Y Y Y Y ?_;rfl
theorem VO{s t:St}(h:s.ps=t.ps):s=t:=by
 obtain⟨A,r,L⟩:=s;obtain⟨A',r',L'⟩:=t;have:=List.append_inj' h rfl;obtain⟨rfl,h2⟩:=this;simp only[List.cons.injEq,jP,and_true]at h2;obtain⟨rfl,rfl⟩:=h2;rfl
theorem VP{τ:List Nat->List Nat->St}(hV:Visit τ lm mx g caps){N:ZC}(hN:GoodN N){b:Nat}(hR:∀u w,Rd (τ u w) la (b+5) N):∀(n h:Nat) (x:Nd) (s:List Nat),lk N h=some x->x.h=n->s.length+4 ^ (n+1)<=900000000->∀ {more:List (Bool × List Blk)} {st st':St},st.ps=(τ s s).ps++more->st'.ps=(τ (bel N n h s) (bel N n h s)).ps++more ->
 S Tb JN [.ptr la (b+5) 0 0 0,.int .u64 h,.map lm mx,.func (.func g) [] caps] st=some (.int .i64 0,st'):=by
 intro n;induction n with
 | zero =>
  intro h x s hx hh hb more st st' hst hst';by_cases hm:h∈s
  ·rw[bel,if_pos hm,<- hst]at hst'
   rw[VO hst'];exact VN hV s hm hst
  ·rw[bel,if_neg hm]at hst'
   have hks:x.ks=[]:=by
    rcases (hN h x hx).1 with q|⟨m,ks,q⟩
    ·exact q.ks
    ·have e:=q.eq;subst e;simp at hh
   refine VM hV hR hx (by rw[hks];decide) s hm (fun _ s=>s) (Nat.le_refl _) (fun i=>?_) (fun k hk=>by rw[hks]at hk;simp at hk) hst (by rw[hks];exact hst');rw[hks,List.take_nil,List.foldl_nil,lL,List.length_singleton];simp at hb;omega
 | succ n ih =>
  intro h x s hx hh hb more st st' hst hst';by_cases hm:h∈s
  ·rw[bel,if_pos hm,<- hst]at hst'
   rw[VO hst'];exact VN hV s hm hst
  ·rw[bel,if_neg hm,QS hx]at hst'
   have hk4:=(hN h x hx).1.len;have hkids:=(hN h x hx).2;have hp:4 ^ (n+1+1)=4*4 ^ (n+1):=by rw[Nat.pow_succ];omega
   have h1:4<=4 ^ (n+1):=by rw[Nat.pow_succ];have:0<4 ^ n:=Nat.pow_pos (by decide);omega
   refine VM hV hR hx hk4 s hm (fun k s=>bel N n k.at_ s) (B:=900000000-4 ^ (n+1)) (by omega) (fun i=>?_) (fun k hk s' more' L hl=>?_) hst hst'
   ·have:=VL (ZtY hN n) (x.ks.take i) (s++[h]) (fun k hk=>by obtain⟨_,y,y1,y2,_⟩:=hkids k (List.mem_of_mem_take hk);exact⟨y,y1,by omega⟩)
    rw[lL,List.length_singleton]at this;have hti:(x.ks.take i).length<=4:=by rw[List.length_take];omega
    have h4:(x.ks.take i).length*4 ^ (n+1)<=4*4 ^ (n+1):=Nat.mul_le_mul_right _ hti;generalize (x.ks.take i).length*4 ^ (n+1)=P2 at *;generalize 4 ^ (n+1)=P at *;omega
   ·obtain⟨_,y,y1,y2,_⟩:=hkids k hk
    exact ih k.at_ y s' y1 (by omega) (by omega) (more:=more'++[(false,L)]) (List.append_assoc ..) (List.append_assoc ..)
theorem VQ:∀l:List Tr,(∀t∈l,4*(t.siz:Int)+4<=t.bytes)->4*(Tr.sizL l:Int)+4*l.length<=Tr.bytesL l
 | [],_=>by simp[Tr.sizL,Tr.bytesL]
 | t::l,h=>by
  have h1:=h t (by simp);have h2:=VQ l fun u hu=>h u (by simp[hu])
  simp only[Tr.sizL,Tr.bytesL,List.length_cons];omega
theorem VR{N:ZC}(hN:GoodN N)(hv:Val N t):(t.siz:Int)<=t.bytes+1/\(Big t->4*(t.siz:Int)+4<=t.bytes):=by
 have hsz:=hv.size hN;have hps:=hv.pos.2;induction hv with
 | @kept o h m k x h0 hx hok hh hm hk =>
  have ec:(Tr.mk o h m [] k).siz=1:=by rw[Tr.siz,Tr.sizO_getD,hk];rfl
  have hl:h<=16:=by
   rcases hok with q|⟨n,ks,q⟩
   ·rw[<- hh,q.h];omega
   ·have:=q.n15;have e:=q.eq;subst e;simp only at hh;omega
  rw[ec];refine⟨by omega,fun q=>?_⟩;have h1:=hsz q;have h2:=(Fm hl).1;simp only[Tr.h]at h1;omega
 | @leaf s k h1 h2 hk =>
  have ec:(Tr.mk 0 0 .zero s k).siz=1:=by rw[Tr.siz,Tr.sizO_getD,hk];rfl
  rw[ec];refine⟨by omega,fun q=>?_⟩;have:=q rfl;omega
 | @inner h l hh h2 h4 hl hb hv ih =>
  have ec:(Tr.mk 0 (h+1) .zero [] (some l)).siz=Tr.sizL l+1:=by rw[Tr.siz,Tr.sizO];omega
  have eb:(Tr.mk 0 (h+1) .zero [] (some l)).bytes=Tr.bytesL l:=by rw[Tr.bytes,Tr.bytesO];simp[Mea.zero]
  have:=VQ l fun u hu=>(ih u hu ((hv u hu).size hN) (hv u hu).pos.2).2 (fun q=>hb u hu (by rw[<- hl u hu];exact q))
  rw[ec,eb];exact⟨by omega,fun _=>by omega⟩
theorem Zql{N:ZC}(hv:Val N t):∀out:List Nat,(∀h∈out,∃x,lk N h=some x)->∀h∈t.kwT out,∃x,lk N h=some x:=by
 induction hv with
 | @kept o h m k x h0 hx hok hh hm hk =>
  intro out ho a ha;rw[Tr.kwT,Tr.kwO_getD,hk,Tr.kwL]at ha;split at ha
  ·rcases List.mem_append.1 ha with q|q
   ·exact ho a q
   ·rw[List.mem_singleton.1 q];exact⟨x,hx⟩
  ·exact ho a ha
 | @leaf s k h1 h2 hk =>
  intro out ho a ha;rw[Tr.kwT,Tr.kwO_getD,hk,Tr.kwL,if_neg (by simp)]at ha;exact ho a ha
 | @inner h l hh h2 h4 hl hb hv ih =>
  intro out ho a ha;rw[Tr.kwT,Tr.kwO,if_neg (by simp)]at ha;have key:∀(l:List Tr) (out:List Nat),(∀t∈l,∀out:List Nat,(∀h∈out,∃x,lk N h=some x)->∀h∈t.kwT out,∃x,lk N h=some x)->(∀h∈out,∃x,lk N h=some x)->∀a∈Tr.kwL l out,∃x,lk N a=some x:=by
   intro l;induction l with
   | nil=>intro out _ ho a ha;exact ho a ha
   | cons t l ihl =>
    intro out hi ho a ha;rw[Tr.kwL]at ha;exact ihl (t.kwT out) (fun u hu=>hi u (List.mem_cons_of_mem _ hu)) (hi t (by simp) out ho) a ha
  exact key l out ih ho a ha
theorem Zvq(h:Nat)(st:St):S Tb YT [.int .u64 h] st=some (.tup [],st):=by
 refine Zv Y (fun A hA=>?_);repeat'(first|refine HI ?_|refine B3 ?_)
 refine ZQ hA (by simp) Y Y Y Y ?_;rfl
def dr1(A:List (Bool × List Blk))(b4 b5 b8:Blk)(u:List Nat):St:=⟨A,false,[b4,b5,b8,.map (YG u),.arr 1 0 [.map A.length 3]]⟩
def dr2(A:List (Bool × List Blk))(b4 b5 b8:Blk)(has u o:List Nat):St:=⟨A,false,[b4,b5,b8,.map (YG has),.arr 1 0 [.map A.length 3],.arr 1 o.length (o.map Zj),.arr 1 0 [.ref A.length 5 o.length 0 o.length],.map (YG u)]⟩
theorem Zuu(A:List (Bool × List Blk))(b4 b5 b8:Blk):Visit (fun u _=>dr1 A b4 b5 b8 u) A.length 3 YT [] where
 len _ _ _ _:=by simp[dr1]
 wr _ _:=by simp[St.wr,dr1]
 get _ _:=St.get_cur ..
 upd _ _ _:=by simp[St.upd,dr1]
 call u w h more L _:=⟨_,Zvq h _⟩
 wk _:=rfl
 wk2 _ _ _:=rfl
theorem Zuv(A:List (Bool × List Blk))(b4 b5 b8:Blk)(has u o:List Nat):Cl (dr2 A b4 b5 b8 has u o) [(A.length,5),(A.length,6)] [.arr 1 o.length (o.map Zj),.arr 1 0 [.ref A.length 5 o.length 0 o.length]]:=by
 refine⟨by simp,rfl,fun k hk=>?_,fun j lv ix b h1 h2=>?_⟩
 ·simp only[List.mem_cons,List.not_mem_nil,or_false]at hk
  rcases hk with rfl|rfl<;>simp[St.wr,dr2]
 ·match j,h1,h2 with
  | 0,h1,h2=>obtain⟨rfl,rfl⟩:=Prod.mk.inj (Option.some.inj h1);obtain rfl:=Option.some.inj h2;exact St.get_cur ..
  | 1,h1,h2=>obtain⟨rfl,rfl⟩:=Prod.mk.inj (Option.some.inj h1);obtain rfl:=Option.some.inj h2;exact St.get_cur ..
  | n+2,h1,h2=>simp at h1
theorem ZtZ(A:List (Bool × List Blk))(b4 b5 b8:Blk)(has u o o':List Nat):Qo (dr2 A b4 b5 b8 has u o) [(A.length,5),(A.length,6)] [.arr 1 o'.length (o'.map Zj),.arr 1 0 [.ref A.length 5 o'.length 0 o'.length]]=dr2 A b4 b5 b8 has u o':=by
 simp[Qo,St.upd,dr2]
theorem Zvr(A:List (Bool × List Blk))(b4 b5 b8:Blk)(has u o:List Nat)(h:Nat)(more:List (Bool × List Blk))(L:List Blk)(hl:o.length<1000000000):
 S Tb YU [.int .u64 h,.ptr A.length 4 0 0 0,.ptr A.length 6 0 0 0] ⟨(dr2 A b4 b5 b8 has u o).ps++more,false,L⟩=some (.tup [],⟨(dr2 A b4 b5 b8 has u (if h∈has then o else o++[h])).ps++more,false,L⟩):=by
 have H:=(Zuv A b4 b5 b8 has u o).more more false L;have hm4:St.get ⟨(dr2 A b4 b5 b8 has u o).ps++more,false,L⟩ A.length 4=some (.arr 1 0 [.map A.length 3]):=Eo (s:=dr2 A b4 b5 b8 has u o) (St.get_cur ..) more false L;have hm3:St.get ⟨(dr2 A b4 b5 b8 has u o).ps++more,false,L⟩ A.length 3=some (.map (YG has)):=Eo (s:=dr2 A b4 b5 b8 has u o) (St.get_cur ..) more false L;by_cases hm:h∈has
 ·rw[if_pos hm]
  refine Zv Y (fun A1 hA=>?_);have g4:=fun L'=>ZD hA (ro:=false) (L:=L') hm4
  have hlk:=fun L'=>Cn (ZD hA (ro:=false) (L:=L') hm3) h
  simp only[decide_eq_true hm]at hlk;repeat'(first|refine ruS Y ?_|refine isS Y ?_|refine rkS Y ?_|refine Zk Y (g4 _) Y Y ?_|refine YI Y Y (hlk _) ?_)
  all_goals try contradiction
  refine ZQ hA (by simp) Y Y Y Y ?_;rfl
 ·rw[if_neg hm]
  have e:Qo ⟨(dr2 A b4 b5 b8 has u o).ps++more,false,L⟩ [(A.length,5),(A.length,6)] [.arr 1 (o++[h]).length ((o++[h]).map Zj),.arr 1 0 [.ref A.length 5 (o++[h]).length 0 (o++[h]).length]]=⟨(dr2 A b4 b5 b8 has u (o++[h])).ps++more,false,L⟩:=by
   rw[IW (fun k hk=>by simp only[List.mem_cons,List.not_mem_nil,or_false]at hk;rcases hk with rfl|rfl<;>exact Nat.le_refl _),ZtZ]
  rw[<- e];refine AS Y (fun A1 hA=>?_);have hA':A1=(Qo ⟨(dr2 A b4 b5 b8 has u o).ps++more,false,L⟩ [(A.length,5),(A.length,6)] [.arr 1 o.length (o.map Zj),.arr 1 0 [.ref A.length 5 o.length 0 o.length]]).ps:=by rw[H.same];exact hA
  have g4:=fun L'=>ZD hA (ro:=false) (L:=L') hm4
  have hlk:=fun L'=>Cn (ZD hA (ro:=false) (L:=L') hm3) h
  simp only[decide_eq_false hm]at hlk;have g6:=fun L'=>H.old hA' rfl rfl (ro:=false) (L:=L') (j:=1) rfl rfl
  repeat'(first|refine ruS Y ?_|refine isS Y ?_|refine ZO ?_|refine Z7 Y Y Y Y ?_|refine Zk Y (g4 _) Y Y ?_|refine YI Y Y (hlk _) ?_|refine Zk Y (g6 _) Y Y ?_)
  all_goals try contradiction
  refine NZ (es:=o.map Zj) (ys:=[.int .u64 h]) H hA' Y Y (j:=0) Y Y (by rw[List.length_map];rfl) rfl rfl rfl rfl (by rw[List.length_map,List.length_singleton];omega) (by decide) (fun A2 hA2 _=>?_);skip
  refine Cd H hA2 Y Y (j:=1) Y Y Y Y Y (Q2 _ (Nat.lt_succ_self _)) Y (fun A3 hA3 _=>?_);repeat'(first|refine Jg Y ?_|refine B3 ?_)
  have e3:((([Blk.arr 1 o.length (o.map Zj),Blk.arr 1 0 [.ref A.length 5 o.length 0 o.length]].set 0 (.arr 1 (o.length+1) (o.map Zj++[.int .u64 h]))).set 1 (.arr 1 0 ([AV.ref A.length 5 o.length 0 o.length].set 0 (.ref A.length 5 (o.length+1) 0 ((o.map Zj).length+[AV.int .u64 (h:Int)].length))))))=[.arr 1 (o++[h]).length ((o++[h]).map Zj),.arr 1 0 [.ref A.length 5 (o++[h]).length 0 (o++[h]).length]]:=by
   simp[Zj]
  replace hA3:A3=(Qo ⟨(dr2 A b4 b5 b8 has u o).ps++more,false,L⟩ [(A.length,5),(A.length,6)] [.arr 1 (o++[h]).length ((o++[h]).map Zj),.arr 1 0 [.ref A.length 5 (o++[h]).length 0 (o++[h]).length]]).ps:=by rw[<- e3];exact hA3
  refine ZQ hA3 (.inl Y) Y Y Y Y ?_;rfl
theorem Zuw(A:List (Bool × List Blk))(b4 b5 b8:Blk)(has:List Nat):Visit (fun u w=>dr2 A b4 b5 b8 has u (w.filter fun h=>decide (h∉has))) A.length 7 YU [.ptr A.length 4 0 0 0,.ptr A.length 6 0 0 0] where
 len _ _ _ _:=by simp[dr2]
 wr _ _:=by simp[St.wr,dr2]
 get _ _:=St.get_cur ..
 upd _ _ _:=by simp[St.upd,dr2]
 call u w h more L hl:=by
  refine⟨.tup [],(Zvr A b4 b5 b8 has u (w.filter fun h=>decide (h∉has)) h more L (Nat.lt_of_le_of_lt (List.length_filter_le ..) hl)).trans ?_⟩;rw[List.filter_append];by_cases hm:h∈has
  ·rw[if_pos hm,show ([h].filter fun h=>decide (h∉has))=[] by simp[hm],lN]
  ·rw[if_neg hm,show ([h].filter fun h=>decide (h∉has))=[h] by simp[hm]]
 wk _:=rfl
 wk2 _ _ _:=rfl
def Ak(N:ZC)(l:List Nat):List Nat:=l.foldl (fun s h=>bel N (Yb N h).h h s) []
def Aw(N:ZC)(r:Ro)(t:Tr):List Nat:=if r.at_=0 then [] else (bel N r.h r.at_ []).filter fun h=>decide (h∉Ak N (t.kwT []))
theorem Zux{N:ZC}(hN:GoodN N){h:Nat}(h0:h≠0)(hx:lk N h=some x):x.h<=13 :=
 RtOk.h13 hN (r:=⟨h,x.h,x.mea⟩) (.inr ⟨h0,x,hx,(hN h x hx).1,rfl,rfl⟩)
def Lv(N:ZC)(l:List Nat):Prop:=l.Nodup/\∀o∈l,∃x,lk N o=some x
theorem Lv.snoc{N:ZC}(h:Lv N l)(ho:∃x,lk N o=some x)(hn:o∉l):Lv N (l++[o]):=by
 refine⟨?_,fun a ha=>?_⟩
 ·rw[List.nodup_append]
  refine⟨h.1,by simp,fun x hx y hy=>?_⟩;rw[List.mem_singleton]at hy;intro e;rw[e,hy]at hx;exact hn hx
 ·rcases List.mem_append.1 ha with q|q
  ·exact h.2 a q
  ·rw[List.mem_singleton.1 q];exact ho
theorem VS{N:ZC}(hN:GoodN N):∀(n h:Nat) (s:List Nat) (x:Nd),lk N h=some x->x.h=n->Lv N s->Lv N (bel N n h s):=by
 intro n;induction n with
 | zero =>
  intro h s x hx hh hs;rw[bel];split
  ·exact hs
  ·rename_i q;exact hs.snoc ⟨x,hx⟩ q
 | succ n ih =>
  intro h s x hx hh hs;rw[bel,QS hx];split
  ·exact hs
  ·rename_i q
   have key:∀(ks:List Kid) (s:List Nat),(∀k∈ks,∃y,lk N k.at_=some y/\y.h=n)->Lv N s->Lv N (ks.foldl (fun s k=>bel N n k.at_ s) s):=by
    intro ks;induction ks with
    | nil=>intro s _ h;exact h
    | cons k l ihl =>
     intro s hk h;obtain⟨y,y1,y2⟩:=hk k (by simp);exact ihl _ (fun z hz=>hk z (List.mem_cons_of_mem _ hz)) (ih k.at_ s y y1 y2 h)
   exact key x.ks _ (fun k hk=>by obtain⟨_,y,y1,y2,_⟩:=(hN h x hx).2 k hk;exact⟨y,y1,by omega⟩) (hs.snoc ⟨x,hx⟩ q)
theorem Zta{N:ZC}(hN:GoodN N)(hl:∀h∈l,∃x,lk N h=some x):Lv N (Ak N l):=by
 have key:∀(l s:List Nat),(∀h∈l,∃x,lk N h=some x)->Lv N s->Lv N (l.foldl (fun s h=>bel N (Yb N h).h h s) s):=by
  intro l;induction l with
  | nil=>intro s _ h;exact h
  | cons a l ih =>
   intro s hl h;obtain⟨x,hx⟩:=hl a (by simp);refine ih _ (fun z hz=>hl z (List.mem_cons_of_mem _ hz)) ?_;show Lv N (bel N (Yb N a).h a s)
   rw[QS hx];exact VS hN _ a s x hx Y h
 exact key l [] hl ⟨by simp,by simp⟩
theorem VT{N:ZC}(hN:∀o x,lk N o=some x->o≠0)(hv:VE N t):∀h∈t.kwT [],h≠0/\∃x,lk N h=some x:=by
 intro h hh;rcases hv with q|q
 ·obtain⟨o,th,m,s,k⟩:=t
  have e1:=q.old;have e2:=q.ks;simp only[Tr.old,Tr.ks]at e1 e2;rw[Tr.kwT,Tr.kwO_getD,e2,Tr.kwL,e1]at hh;simp at hh
 ·obtain⟨x,hx⟩:=Zql q [] (by simp) h hh
  exact⟨hN h x hx,x,hx⟩
theorem VU{N:ZC}(hN:GoodN N)(hv:VE N t)(hb:t.bytes<=65536):t.siz<4294967296:=by
 rcases hv with q|q
 ·obtain⟨o,th,m,s,k⟩:=t
  have e2:=q.ks;simp only[Tr.ks]at e2;rw[Tr.siz,Tr.sizO_getD,e2,Tr.sizL];omega
 ·have:=(VR hN q).1;omega
theorem Zny{b:Nat}{N:ZC}(hN:GoodN N)(hK:∀l,Lv N l->l.length<=16384)(hz:∀o x,lk N o=some x->o≠0)(hR:Rd st la (b+5) N){r:Ro}(hr:RtOk N r)(hv:VE N t)(hb:t.bytes<=65536):
 S Tb LH [.ptr la (b+5) 0 0 0,r.av,t.av] st=some (.tup [.lit ((Aw N r t).map Zj),.int .i64 0],st):=by
 refine Zv Y (fun A hA=>?_);have hRA:=fun L=>hR.push hA (ro:=false) (L:=L)
 have hKp:=fun L=>IU (hRA L) hr
 have hCk:=fun L=>Ns (hRA L) hv hb
 have hKt:=fun st=>Zug hv.pos.1 (VU hN hv hb) st
 have hkw:=VT hz hv;have hkl:=Tr.kwT_len t [];have hsz:=VU hN hv hb;unfold Aw;generalize t.kwT []=kl at *;simp only[List.length_nil]at hkl;have hP13:∀n,n<=13->4 ^ (n+1)<=268435456:=fun n hn=>by
  have:4 ^ (n+1)<=4 ^ 14:=Nat.pow_le_pow_right (by decide) (by omega);exact this
 have hB1:∀(i h:Nat),kl[i]?=some h->S Tb JN [.ptr la (b+5) 0 0 0,.int .u64 h,.map A.length 3,.func (.func YT) [] []] (dr1 A (.arr 5 0 [r.av]) (.arr 7 0 [t.av]) (.arr 7 0 [(Yg r).av]) (Ak N (kl.take i)))=some (.int .i64 0,dr1 A (.arr 5 0 [r.av]) (.arr 7 0 [t.av]) (.arr 7 0 [(Yg r).av]) (Ak N (kl.take (i+1)))):=by
  intro i h hi;obtain⟨h0,x,hx⟩:=hkw h (jM hi);have hlv:=Zta hN (l:=kl.take i) (fun z hz=>(hkw z (List.mem_of_mem_take hz)).2);have:=hK _ hlv;have:=hP13 _ (Zux hN h0 hx);have e:Ak N (kl.take (i+1))=bel N x.h h (Ak N (kl.take i)):=by
   rw[ZF hi];unfold Ak;rw[List.foldl_append,List.foldl_cons,List.foldl_nil,QS hx]
  rw[e];exact VP (Zuu A _ _ _) hN (fun _ _=>hRA _) x.h h x _ hx Y (by omega) (more:=[]) (lN _).symm (lN _).symm
 have hB2:r.at_≠0->S Tb JN [.ptr la (b+5) 0 0 0,.int .u64 r.at_,.map A.length 7,.func (.func YU) [] [.ptr A.length 4 0 0 0,.ptr A.length 6 0 0 0]] (dr2 A (.arr 5 0 [r.av]) (.arr 7 0 [t.av]) (.arr 7 0 [(Yg r).av]) (Ak N kl) [] [])=some (.int .i64 0,dr2 A (.arr 5 0 [r.av]) (.arr 7 0 [t.av]) (.arr 7 0 [(Yg r).av]) (Ak N kl) (bel N r.h r.at_ []) ((bel N r.h r.at_ []).filter fun h=>decide (h∉Ak N kl))):=by
  intro h0;obtain⟨x,x1,x2,x3,x4⟩:∃x,lk N r.at_=some x/\NdOk x/\x.h=r.h/\x.mea=r.m:=by
   rcases hr with rfl|w
   ·exact absurd Y h0
   ·exact w.2
  have:=hP13 _ (hr.h13 hN);exact VP (Zuw A (.arr 5 0 [r.av]) (.arr 7 0 [t.av]) (.arr 7 0 [(Yg r).av]) (Ak N kl)) hN (fun _ _=>hRA _) r.h r.at_ x [] x1 x3 (by simp only[List.length_nil];omega) (more:=[]) (lN _).symm (lN _).symm
 have hkll:kl.length<1000000000:=by
  have:kl.length<=t.siz:=by omega
  have h2:(t.siz:Int)<=65537:=by
   rcases hv with q|q
   ·obtain⟨o,th,m,s,k⟩:=t
    have e2:=q.ks;simp only[Tr.ks]at e2;rw[Tr.siz,Tr.sizO_getD,e2,Tr.sizL];decide
   ·have:=(VR hN q).1;omega
  omega
 unfold dr1 at hB1;unfold dr2 at hB2;obtain⟨ra,rh,rm⟩:=r;unfold Ro.av at *;generalize Yg ⟨ra,rh,rm⟩=kt at *;repeat'(first|refine ruS Y ?_|refine isS Y ?_|refine ZE Y Y Y Y ?_|refine ZO ?_|refine cm0 Y Y Y ?_ ?_|(intro _;try omega)|refine ZX Y Y Y ?_|refine DH Y ?_|refine zA0 Y Y (hKp _) ?_|refine zA0 Y Y (hCk _) ?_|refine ZE Y Y Y (Zb _) ?_|refine Zg Y Y Y (Z9 _ _ _) (Qg _ _) Y ?_|refine Zi Y (Zn _) (Z1 _) ?_)
 all_goals try contradiction
 refine Zg Y Y Y (by simp only[ZI,Zs,if_pos (Nat.lt_succ_self _)]) Y Y ?_;repeat'(first|refine ZE Y Y Y (Zb _) ?_|refine JS Y ?_|refine ruS Y ?_|refine isS Y ?_|refine ZO ?_|refine zA0 Y Y (hKt _) ?_)
 refine Ze (α:=Nat) (fun i=>[(0,.ptr la (b+5) 0 0 0),(4,.ptr A.length 0 0 0 0),(11,.ptr A.length 4 0 0 0),(34,.lit (kl.map Zj)),(35,.int .i64 kl.length),(36,.int .i64 i)])
  (fun i=>⟨A,false,[.arr 5 0 [Ro.av ⟨ra,rh,rm⟩],.arr 7 0 [t.av],.arr 7 0 [kt.av],.map (YG (Ak N (kl.take i))),.arr 1 0 [.map A.length 3]]⟩) (fun i=>i<=kl.length) (fun i=>kl.length-i) 0 rfl rfl (Nat.zero_le _) ?_
 intro i hi;replace hi:i<=kl.length:=hi;unfold Ro.av;rcases Nat.lt_or_ge i kl.length with hlt|hge
 ·obtain⟨h,hh⟩:∃x,kl[i]?=some x:=⟨kl[i]'hlt,jE _⟩
  have q:0<=((i:Nat):Int)/\kl[((i:Nat):Int).toNat]?=some h:=⟨by omega,by rw[show ((i:Nat):Int).toNat=i by omega];exact hh⟩
  have hB:=hB1 i h hh;repeat'(first|refine QY (f:=Zj) Y Y q (fun _=>rfl) ?_|refine ZA Y Y Y hB ?_|refine ruS Y ?_|refine isS Y ?_|refine ZE Y Y Y Y ?_|refine rkS Y ?_|refine Zx Y Y ?_|refine cm0 Y Y Y ?_ ?_|(intro _;try omega)|refine ZV Y Y (by omega) ?_)
  all_goals try first|contradiction|omega
  exact⟨i+1,⟨rfl,rfl⟩,by omega,by omega⟩
 ·obtain rfl:i=kl.length:=by omega
  rw[List.take_length];by_cases h0:ra=0
  ·subst h0
   repeat'(first|refine N7 ?_|refine ruS Y ?_|refine isS Y ?_|refine ZE Y Y Y Y ?_|refine rkS Y ?_|refine cm0 Y Y Y ?_ ?_|(intro _;try omega)|refine X3 Y Y ?_|refine DH Y ?_)
   all_goals try first|contradiction|omega
   refine ZQ hA (by simp) Y Y Y Y ?_;rfl
  ·have hB:=hB2 h0
   have h0i:((ra:Nat):Int)≠0:=by omega
   simp only[if_neg h0];generalize (bel N rh ra []).filter (fun h=>decide (h∉Ak N kl))=out at *;repeat'(first|refine N7 ?_|refine ZA Y Y Y hB ?_|refine ruS Y ?_|refine isS Y ?_|refine ZE Y Y Y Y ?_|refine rkS Y ?_|refine cm0 Y Y Y ?_ ?_|(intro _;try omega)|refine X3 Y Y ?_|refine DH Y ?_)
   all_goals try first|contradiction|omega
   exact ES hA (.inr Y) Y Y (by simp) (fun v hv=>by obtain⟨x,_,rfl⟩:=List.mem_map.1 hv;rfl) rfl rfl
theorem GD:∀(v w:List Nat) (x:Nat),x∈v.foldl QD w↔x∈w\/x∈v
 | [],w,x=>by simp
 | a::v,w,x=>by
  rw[List.foldl_cons,GD v (QD w a) x,Uq,List.mem_cons];constructor
  ·rintro ((h|h)|h)<;>simp[h]
  ·rintro (h|h|h)<;>simp[h]
theorem VV:∀(v w:List Nat),(∀x∈v,x∈w)->v.foldl QD w=w
 | [],w,_=>rfl
 | a::v,w,h=>by
  rw[List.foldl_cons,show QD w a=w by unfold QD;rw[if_pos (h a (by simp))]];exact VV v w (fun x hx=>h x (by simp[hx]))
theorem VW(p:Nat->Bool):∀(v w:List Nat),(v.filter p).foldl QD (w.filter p)=(v.foldl QD w).filter p
 | [],w=>rfl
 | a::v,w=>by
  rw[List.foldl_cons,<- VW p v (QD w a)];have e:(QD w a).filter p=if p a=true then QD (w.filter p) a else w.filter p:=by
   unfold QD;by_cases q:a∈w
   ·rw[if_pos q]
    split
    ·rename_i hp;rw[if_pos (List.mem_filter.2 ⟨q,hp⟩)]
    ·rfl
   ·rw[if_neg q,List.filter_append]
    split
    ·rename_i hp
     rw[if_neg (fun h=>q (List.mem_filter.1 h).1)];simp[List.filter_cons,hp]
    ·rename_i hp
     simp[List.filter_cons,hp]
  rw[e,List.filter_cons];split
  ·rw[List.foldl_cons]
  ·rfl
theorem VX(p:Nat->Bool)(v:List Nat):Zr (v.filter p)=(Zr v).filter p:=VW p v []
theorem GE{N:ZC}(hN:GoodN N):∀(n h:Nat) (x:Nd),lk N h=some x->x.h=n->∀o∈QM N n h,∃y,lk N o=some y/\y.h<=n/\∀z∈QM N y.h o,z∈QM N n h:=by
 intro n;induction n with
 | zero =>
  intro h x hx hh o ho;rw[QM,List.mem_singleton]at ho;subst ho;exact⟨x,hx,by omega,fun z hz=>by rw[hh]at hz;exact hz⟩
 | succ n ih =>
  intro h x hx hh o ho;have hg:=(hN h x hx).2;rw[QM,QS hx,List.mem_cons]at ho;rcases ho with rfl|ho
  ·exact⟨x,hx,by omega,fun z hz=>by rw[hh]at hz;exact hz⟩
  ·obtain⟨k,hk,ho⟩:=List.mem_flatMap.1 ho
   obtain⟨_,y,y1,y2,_⟩:=hg k hk;obtain⟨w,w1,w2,w3⟩:=ih k.at_ y y1 (by omega) o ho;refine⟨w,w1,by omega,fun z hz=>?_⟩;rw[QM,QS hx,List.mem_cons];exact .inr (List.mem_flatMap.2 ⟨k,hk,w3 z hz⟩)
def ClN(N:ZC)(n:Nat)(s:List Nat):Prop:=∀o∈s,∀y,lk N o=some y->y.h<=n->∀z∈QM N y.h o,z∈s
theorem VY{N:ZC}(hN:GoodN N):∀(n h:Nat) (x:Nd) (s:List Nat),lk N h=some x->x.h=n->ClN N n s->bel N n h s=(QM N n h).foldl QD s/\ClN N n (bel N n h s):=by
 intro n;induction n with
 | zero =>
  intro h x s hx hh hs;have e:bel N 0 h s=(QM N 0 h).foldl QD s:=by rw[bel,QM];rfl
  refine⟨e,?_⟩;rw[e];intro o ho y hy hy0 z hz;rw[GD]at ho ⊢;rcases ho with ho|ho
  ·exact .inl (hs o ho y hy hy0 z hz)
  ·obtain⟨w,w1,w2,w3⟩:=GE hN 0 h x hx hh o ho
   rw[hy]at w1;obtain rfl:=Option.some.inj w1;exact .inr (w3 z hz)
 | succ n ih =>
  intro h x s hx hh hs;have hg:=(hN h x hx).2;rw[bel];by_cases hm:h∈s
  ·rw[if_pos hm]
   refine⟨(VV _ _ (fun z hz=>hs h hm x hx (by omega) z (by rw[hh];exact hz))).symm,hs⟩
  ·rw[if_neg hm]
   have key:∀(ks:List Kid) (s:List Nat),(∀k∈ks,k∈x.ks)->ClN N n s->ks.foldl (fun s k=>bel N n k.at_ s) s=(ks.flatMap fun k=>QM N n k.at_).foldl QD s/\ClN N n (ks.foldl (fun s k=>bel N n k.at_ s) s):=by
    intro ks;induction ks with
    | nil=>intro s _ hc;exact⟨rfl,hc⟩
    | cons k ks ihk =>
     intro s hk hc;obtain⟨_,y,y1,y2,_⟩:=hg k (hk k (by simp));obtain⟨b1,b2⟩:=ih k.at_ y s y1 (by omega) hc;rw[List.foldl_cons,List.flatMap_cons,List.foldl_append,<- b1];exact ihk _ (fun z hz=>hk z (by simp[hz])) b2
   have hc:ClN N n (s++[h]):=by
    intro o ho y hy hyn z hz;rcases List.mem_append.1 ho with ho|ho
    ·exact List.mem_append.2 (.inl (hs o ho y hy (by omega) z hz))
    ·rw[List.mem_singleton]at ho
     subst ho;rw[hx]at hy;obtain rfl:=Option.some.inj hy;omega
   rw[QS hx];obtain⟨k1,k2⟩:=key x.ks (s++[h]) (fun k hk=>hk) hc;have e:x.ks.foldl (fun s k=>bel N n k.at_ s) (s++[h])=(QM N (n+1) h).foldl QD s:=by
    rw[k1,QM,QS hx,List.foldl_cons,show QD s h=s++[h] by unfold QD;rw[if_neg hm]]
   refine⟨e,?_⟩;rw[e];intro o ho y hy hyn z hz;rw[GD]at ho ⊢;rcases ho with ho|ho
   ·exact .inl (hs o ho y hy hyn z hz)
   ·obtain⟨w,w1,w2,w3⟩:=GE hN (n+1) h x hx hh o ho
    rw[hy]at w1;obtain rfl:=Option.some.inj w1;exact .inr (w3 z hz)
theorem Zqp{N:ZC}(hN:GoodN N){h:Nat}(hx:lk N h=some x):bel N x.h h []=Zr (QM N x.h h) :=
 (VY hN x.h h x [] hx rfl (fun o ho=>by simp at ho)).1
theorem Zqq{N:ZC}(hN:GoodN N)(l:List Nat)(hl:∀h∈l,∃x,lk N h=some x)(o:Nat):o∈Ak N l↔∃k∈l,o∈QM N (Yb N k).h k:=by
 have key:∀(l:List Nat) (s:List Nat),(∀h∈l,∃x,lk N h=some x)->(∀n,ClN N n s)->(∀n,ClN N n (l.foldl (fun s h=>bel N (Yb N h).h h s) s))/\∀o,o∈l.foldl (fun s h=>bel N (Yb N h).h h s) s↔o∈s\/∃k∈l,o∈QM N (Yb N k).h k:=by
  intro l;induction l with
  | nil=>intro s _ hc;exact⟨hc,fun o=>by simp⟩
  | cons a l ih =>
   intro s hl hc;obtain⟨x,hx⟩:=hl a (by simp);rw[List.foldl_cons,QS hx];obtain⟨b1,b2⟩:=VY hN x.h a x s hx rfl (hc _);have hc2:∀n,ClN N n (bel N x.h a s):=by
    intro n o ho y hy hyn z hz;rw[b1,GD]at ho ⊢;rcases ho with ho|ho
    ·exact .inl (hc n o ho y hy hyn z hz)
    ·obtain⟨w,w1,w2,w3⟩:=GE hN x.h a x hx rfl o ho
     rw[hy]at w1;obtain rfl:=Option.some.inj w1;exact .inr (w3 z hz)
   obtain⟨i1,i2⟩:=ih _ (fun h hh=>hl h (by simp[hh])) hc2;refine⟨i1,fun o=>?_⟩;rw[i2,b1,GD];constructor
   ·rintro ((h|h)|⟨k,hk,h⟩)
    ·exact .inl h
    ·exact .inr ⟨a,by simp,by rw[QS hx];exact h⟩
    ·exact .inr ⟨k,by simp[hk],h⟩
   ·rintro (h|⟨k,hk,h⟩)
    ·exact .inl (.inl h)
    ·rcases List.mem_cons.1 hk with rfl|hk
     ·rw[QS hx]at h;exact .inl (.inr h)
     ·exact .inr ⟨k,hk,h⟩
 have:=(key l [] hl (fun n o ho=>by simp at ho)).2 o;unfold Ak;rw[this];simp
namespace Tr
mutual
def und(N:ZC):Tr->List Nat
 | .mk o _ _ _ k=>if o=0 then undO N k else QM N (Yb N o).h o
def undO(N:ZC):Option (List Tr)->List Nat
 | none=>[]
 | some l=>undL N l
def undL(N:ZC):List Tr->List Nat
 | []=>[]
 | t::l=>t.und N++undL N l
end
theorem undO_getD(N:ZC)(k:Option (List Tr)):undO N k=undL N (k.getD []):=by cases k<;>rfl
end Tr
theorem Zuy{N:ZC}{t:Tr}(hv:Val N t):∀(out:List Nat) (o:Nat),(∃k∈t.kwT out,o∈QM N (Yb N k).h k)↔(∃k∈out,o∈QM N (Yb N k).h k)\/o∈t.und N:=by
 induction hv with
 | @kept a h m k x h0 hx hok hh hm hk =>
  intro out o;rw[Tr.kwT,Tr.kwO_getD,hk,Tr.kwL,Tr.und,if_neg h0];by_cases q:a∈out
  ·rw[if_neg (fun w=>w.2 q)]
   constructor
   ·exact .inl
   ·rintro (h|h)
    ·exact h
    ·exact⟨a,q,h⟩
  ·rw[if_pos ⟨h0,q⟩]
   constructor
   ·rintro⟨k,hk,h⟩
    rcases List.mem_append.1 hk with hk|hk
    ·exact .inl ⟨k,hk,h⟩
    ·rw[List.mem_singleton]at hk;subst hk;exact .inr h
   ·rintro (⟨k,hk,h⟩|h)
    ·exact⟨k,by simp[hk],h⟩
    ·exact⟨a,by simp,h⟩
 | @leaf s k h1 h2 hk =>
  intro out o;rw[Tr.kwT,Tr.kwO_getD,hk,Tr.kwL,Tr.und,if_pos rfl,Tr.undO_getD,hk,Tr.undL,if_neg (by simp)];simp
 | @inner h l hh h2 h4 hl hb hv ih =>
  intro out o;rw[Tr.kwT,Tr.kwO,Tr.und,if_pos rfl,Tr.undO,if_neg (by simp)];have key:∀(l:List Tr),(∀t∈l,∀(out:List Nat) (o:Nat),(∃k∈t.kwT out,o∈QM N (Yb N k).h k)↔(∃k∈out,o∈QM N (Yb N k).h k)\/o∈t.und N)->∀(out:List Nat),(∃k∈Tr.kwL l out,o∈QM N (Yb N k).h k)↔(∃k∈out,o∈QM N (Yb N k).h k)\/o∈Tr.undL N l:=by
   intro l;induction l with
   | nil=>intro _ out;rw[Tr.kwL,Tr.undL];simp
   | cons a l ihl =>
    intro hl out;rw[Tr.kwL,Tr.undL,ihl (fun t ht=>hl t (by simp[ht])),hl a (by simp),List.mem_append,or_assoc]
  exact key l ih out
theorem Ztb{N:ZC}(hN:GoodN N)(hz:∀o x,lk N o=some x->o≠0){t:Tr}(hv:VE N t)(o:Nat):o∈Ak N (t.kwT [])↔o∈t.und N:=by
 rw[Zqq hN _ (fun h hh=>(VT hz hv h hh).2)];rcases hv with h|h
 ·obtain⟨a,h',m,s,k⟩:=t
  obtain⟨h1,h2,h3,h4,h5⟩:=h;simp only[Tr.old,Tr.h,Tr.m,Tr.text,Tr.ks]at *;subst h1;rw[Tr.kwT,Tr.kwO_getD,h5,Tr.kwL,Tr.und,if_pos rfl,Tr.undO_getD,h5,Tr.undL,if_neg (by simp)];simp
 ·rw[Zuy h];simp
theorem Zqr{N:ZC}(hN:GoodN N)(hz:∀o x,lk N o=some x->o≠0){r:Ro}(hr:RtOk N r){t:Tr}(hv:VE N t):Aw N r t=Zr ((ZY N r).filter fun o=>decide (o∉t.und N)):=by
 unfold Aw ZY;split
 ·rfl
 ·rename_i h0
  obtain⟨x,x1,x2,x3,x4⟩:∃x,lk N r.at_=some x/\NdOk x/\x.h=r.h/\x.mea=r.m:=by
   rcases hr with rfl|w
   ·exact absurd Y h0
   ·exact w.2
  rw[VX,<- x3,Zqp hN x1];refine List.filter_congr fun o _=>?_
  rw[decide_eq_decide,Ztb hN hz hv]
theorem Zqs{lv:Nat}(hn:n=l.length)(hg:st.get lv ix=some (.arr 1 ver (l.map Zj)))(hb:l.length<1000000000):
 S Tb LE [.ref lv ix ver 0 n] st=some (.lit ((Zr l).map Zj),st):=by
 subst hn;refine Zv Y (fun A hA=>?_);have g0:=fun L=>ZD hA (ro:=false) (L:=L) hg
 have hwi:∀L,wIs 1 ver (St.get ⟨A,false,L⟩ lv ix)=true:=fun L=>by rw[g0];simp[wIs]
 repeat'(first|refine ruS Y ?_|refine isS Y ?_|refine ZO ?_|refine Xk Y ?_)
 refine Ze (α:=Nat) (fun i=>[(0,.ref lv ix ver 0 l.length),(3,.ref A.length 0 (Zr (l.take i)).length 0 (Zr (l.take i)).length),(4,.int .i64 i)]) (fun i=>⟨A,false,[.arr 1 (Zr (l.take i)).length ((Zr (l.take i)).map Zj)]⟩) (fun i=>i<=l.length) (fun i=>l.length-i) 0 Y Y (by omega) ?_;rintro i hi;replace hi:i<=l.length:=hi;have hw:=(Yp (l.take i)).2.2;rw[List.length_take,Nat.min_eq_left hi]at hw;rcases Nat.lt_or_ge i l.length with hlt|hge
 ·obtain⟨x,hx⟩:∃x,l[i]?=some x:=⟨l[i]'hlt,jE _⟩
  have q1:(l.map Zj)[0+((i:Nat):Int).toNat]?=some (AV.int .u64 x):=by
   rw[show 0+((i:Nat):Int).toNat=i by omega,jG,hx];rfl
  have hs:Zr (l.take (i+1))=QD (Zr (l.take i)) x:=by rw[ZF hx,Up]
  generalize Zr (l.take i)=w at *;have hH:=ZtT (st:=⟨A,false,[.arr 1 w.length (w.map Zj)]⟩) (lv:=A.length) (ix:=0) (ver:=w.length) (l:=w) rfl (St.get_cur ..) (by omega) x;have hl2:(w.map Zj).length+[AV.int .u64 (x:Int)].length<4294967296:=by simp;omega
  have hl3:w.length=(w.map Zj).length:=by simp
  by_cases hm:x∈w
  ·simp only[decide_eq_true hm]at hH
   repeat'(first|refine JH Y Y (by omega) (hwi _) ?_|refine Zk Y (g0 _) q1 Y ?_|refine ruS Y ?_|refine isS Y ?_|refine rkS Y ?_|refine Z6 Y ?_|refine cm0 Y Y Y ?_ ?_|(intro _;try omega)|refine ZV Y Y (by omega) ?_|refine ZA Y Y Y (hH) ?_)
   all_goals try omega
   all_goals try contradiction
   refine⟨i+1,⟨?_,?_⟩,by omega,by omega⟩
   ·rw[hs];unfold QD;rw[if_pos hm];rfl
   ·rw[hs];unfold QD;rw[if_pos hm]
  ·simp only[decide_eq_false hm]at hH
   repeat'(first|refine JH Y Y (by omega) (hwi _) ?_|refine Zk Y (g0 _) q1 Y ?_|refine BL Y Y Y hl3 Y Y hl2 (by decide) ?_|refine ruS Y ?_|refine isS Y ?_|refine rkS Y ?_|refine Z6 Y ?_|refine cm0 Y Y Y ?_ ?_|(intro _;try omega)|refine ZV Y Y (by omega) ?_|refine Z7 Y Y Y Y ?_|refine ZA Y Y Y (hH) ?_)
   all_goals try omega
   all_goals try contradiction
   refine⟨i+1,⟨?_,?_⟩,by omega,by omega⟩
   ·rw[hs];unfold QD;rw[if_neg hm,lL];rfl
   ·rw[hs];unfold QD;rw[if_neg hm,lL,List.map_append];rfl
 ·obtain rfl:i=l.length:=by omega
  rw[List.take_length];repeat'(first|refine ruS Y ?_|refine isS Y ?_|refine rkS Y ?_|refine Z6 Y ?_|refine cm0 Y Y Y ?_ ?_|(intro _;try omega))
  all_goals try omega
  refine B5 (es:=(Zr l).map Zj) hA (.inr Y) Y Y (by simp) (by intro v hv;obtain⟨x,_,rfl⟩:=List.mem_map.1 hv;rfl) ?_;rfl
theorem VZ(l m:List Nat)(hb:l.length<1000000000)(hm:m.length<1000000000)(st:St):
 S Tb Ju [.lit (l.map Zj),.lit (m.map Zj)] st=some (.lit ((Zr (l.filter fun o=>decide (o∉m))).map Zj),st):=by
 refine Zv Y (fun A hA=>?_);have hHs:=fun o st=>ZtU m (by omega) o st
 repeat'(first|refine ruS Y ?_|refine isS Y ?_|refine ZO ?_|refine Xk Y ?_)
 refine Ze (α:=Nat) (fun i=>[(0,.lit (l.map Zj)),(1,.lit (m.map Zj)),(5,.ref A.length 0 ((l.take i).filter fun o=>decide (o∉m)).length 0 ((l.take i).filter fun o=>decide (o∉m)).length),(6,.int .i64 i)]) (fun i=>⟨A,false,[.arr 1 ((l.take i).filter fun o=>decide (o∉m)).length (((l.take i).filter fun o=>decide (o∉m)).map Zj)]⟩) (fun i=>i<=l.length) (fun i=>l.length-i) 0 Y Y (by omega) ?_;rintro i hi;replace hi:i<=l.length:=hi;have hw:=List.length_filter_le (fun o=>decide (o∉m)) (l.take i);rw[List.length_take,Nat.min_eq_left hi]at hw;rcases Nat.lt_or_ge i l.length with hlt|hge
 ·obtain⟨x,hx⟩:∃x,l[i]?=some x:=⟨l[i]'hlt,jE _⟩
  have q:0<=((i:Nat):Int)/\l[((i:Nat):Int).toNat]?=some x:=⟨by omega,by rw[show ((i:Nat):Int).toNat=i by omega];exact hx⟩
  have hs:(l.take (i+1)).filter (fun o=>decide (o∉m))=(l.take i).filter (fun o=>decide (o∉m))++if x∈m then [] else [x]:=by
   rw[ZF hx,List.filter_append]
   congr 1
   by_cases q:x∈m
   ·simp[q]
   ·simp[q]
  have hH:=fun st=>hHs x st
  generalize (l.take i).filter (fun o=>decide (o∉m))=w at *;have hl2:(w.map Zj).length+[AV.int .u64 (x:Int)].length<4294967296:=by simp;omega
  have hl3:w.length=(w.map Zj).length:=by simp
  by_cases hm:x∈m
  ·simp only[decide_eq_true hm]at hH
   rw[if_pos hm,lN]at hs;repeat'(first|refine JS Y ?_|refine QY (f:=Zj) Y Y q (fun _=>rfl) ?_|refine ruS Y ?_|refine isS Y ?_|refine rkS Y ?_|refine Zx Y Y ?_|refine cm0 Y Y Y ?_ ?_|(intro _;try omega)|refine ZV Y Y (by omega) ?_|refine ZA Y Y Y (hH _) ?_)
   all_goals try omega
   all_goals try contradiction
   exact⟨i+1,⟨by rw[hs];rfl,by rw[hs]⟩,by omega,by omega⟩
  ·simp only[decide_eq_false hm]at hH
   rw[if_neg hm]at hs;repeat'(first|refine JS Y ?_|refine QY (f:=Zj) Y Y q (fun _=>rfl) ?_|refine BL Y Y Y hl3 Y Y hl2 (by decide) ?_|refine ruS Y ?_|refine isS Y ?_|refine rkS Y ?_|refine Zx Y Y ?_|refine cm0 Y Y Y ?_ ?_|(intro _;try omega)|refine ZV Y Y (by omega) ?_|refine Z7 Y Y Y Y ?_|refine ZA Y Y Y (hH _) ?_)
   all_goals try omega
   all_goals try contradiction
   refine⟨i+1,⟨?_,?_⟩,by omega,by omega⟩
   ·rw[hs,lL];rfl
   ·rw[hs,lL,List.map_append];rfl
 ·obtain rfl:i=l.length:=by omega
  rw[List.take_length]at hw ⊢;have hO:=Zqs (st:=⟨A,false,[.arr 1 (l.filter fun o=>decide (o∉m)).length ((l.filter fun o=>decide (o∉m)).map Zj)]⟩) (lv:=A.length) (ix:=0) (ver:=(l.filter fun o=>decide (o∉m)).length) (l:=l.filter fun o=>decide (o∉m)) rfl (St.get_cur ..) (by omega);generalize l.filter (fun o=>decide (o∉m))=w at *;repeat'(first|refine JS Y ?_|refine ruS Y ?_|refine isS Y ?_|refine rkS Y ?_|refine cm0 Y Y Y ?_ ?_|(intro _;try omega)|refine ZA Y Y Y (hO) ?_)
  all_goals try omega
  refine ZQ hA (by simp) Y Y Y Y ?_;rfl
def DrOk(M:Nat)(G:List Blk)(dv:AV)(w:List Nat):Prop:=(w=[]/\dv=.nils)\/∃j ver,dv=.ref M (j+4) ver 0 w.length/\w≠[]/\G[j]?=some (.arr 1 ver (w.map Zj))
def chL(b6:Blk)(t:Tr)(dv:AV)(w:List Nat)(G:List Blk):List Blk :=
 b6::.arr 7 0 [t.av]::.arr 7 0 [.agg [.int .u64 0,.int .i64 0,.int .i64 0,.int .i64 0,.int .i64 0,.nils,dv]]::.map (YG w)::G
theorem Va{L:List Blk}{keep:List Nat}{is:List QAbs.PI}{x i:Opd}{h:Nat}{es es':List (AV × AV)}(hx:ZL e x=some (.map A.length ix))(hi:ZL e i=some (.int .u64 h))(hv:ZL e v=some w)(hg:L[ix]?=some (.map es))
 (hs:ZI Zs (A.length+1) ⟨A,false,L⟩ w=some (w,⟨A,false,L⟩)) (hp:AE (.int .u64 h) w es=some es')
 (hh:Is O is keep k Q e ⟨A,false,L.set ix (.map es')⟩):Is O (⟨none,none,false,.mupd 0 x i v⟩::is) keep k Q e ⟨A,false,L⟩:=by
 have hlt:=(List.getElem?_eq_some_iff.1 hg).1;refine Zm (od:=none) (v:=.undef) (st':=⟨A,false,L.set ix (.map es')⟩) ?_ hh;simp only[ZW,evalPO,ZB hx,ZB hi,ZB hv,BN,Jh,if_true,hs,oS,BY,St.get_cur,hg,vis,AA,hp,St.put,if_false,jB,if_pos hlt,AF]
theorem Vb:∀(l w:List Nat),(l.foldl QD w).length<=w.length+l.length:=by
 intro l;induction l with
 | nil=>intro w;simp
 | cons a l ih =>
  intro w;rw[List.foldl_cons];have h1:(QD w a).length<=w.length+1:=by unfold QD;split<;>simp
  have h2:=ih (QD w a);rw[List.length_cons];omega
theorem Zqt{b6:Blk}{dv:AV}{w dl:List Nat}{G:List Blk}(h0:DrOk A.length G dv w)(hl:w.length+dl.length<100000000){v0 v29 v30 v31:AV}
 (hQ:∀G' dv',DrOk A.length G' dv' (dl.foldl QD w)->Rk (S Tb) k Q .norm [(0,v0),(6,.ptr A.length 0 0 0 0),(8,.ptr A.length 1 0 0 0),(10,.ptr A.length 2 0 0 0),(11,.map A.length 3),(29,v29),(30,v30),(31,v31),(46,.lit (dl.map Zj)),(47,.int .i64 dl.length),(48,.int .i64 dl.length),(49,.bool false)] ⟨A,false,chL b6 t dv' (dl.foldl QD w) G'⟩) :
 Ru (S Tb) p_edit_change_19.loop (.blk 2::k) Q [(0,v0),(6,.ptr A.length 0 0 0 0),(8,.ptr A.length 1 0 0 0),(10,.ptr A.length 2 0 0 0),(11,.map A.length 3),(29,v29),(30,v30),(31,v31),(46,.lit (dl.map Zj)),(47,.int .i64 dl.length),(48,.int .i64 0)] ⟨A,false,chL b6 t dv w G⟩:=by
 refine Ze (α:=Nat × AV × List Blk) (fun p=>[(0,v0),(6,.ptr A.length 0 0 0 0),(8,.ptr A.length 1 0 0 0),(10,.ptr A.length 2 0 0 0),(11,.map A.length 3),(29,v29),(30,v30),(31,v31),(46,.lit (dl.map Zj)),(47,.int .i64 dl.length),(48,.int .i64 p.1)])
  (fun p=>⟨A,false,chL b6 t p.2.1 ((dl.take p.1).foldl QD w) p.2.2⟩) (fun p=>p.1<=dl.length/\DrOk A.length p.2.2 p.2.1 ((dl.take p.1).foldl QD w)) (fun p=>dl.length-p.1) (0,dv,G) rfl rfl ⟨Nat.zero_le _,h0⟩ ?_
 rintro⟨i,dv1,G1⟩ ⟨hi,hD⟩;simp only at hi hD ⊢;have hwl:=Vb (dl.take i) w;rw[List.length_take,Nat.min_eq_left hi]at hwl;rcases Nat.lt_or_ge i dl.length with hlt|hge
 ·obtain⟨h,hh⟩:∃x,dl[i]?=some x:=⟨dl[i]'hlt,jE _⟩
  have q:0<=((i:Nat):Int)/\dl[((i:Nat):Int).toNat]?=some h:=⟨by omega,by rw[show ((i:Nat):Int).toNat=i by omega];exact hh⟩
  have hnx:(dl.take (i+1)).foldl QD w=QD ((dl.take i).foldl QD w) h:=by rw[ZF hh,List.foldl_append];rfl
  generalize (dl.take i).foldl QD w=W at *;have hlk:=Cn (st:=⟨A,false,chL b6 t dv1 W G1⟩) (lv:=A.length) (mx:=3) (St.get_cur ..) h;by_cases hm:h∈W
  ·simp only[decide_eq_true hm]at hlk
   rw[show QD W h=W by unfold QD;rw[if_pos hm]]at hnx;unfold chL at *;repeat'(first|refine QY (f:=Zj) Y Y q (fun _=>rfl) ?_|refine ruS Y ?_|refine isS Y ?_|refine rkS Y ?_|refine Zx Y Y ?_|refine cm0 Y Y Y ?_ ?_|(intro _;try omega)|refine ZV Y Y (by omega) ?_|refine YI Y Y hlk ?_)
   all_goals try first|contradiction|omega
   exact⟨(i+1,dv1,G1),⟨rfl,by simp only[hnx]⟩,⟨by simp only;omega,by simp only[hnx];exact hD⟩,by simp only;omega⟩
  ·simp only[decide_eq_false hm]at hlk
   rw[show QD W h=W++[h] by unfold QD;rw[if_neg hm]]at hnx;have hpe:=F6 h W hm;rcases hD with⟨rfl,rfl⟩|⟨j,ver,rfl,hW,hg⟩
   ·unfold chL at *
    repeat'(first|refine QY (f:=Zj) Y Y q (fun _=>rfl) ?_|refine ruS Y ?_|refine isS Y ?_|refine ZO ?_|refine Zx Y Y ?_|refine cm0 Y Y Y ?_ ?_|(intro _;try omega)|refine YI Y Y hlk ?_)
    all_goals try first|contradiction|omega
    refine Va Y Y Y Y Y hpe ?_;repeat'(first|refine Qv ?_|refine isS Y ?_|refine ZE Y Y Y Y ?_|refine ZO ?_|refine Z7 Y Y Y Y ?_)
    refine IJ (vx:=.lit [.int .u64 h]) (ys:=[.int .u64 h]) (bytes:=8) Y Y Y (by simp) (by decide) Y ?_;repeat'(first|refine Qv ?_|refine isS Y ?_|refine rkS Y ?_|refine ZV Y Y (by omega) ?_|refine Qn Y Y Y Y (Q2 _ (Nat.lt_succ_self _)) Y ?_)
    refine⟨(i+1,.ref A.length (G1.length+4) 0 0 1,G1++[.arr 1 0 [.int .u64 h]]),⟨rfl,?_⟩,⟨by simp only;omega,?_⟩,by simp only;omega⟩
    ·simp only[hnx];rfl
    ·simp only[hnx]
     exact .inr ⟨G1.length,0,rfl,by simp,List.getElem?_concat_length ..⟩
   ·have hj:=(List.getElem?_eq_some_iff.1 hg).1
    have hg2:∀b0 b1 b2 b3:Blk,(b0::b1::b2::b3::G1)[j+4]?=some (.arr 1 ver (W.map Zj)):=fun _ _ _ _=>hg
    unfold chL at *;repeat'(first|refine QY (f:=Zj) Y Y q (fun _=>rfl) ?_|refine ruS Y ?_|refine isS Y ?_|refine ZO ?_|refine Zx Y Y ?_|refine cm0 Y Y Y ?_ ?_|(intro _;try omega)|refine YI Y Y hlk ?_)
    all_goals try first|contradiction|omega
    refine Va Y Y Y Y Y hpe ?_;repeat'(first|refine Qv ?_|refine isS Y ?_|refine ZE Y Y Y Y ?_|refine ZO ?_|refine Z7 Y Y Y Y ?_)
    refine BL (es:=W.map Zj) (ys:=[.int .u64 h]) Y Y (hg2 _ _ _ _) (by rw[List.length_map]) rfl rfl (by simp;omega) (by decide) ?_;repeat'(first|refine Qv ?_|refine isS Y ?_|refine rkS Y ?_|refine ZV Y Y (by omega) ?_|refine Qn Y Y Y Y (Q2 _ (Nat.lt_succ_self _)) Y ?_)
    refine⟨(i+1,.ref A.length (j+4) (ver+1) 0 (W.length+1),G1.set j (.arr 1 (ver+1) (W.map Zj++[.int .u64 h]))),⟨rfl,?_⟩,⟨by simp only;omega,?_⟩,by simp only;omega⟩
    ·simp only[hnx];rfl
    ·simp only[hnx]
     refine .inr ⟨j,ver+1,by simp,by simp,?_⟩;rw[List.getElem?_set_self hj,List.map_append];rfl
 ·obtain rfl:i=dl.length:=by omega
  rw[List.take_length]at hD ⊢;repeat'(first|refine ruS Y ?_|refine Jg Y ?_|refine rkS Y ?_|refine cm0 Y Y Y ?_ ?_|(intro _;try omega))
  all_goals try omega
  exact hQ G1 dv1 hD
def slH(l:List Nat):AV:=if l=[] then .nils else .lit (l.map Zj)
def Yv(ro:Ro)(fresh:List Nat)(d:AV):AV:=.agg [.int .u64 ro.at_,.int .i64 ro.h,.int .i64 ro.m.b,.int .i64 ro.m.r,.int .i64 ro.m.l,.lit (fresh.map Zj),d]
def chZ:AV:=.agg [.int .u64 0,.int .i64 0,.int .i64 0,.int .i64 0,.int .i64 0,.nils,.nils]
theorem Zqu{b lv q:Nat}{fr:List Nat}(st:St)(hl:lv<b):ZI Zs b st (Yv ro fr (.ref lv ix ver q n))=some (Yv ro fr (.ref lv ix ver q n),st):=by
 show (mapSt (keepN (ZI 5 b)) _ _).bind Ae=_
 simp only[mapSt,keepN,Al,jB,if_false,ZI,oS,if_pos hl,Y3,Ae];rfl
theorem Zqv{L:List Blk}{fr d:List Nat}(hg:L[ix]?=some (.arr 1 ver (d.map Zj)))(hn:n=d.length):
 ZI Zs A.length ⟨A,false,L⟩ (.tup [Yv ro fr (.ref A.length ix ver 0 n),.int .i64 z])=some (.tup [Yv ro fr (.lit (d.map Zj)),.int .i64 z],⟨A,false,L.set ix .dead⟩):=by
 subst hn;have h1:=HX (n:=3) (A:=A) (s:=0) (m:=d.length) hg (by simp) (es':=d.map Zj) (by
  rw[List.drop_zero,List.take_of_length_le (by simp)];exact N6 (k:=.u64) (fun n:Nat=>(n:Int)) 2 0 _ d)
 show (mapSt (ZI 5 A.length) _ _).bind Br=_
 have h2:ZI 5 A.length ⟨A,false,L⟩ (Yv ro fr (.ref A.length ix ver 0 d.length))=some (Yv ro fr (.lit (d.map Zj)),⟨A,false,L.set ix .dead⟩):=by
  show (mapSt (keepN (ZI 4 A.length)) _ _).bind Ae=_
  simp only[mapSt,keepN,Al,jB,if_false,oS];simp only[ZI,oS]at h1 ⊢;simp only[h1,oS,Y3,Ae];rfl
 simp only[mapSt,h2,oS];rfl
theorem CJ{L L':List Blk}{x:Ex}{c4 c5 j4 w4 v4:Nat}{v:AV}{cs:LV}(hA:A=st.A++[(st.ro,st.L)])(hx:x=.norm\/x=.ret)(h4:JZ e c4=some (.ptr A.length j4 v4 0 0))(hg4:L[j4]?=some (.arr w4 v4 [v]))(hv:v=.agg cs)(hc:cs.length=7)(h5:JZ e c5=some (.int .i64 z))
 (hs:ZI Zs A.length ⟨A,false,L⟩ (.tup [v,.int .i64 z])=some (.tup [w,.int .i64 z],⟨A,false,L'⟩)):QT false [.c c4 true 7,.s c5] (x,e,⟨A,false,L⟩)=some (.tup [w,.int .i64 z],st):=by
 refine Bi (v:=.tup [v,.int .i64 z]) hA hx ?_ hs Y;have h1:AH ⟨A,false,L⟩ e (.c c4 true 7)=some v:=by
  subst hv;simp only[AH,Z0 h4,loadP,St.get_cur,hg4,vis,Ax,if_true,List.getElem?_cons_zero,oS,Qs,AV.cells,List.drop_zero];rw[List.take_of_length_le (by omega)];simp[hc];rfl
 simp only[QE,AM,h1,oS];simp only[AH,Z0 h5,oS,Option.map_some,BE]
def Xw(N:ZC)(rs:List Ro)(t:Tr):List Nat:=(rs.flatMap fun r=>Aw N r t).foldl QD []
theorem AROk.lv{r:AR}(h:AROk r):∀l,Lv r.nodes l->l.length<=16384:=fun l hl=>h.few hl.1 hl.2
theorem AROk.nz{r:AR}(h:AROk r):∀o x,lk r.nodes o=some x->o≠0:=fun o x hx=>(h.hnd hx).2
theorem Vc{N:ZC}(hN:GoodN N)(hK:∀l,Lv N l->l.length<=16384){r:Ro}(hr:RtOk N r)(t:Tr):(Aw N r t).length<=16384:=by
 unfold Aw;split
 ·simp
 ·rename_i h0
  obtain⟨x,x1,x2,x3,x4⟩:∃x,lk N r.at_=some x/\NdOk x/\x.h=r.h/\x.mea=r.m:=by
   rcases hr with rfl|w
   ·exact absurd Y h0
   ·exact w.2
  have:=hK _ (VS hN r.h r.at_ [] x x1 x3 ⟨by simp,by simp⟩);exact Nat.le_trans (List.length_filter_le ..) this
theorem Zqw{N:ZC}(hN:GoodN N)(hK:∀l,Lv N l->l.length<=16384)(t:Tr):∀ {rs:List Ro},(∀r∈rs,RtOk N r)->(rs.flatMap fun r=>Aw N r t).length<=rs.length*16384:=by
 intro rs;induction rs with
 | nil=>intro _;simp
 | cons r l ih =>
  intro h;have h1:=Vc hN hK (h r (by simp)) t;have h2:=ih (fun z hz=>h z (List.mem_cons_of_mem _ hz));rw[List.flatMap_cons,lL,List.length_cons];omega
theorem DrOk.app{M:Nat}{G:List Blk}{dv:AV}{w:List Nat}(h:DrOk M G dv w)(T:List Blk):DrOk M (G++T) dv w:=by
 rcases h with h|⟨j,ver,h1,h2,h3⟩
 ·exact .inl h
 ·exact .inr ⟨j,ver,h1,h2,by rw[jL (List.getElem?_eq_some_iff.1 h3).1];exact h3⟩
theorem Vd{N:ZC}(hN:GoodN N)(hK:∀l,Lv N l->l.length<=16384)(hz:∀o x,lk N o=some x->o≠0){b:Nat}(hR:∀L,Rd ⟨A,false,L⟩ la (b+5) N){rs:List Ro}(hrs:∀r∈rs,RtOk N r)(hl:rs.length<=3)(hv:VE N t)(hb:t.bytes<=65536){b6:Blk}
 (hQ:∀G dv,DrOk A.length G dv (Xw N rs t)->Rk (S Tb) k Q .norm [(0,.ptr la (b+5) 0 0 0),(6,.ptr A.length 0 0 0 0),(8,.ptr A.length 1 0 0 0),(10,.ptr A.length 2 0 0 0),(11,.map A.length 3),(29,.lit (rs.map Ro.av)),(30,.int .i64 rs.length),(31,.int .i64 rs.length),(32,.bool false)] ⟨A,false,chL b6 t dv (Xw N rs t) G⟩) :
 Ru (S Tb) p_edit_change_21.loop (.blk 0::k) Q [(0,.ptr la (b+5) 0 0 0),(6,.ptr A.length 0 0 0 0),(8,.ptr A.length 1 0 0 0),(10,.ptr A.length 2 0 0 0),(11,.map A.length 3),(29,.lit (rs.map Ro.av)),(30,.int .i64 rs.length),(31,.int .i64 0)] ⟨A,false,chL b6 t .nils [] []⟩:=by
 refine Ze (α:=Nat × AV × List Blk) (fun p=>[(0,.ptr la (b+5) 0 0 0),(6,.ptr A.length 0 0 0 0),(8,.ptr A.length 1 0 0 0),(10,.ptr A.length 2 0 0 0),(11,.map A.length 3),(29,.lit (rs.map Ro.av)),(30,.int .i64 rs.length),(31,.int .i64 p.1)])
  (fun p=>⟨A,false,chL b6 t p.2.1 (Xw N (rs.take p.1) t) p.2.2⟩) (fun p=>p.1<=rs.length/\DrOk A.length p.2.2 p.2.1 (Xw N (rs.take p.1) t)) (fun p=>rs.length-p.1) (0,.nils,[]) rfl rfl ⟨Nat.zero_le _,.inl ⟨rfl,rfl⟩⟩ ?_
 rintro⟨i,dv,G⟩ ⟨hi,hD⟩;simp only at hi hD ⊢;rcases Nat.lt_or_ge i rs.length with hlt|hge
 ·obtain⟨ro,hro⟩:∃x,rs[i]?=some x:=⟨rs[i]'hlt,jE _⟩
  have q:0<=((i:Nat):Int)/\rs[((i:Nat):Int).toNat]?=some ro:=⟨by omega,by rw[show ((i:Nat):Int).toNat=i by omega];exact hro⟩
  have hrt:=hrs ro (jM hro);have hDp:=fun L=>Zny hN hK hz (hR L) hrt hv hb
  have hdl:=Vc hN hK hrt t;have hfl:=Zqw hN hK t (rs:=rs.take i) (fun z hz=>hrs z (List.mem_of_mem_take hz));rw[List.length_take,Nat.min_eq_left hi]at hfl;have hwl:=Vb ((rs.take i).flatMap fun r=>Aw N r t) [];change (Xw N (rs.take i) t).length<=_ at hwl;simp only[List.length_nil]at hwl;have hnx:Xw N (rs.take (i+1)) t=(Aw N ro t).foldl QD (Xw N (rs.take i) t):=by
   unfold Xw;rw[ZF hro,List.flatMap_append,List.foldl_append];simp
  have hin:=fun k Q hQ=>Zqt (A:=A) (b6:=b6) (t:=t) (dl:=Aw N ro t) (hD.app [.arr 5 0 [ro.av]]) (by omega) (v0:=.ptr la (b+5) 0 0 0) (v29:=.lit (rs.map Ro.av)) (v30:=.int .i64 rs.length) (v31:=.int .i64 i) (k:=k) (Q:=Q) hQ
  rw[<- hnx]at hin;generalize Aw N ro t=dl at *;generalize Xw N (rs.take i) t=W at *;have f13:∀b0 b1 b2 b3:Blk,(b0::b1::b2::b3::G++[Blk.arr 5 0 [ro.av]])[(b0::b1::b2::b3::G).length]?=some (.arr 5 0 [ro.av]):=fun _ _ _ _=>List.getElem?_concat_length ..
  obtain⟨ra,rh,rm⟩:=ro;unfold chL Ro.av at *;repeat'(first|refine hin _ _ (fun G' dv' hD'=>?_)|refine QY (f:=Ro.av) Y Y q (fun _=>rfl) ?_|refine JS Y ?_|refine ruS Y ?_|refine isS Y ?_|refine rkS Y ?_|refine QU Y Y Y ?_|refine Zx Y Y ?_|refine cm0 Y Y Y ?_ ?_|(intro _;try omega)|refine ZV Y Y (by omega) ?_|refine Zi Y Y Y ?_|refine Jr Y Y Y Y Y Y ?_|refine zA0 Y Y (hDp _) ?_|refine ZE Y Y Y (Zb _) ?_)
  all_goals try first|contradiction|omega
  exact⟨(i+1,dv',G'),⟨rfl,rfl⟩,⟨by simp only;omega,hD'⟩,by simp only;omega⟩
 ·obtain rfl:i=rs.length:=by omega
  rw[List.take_length]at hD ⊢;repeat'(first|refine ruS Y ?_|refine Jg Y ?_|refine rkS Y ?_|refine cm0 Y Y Y ?_ ?_|(intro _;try omega))
  all_goals try omega
  exact hQ G dv hD
theorem Zjz{b:Nat}{r:AR}(hA:Has st la b r)(ho:AROk r)(hg:GoodN r.nodes){rs:List Ro}(hrs:∀r'∈rs,RtOk r.nodes r')(hl:rs.length<=3)(hv:VE r.nodes t)(hb:t.bytes<=65536){mk:FuncId}
 (hmk:∀A L,A=st.ps->S Tb mk caps ⟨A,false,L⟩=some (.tup [t.av,.int .i64 0],⟨A,false,L⟩)) (hwk:ZG (ZS ([]++[]++caps))=some caps) (hn:r.n<nw t) :
 S Tb Ha [.ptr la (b+5) 0 0 0,.func (.func mk) [] caps,.lit (rs.map Ro.av)] st=some (.tup [chZ,.int .i64 6],st):=by
 refine Zv Y (fun A hA'=>?_);have hM:=fun L=>hmk A L hA'
 have hlp:=fun k Q hQ=>Vd (A:=A) hg ho.lv ho.nz (fun L=>(hA.r.push hA' (ro:=false) (L:=L)).rd) hrs hl hv hb (b6:=.arr 7 0 [chZ]) (k:=k) (Q:=Q) hQ
 have hWr:=fun L=>U2 (hA.push hA' (ro:=false) (L:=L)) ho hg hv hb hn
 unfold chL at hlp;unfold chZ at *;repeat'(first|refine ZA Y Y hwk (hM _) ?_|refine hlp _ _ (fun G dv hD=>?_)|refine JS Y ?_|refine ruS Y ?_|refine isS Y ?_|refine ZO ?_|refine cm0 Y Y Y ?_ ?_|(intro _;try omega)|refine Zf Y Y Y ?_|refine ZX Y Y Y ?_|refine Zg Y Y Y Y Y Y ?_|refine DH Y ?_|refine ZE Y Y Y (Zb _) ?_|refine Zg Y Y Y (Z9 _ _ _) (Qg _ _) Y ?_)
 all_goals try contradiction
 rcases hD with⟨_,rfl⟩|⟨j,ver,rfl,_,_⟩
 ·repeat'(first|refine ruS Y ?_|refine isS Y ?_|refine rkS Y ?_|refine cm0 Y Y Y ?_ ?_|(intro _;try omega)|refine Zf Y Y Y ?_|refine Qn Y Y Y Y Y Y ?_|refine zA0 Y Y (hWr _) ?_)
  all_goals try contradiction
  exact CJ hA' (.inr Y) Y Y Y Y Y Y
 ·repeat'(first|refine ruS Y ?_|refine isS Y ?_|refine rkS Y ?_|refine cm0 Y Y Y ?_ ?_|(intro _;try omega)|refine Zf Y Y Y ?_|refine Qn Y Y Y Y Y Y ?_|refine zA0 Y Y (hWr _) ?_)
  all_goals try contradiction
  exact CJ hA' (.inr Y) Y Y Y Y Y Y
theorem Zqx{b:Nat}{r:AR}(hA:Has st la b r)(ho:AROk r)(hg:GoodN r.nodes){rs:List Ro}(hrs:∀r'∈rs,RtOk r.nodes r')(hl:rs.length<=3)(hv:VE r.nodes t)(hb:t.bytes<=65536){mk:FuncId}
 (hmk:∀A L,A=st.ps->S Tb mk caps ⟨A,false,L⟩=some (.tup [t.av,.int .i64 0],⟨A,false,L⟩)) (hwk:ZG (ZS ([]++[]++caps))=some caps) (hn:nw t<=r.n) :
 S Tb Ha [.ptr la (b+5) 0 0 0,.func (.func mk) [] caps,.lit (rs.map Ro.av)] st=some (.tup [Yv (wrV t r).2.1 (wrV t r).2.2 (slH (Xw r.nodes rs t)),.int .i64 0],QG st la b (wrV t r).1):=by
 refine AS Y (fun A hA'=>?_);have hM:=fun L=>hmk A L hA'
 have hlp:=fun k Q hQ=>Vd (A:=A) hg ho.lv ho.nz (fun L=>(hA.r.push hA' (ro:=false) (L:=L)).rd) hrs hl hv hb (b6:=.arr 7 0 [chZ]) (k:=k) (Q:=Q) hQ
 have hle:=hA.le;have hWr:=fun L=>OF (hA.push hA' (ro:=false) (L:=L)) ho hg hv hb hn
 simp only[Cm hA' hle]at hWr;have hAl:A.length=((QG st la b (wrV t r).1).ps).length:=by rw[hA'];simp[CB]
 generalize (wrV t r).2.1=ro at *;generalize (wrV t r).2.2=fr at *;obtain⟨A2,hA2⟩:∃A2,A2=(QG st la b (wrV t r).1).ps:=⟨_,rfl⟩;rw[<- hA2]at hWr hAl;unfold chL at hlp;unfold chZ at *;repeat'(first|refine ZA Y Y hwk (hM _) ?_|refine hlp _ _ (fun G dv hD=>?_)|refine JS Y ?_|refine ruS Y ?_|refine isS Y ?_|refine ZO ?_|refine cm0 Y Y Y ?_ ?_|(intro _;try omega)|refine Zf Y Y Y ?_|refine ZX Y Y Y ?_|refine Zg Y Y Y Y Y Y ?_|refine DH Y ?_|refine ZE Y Y Y (Zb _) ?_|refine Zg Y Y Y (Z9 _ _ _) (Qg _ _) Y ?_)
 all_goals try contradiction
 obtain⟨ra,rh,rm⟩:=ro;unfold Ro.av at hWr;rcases hD with⟨e,rfl⟩|⟨j,ver,rfl,hne,hgd⟩
 ·rw[e]
  repeat'(first|refine isS Y ?_|refine zA0 Y Y (hWr _) ?_)
  rw[hAl];repeat'(first|refine ruS Y ?_|refine isS Y ?_|refine ZE Y Y Y Y ?_|refine rkS Y ?_|refine cm0 Y Y Y ?_ ?_|(intro _;try omega)|refine Qn Y Y Y Y Y Y ?_)
  all_goals try contradiction
  exact CJ (w:=Yv ⟨ra,rh,rm⟩ fr .nils) hA2 (.inr Y) Y Y Y Y Y Y
 ·have hg3:∀b0 b1 b2 b3:Blk,(b0::b1::b2::b3::G)[j+4]?=some (.arr 1 ver ((Xw r.nodes rs t).map Zj)):=fun _ _ _ _=>hgd
  unfold slH;rw[if_neg hne];generalize Xw r.nodes rs t=dd at *;repeat'(first|refine isS Y ?_|refine zA0 Y Y (hWr _) ?_)
  rw[hAl];repeat'(first|refine Qn Y Y Y Y (Zqu (ro:=⟨ra,rh,rm⟩) (fr:=fr) _ (Nat.lt_succ_self _)) Y ?_|refine ruS Y ?_|refine isS Y ?_|refine ZE Y Y Y Y ?_|refine rkS Y ?_|refine cm0 Y Y Y ?_ ?_|(intro _;try omega)|refine Qn Y Y Y Y Y Y ?_)
  all_goals try contradiction
  exact CJ (v:=Yv ⟨ra,rh,rm⟩ fr (.ref A2.length (j+4) ver 0 dd.length)) (w:=Yv ⟨ra,rh,rm⟩ fr (.lit (dd.map Zj))) hA2 (.inr Y) Y Y Y Y Y (Zqv (hg3 _ _ _ _) Y)
noncomputable def edV(N:ZC)(ro:Ro)(a n:Int)(s:B8):Tr:=(At N (Yg ro) a n s).own
structure EdOk(N:ZC)(ro:Ro)(s0:B8)(a n:Int)(s:B8):Prop where
 rt:Rt N ro s0
 a0:0<=a
 n0:0<=n
 le:a+n<=s0.length
 b1:s0.length<=60000
 b2:s.length<=2000
theorem EdOk.ok{N:ZC}(hN:GoodN N){n:Int}(h:EdOk N ro s0 a n s):
 VE N (edV N ro a n s)/\(edV N ro a n s).bytes=s0.length-n+s.length/\(edV N ro a n s).txt N=s0.take a.toNat++s++s0.drop (a+n).toNat:=by
 obtain⟨hk,htx⟩:=h.rt.keep;have hb:=(h.rt.b hN).1;have h1:=h.a0;have h2:=h.n0;have h3:=h.le;have h4:=h.b1;have h5:=h.b2;have:=IF hN (s:=s) hk h1 h2 (by omega) (by omega) (by omega);refine⟨U6 this.ve,?_,?_⟩
 ·show (Tr.own _).bytes=_;rw[Ic,this.bytes,hb]
 ·show (Tr.own _).txt N=_;rw[ZtP,this.txt,htx]
theorem Zqy{b:Nat}{N:ZC}(hN:GoodN N)(hR:Rd st la (b+5) N){n:Int}(h:EdOk N ro s0 a n s):
 S Tb LD [.ptr la (b+5) 0 0 0,ro.av,.int .i64 a,.int .i64 n,.str s] st=some (.tup [(edV N ro a n s).av,.int .i64 0],st):=by
 refine Zv Y (fun A hA=>?_);have hRA:=fun L=>hR.push hA (ro:=false) (L:=L)
 have hKp:=fun L=>IU (hRA L) h.rt.rt
 obtain⟨hk,htx⟩:=h.rt.keep;have hb:=(h.rt.b hN).1;have h1:=h.a0;have h2:=h.n0;have h3:=h.le;have h4:=h.b1;have h5:=h.b2;have hRp:=fun L=>UK hN (hRA L) hk (a:=a) (n:=n) (s:=s) h1 h2 (by omega) (by omega) (by omega)
 unfold edV;generalize (At N (Yg ro) a n s).own=t at *;generalize Yg ro=kt at *;obtain⟨ra,rh,rm⟩:=ro;unfold Ro.av at *;repeat'(first|refine ZA Y Y U7 (hRp _) ?_|refine ruS Y ?_|refine isS Y ?_|refine ZE Y Y Y Y ?_|refine rkS Y ?_|refine cm0 Y Y Y ?_ ?_|(intro _;try omega)|refine ZX Y Y Y ?_|refine zA0 Y Y (hKp _) ?_|refine ZE Y Y Y (Zb _) ?_|refine Zg Y Y Y (Z9 _ _ _) (Qg _ _) Y ?_)
 all_goals try first|contradiction|omega
 exact Cf hA (.inr Y) Y Y Y Y
theorem Ve{b lv:Nat}{N:ZC}(hN:GoodN N)(hR:Rd st la (b+5) N){n:Int}(h:EdOk N ro s0 a n s)
 (g0:st.get lv 0=some (.arr 1 0 [.ptr la (b+5) 0 0 0])) (g1:st.get lv 1=some (.arr 5 0 [ro.av])) (g2:st.get lv 2=some (.arr 1 0 [.int .i64 a])) (g3:st.get lv 3=some (.arr 1 0 [.int .i64 n])) (g4:st.get lv 4=some (.arr 1 0 [.str s])) :
 S Tb YO [.ptr lv 0 0 0 0,.ptr lv 1 0 0 0,.ptr lv 2 0 0 0,.ptr lv 3 0 0 0,.ptr lv 4 0 0 0] st=some (.tup [(edV N ro a n s).av,.int .i64 0],st):=by
 refine Zv Y (fun A hA=>?_);have hPl:=fun L=>Zqy hN (hR.push hA (ro:=false) (L:=L)) h
 have k0:=fun L=>ZD hA (ro:=false) (L:=L) g0
 have k1:=fun L=>ZD hA (ro:=false) (L:=L) g1
 have k2:=fun L=>ZD hA (ro:=false) (L:=L) g2
 have k3:=fun L=>ZD hA (ro:=false) (L:=L) g3
 have k4:=fun L=>ZD hA (ro:=false) (L:=L) g4
 generalize edV N ro a n s=t at *;repeat'(first|refine Zk Y (k0 _) Y Y ?_|refine Zk Y (k1 _) Y (Es _) ?_|refine Zk Y (k2 _) Y Y ?_|refine Zk Y (k3 _) Y Y ?_|refine Zk Y (k4 _) Y Y ?_|refine ruS Y ?_|refine isS Y ?_|refine rkS Y ?_|refine ZX Y Y Y ?_|refine zA0 Y Y (hPl _) ?_|refine Zg Y Y Y (Z9 _ _ _) (Qg _ _) Y ?_)
 all_goals try contradiction
 exact Cf hA (.inr Y) Y Y Y Y
theorem Vf{b:Nat}{r:AR}(hA:Has st la b r)(ho:AROk r)(hg:GoodN r.nodes){n:Int}(h:EdOk r.nodes ro s0 a n s)(hn:nw (edV r.nodes ro a n s)<=r.n):
 S Tb XY [.ptr la (b+5) 0 0 0,ro.av,.int .i64 a,.int .i64 n,.str s] st=some (.tup [Yv (wrV (edV r.nodes ro a n s) r).2.1 (wrV (edV r.nodes ro a n s) r).2.2 (slH (Xw r.nodes [ro] (edV r.nodes ro a n s))),.int .i64 0],QG st la b (wrV (edV r.nodes ro a n s) r).1):=by
 refine AS Y (fun A hA'=>?_);have hle:=hA.le;obtain⟨hv,hvb,_⟩:=h.ok hg;have h1:=h.n0;have h4:=h.b1;have h5:=h.b2
 have hCh:=Zqx (st:=⟨A,false,[.arr 1 0 [.ptr la (b+5) 0 0 0],.arr 5 0 [ro.av],.arr 1 0 [.int .i64 a],.arr 1 0 [.int .i64 n],.arr 1 0 [.str s],.arr 7 0 [chZ]]⟩) (hA.push hA') ho hg (rs:=[ro]) (fun z hz=>by rw[List.mem_singleton]at hz;rw[hz];exact h.rt.rt) (by simp) hv (by omega) (mk:=YO) (caps:=[.ptr A.length 0 0 0 0,.ptr A.length 1 0 0 0,.ptr A.length 2 0 0 0,.ptr A.length 3 0 0 0,.ptr A.length 4 0 0 0])
  (fun A2 L h2=>Ve hg ((hA.push hA').r.rd.push h2) h (ZD h2 (St.get_cur ..)) (ZD h2 (St.get_cur ..)) (ZD h2 (St.get_cur ..)) (ZD h2 (St.get_cur ..)) (ZD h2 (St.get_cur ..))) rfl hn
 rw[Cm hA' hle]at hCh;have hAl:A.length=((QG st la b (wrV (edV r.nodes ro a n s) r).1).ps).length:=by rw[hA'];simp[CB]
 generalize (wrV (edV r.nodes ro a n s) r).2.1=r2 at *;generalize (wrV (edV r.nodes ro a n s) r).2.2=fr at *;generalize Xw r.nodes [ro] (edV r.nodes ro a n s)=dd at *;obtain⟨A2,hA2⟩:∃A2,A2=(QG st la b (wrV (edV r.nodes ro a n s) r).1).ps:=⟨_,rfl⟩;rw[<- hA2]at hCh hAl;simp only[jC,List.map_nil]at hCh;obtain⟨x1,x2,x3⟩:=r2;unfold chZ at hCh;unfold Ro.av at hCh ⊢;by_cases hd:dd=[]
 ·subst hd
  rw[show slH []=.nils from rfl]at hCh ⊢;unfold Yv at hCh;repeat'(first|refine ruS Y ?_|refine isS Y ?_|refine ZE Y Y Y Y ?_|refine ZO ?_|refine X3 Y Y ?_|refine ZX Y Y Y ?_|refine Z7 Y Y Y Y ?_|refine ZA Y Y Y (hCh) ?_)
  rw[hAl];repeat'(first|refine isS Y ?_|refine rkS Y ?_|refine Zg Y Y Y Y Y Y ?_|refine Xz ?_)
  all_goals try contradiction
  exact CJ (w:=Yv ⟨x1,x2,x3⟩ fr .nils) hA2 (.inr Y) Y Y Y Y Y Y
 ·rw[show slH dd=.lit (dd.map Zj) from if_neg hd]at hCh ⊢
  unfold Yv at hCh;repeat'(first|refine ruS Y ?_|refine isS Y ?_|refine ZE Y Y Y Y ?_|refine ZO ?_|refine X3 Y Y ?_|refine ZX Y Y Y ?_|refine Z7 Y Y Y Y ?_|refine ZA Y Y Y (hCh) ?_)
  rw[hAl];repeat'(first|refine isS Y ?_|refine rkS Y ?_|refine Zg Y Y Y Y Y Y ?_|refine Xz ?_)
  all_goals try contradiction
  exact CJ (w:=Yv ⟨x1,x2,x3⟩ fr (.lit (dd.map Zj))) hA2 (.inr Y) Y Y Y Y Y Y
theorem Zep{b:Nat}{r:AR}(hA:Has st la b r)(ho:AROk r)(hg:GoodN r.nodes){n:Int}(h:EdOk r.nodes ro s0 a n s)(hn:r.n<nw (edV r.nodes ro a n s)):
 S Tb XY [.ptr la (b+5) 0 0 0,ro.av,.int .i64 a,.int .i64 n,.str s] st=some (.tup [chZ,.int .i64 6],st):=by
 refine Zv Y (fun A hA'=>?_);have hle:=hA.le;obtain⟨hv,hvb,_⟩:=h.ok hg;have h1:=h.n0;have h4:=h.b1;have h5:=h.b2
 have hCh:=Zjz (st:=⟨A,false,[.arr 1 0 [.ptr la (b+5) 0 0 0],.arr 5 0 [ro.av],.arr 1 0 [.int .i64 a],.arr 1 0 [.int .i64 n],.arr 1 0 [.str s],.arr 7 0 [chZ]]⟩) (hA.push hA') ho hg (rs:=[ro]) (fun z hz=>by rw[List.mem_singleton]at hz;rw[hz];exact h.rt.rt) (by simp) hv (by omega) (mk:=YO) (caps:=[.ptr A.length 0 0 0 0,.ptr A.length 1 0 0 0,.ptr A.length 2 0 0 0,.ptr A.length 3 0 0 0,.ptr A.length 4 0 0 0])
  (fun A2 L h2=>Ve hg ((hA.push hA').r.rd.push h2) h (ZD h2 (St.get_cur ..)) (ZD h2 (St.get_cur ..)) (ZD h2 (St.get_cur ..)) (ZD h2 (St.get_cur ..)) (ZD h2 (St.get_cur ..))) rfl hn
 simp only[jC,List.map_nil]at hCh;unfold chZ at hCh ⊢;unfold Ro.av at hCh ⊢;repeat'(first|refine ruS Y ?_|refine isS Y ?_|refine ZE Y Y Y Y ?_|refine rkS Y ?_|refine X3 Y Y ?_|refine ZX Y Y Y ?_|refine Zg Y Y Y Y Y Y ?_|refine Z7 Y Y Y Y ?_|refine ZA Y Y Y (hCh) ?_)
 all_goals try contradiction
 exact CJ (w:=chZ) hA' (.inr Y) Y Y Y Y Y Y
theorem ZcA(w:List Nat)(hl:w.length<9223372036854775808)(st:St):S Tb JL [.lit (w.map Zj),.lit (w.map Zj)] st=some (.bool true,st):=by
 refine Zv Y (fun A hA=>?_);repeat'(first|refine JS Y ?_|refine ruS Y ?_|refine isS Y ?_|refine ZO ?_|refine cm0 Y Y Y ?_ ?_|(intro _;try omega))
 all_goals try contradiction
 refine Ze (α:=Nat) (fun i=>[(0,.lit (w.map Zj)),(1,.lit (w.map Zj)),(5,.int .i64 i)]) (fun i=>⟨A,false,[]⟩) (fun i=>i<=w.length) (fun i=>w.length-i) 0 Y Y (Nat.zero_le _) ?_;intro i hi;replace hi:i<=w.length:=hi;rcases Nat.lt_or_ge i w.length with hlt|hge
 ·obtain⟨k,hk⟩:∃k,w[i]?=some k:=⟨w[i]'hlt,jE _⟩
  have q:0<=((i:Nat):Int)/\w[((i:Nat):Int).toNat]?=some k:=⟨by omega,by rw[show ((i:Nat):Int).toNat=i by omega];exact hk⟩
  repeat'(first|refine JS Y ?_|refine QY (f:=Zj) Y Y q (fun _=>rfl) ?_|refine ruS Y ?_|refine isS Y ?_|refine rkS Y ?_|refine Zx Y Y ?_|refine cm0 Y Y Y ?_ ?_|(intro _;try omega)|refine ZV Y Y (by omega) ?_)
  all_goals try first|contradiction|omega
  all_goals first|exact absurd Y ‹_›|exact⟨i+1,⟨rfl,rfl⟩,by omega,by omega⟩
 ·obtain rfl:i=w.length:=by omega
  repeat'(first|refine JS Y ?_|refine ruS Y ?_|refine isS Y ?_|refine rkS Y ?_|refine cm0 Y Y Y ?_ ?_|(intro _;try omega))
  all_goals try omega
  refine ZQ hA (by simp) Y Y Y Y ?_;rfl
structure Op where
 at_:Int
 num:Int
 text:B8
def Zvs(l:List Op):Prop:=∃s∈l,300<s.text.length
noncomputable instance (l:List Op):Decidable (Zvs l):=Classical.propDecidable _
def exU:B8:=[97,98,99,100,101,102,103,104,105,106,107,108,109,110,111,112,113]
theorem Et:QR exU=.mk 0 1 .zero [] (some [Jj [97,98,99,100,101,102,103,104,105],Jj [106,107,108,109,110,111,112,113]]):=by
 rfl
noncomputable def exUR:AR:=(wrV (QR exU) (Qq 8 4)).1
theorem Vg:(wrV (QR exU) (Qq 8 4)).2.1=⟨65538,1,⟨17,17,0⟩⟩:=by
 rw[Et];rfl
theorem Vh:nw (QR exU)=3:=by rw[Et];rfl
theorem Zvt:exUR.n=5:=by unfold exUR;rw[Et];rfl
theorem Zuz:nw (edV exUR.nodes ⟨65538,1,⟨17,17,0⟩⟩ 9 0 [120,121,122])<=5:=by
 unfold exUR;rw[Et];decide +kernel
def exURo:Ro:=⟨65538,1,⟨17,17,0⟩⟩
theorem exU_ok:AROk exUR/\GoodN exUR.nodes/\Rt exUR.nodes exURo exU:=by
 obtain⟨b1,b2,b3⟩:=YY IG (s:=exU) (by decide);have ho:=OU 8 4 (by omega) (by omega);obtain⟨w1,w2⟩:=CI (r:=Qq 8 4) (Yq [] [] [] _) ho IG b1 (by rw[b3];decide) (by rw[Vh];decide);rw[show (Qq 8 4).nodes=[] from rfl,b2,Vg]at w2;exact⟨w1.ok,w1.good,w2⟩
theorem exU_edOk:EdOk exUR.nodes exURo exU 9 0 [120,121,122]:=⟨exU_ok.2.2,by decide,by decide,by decide,by decide,by decide⟩
theorem Vi:nw (edV exUR.nodes exURo 9 0 [120,121,122])<=exUR.n:=by rw[Zvt];exact Zuz
theorem Zq1{b:Nat}{r:AR}(hA:Has st la b r)(ho:AROk r)(hg:GoodN r.nodes)(h:EdOk r.nodes ro s0 a 0 s)(hn:nw (edV r.nodes ro a 0 s)<=r.n):
 S Tb X9 [.ptr la (b+5) 0 0 0,ro.av,.int .i64 a,.str s] st=some (.tup [Yv (wrV (edV r.nodes ro a 0 s) r).2.1 (wrV (edV r.nodes ro a 0 s) r).2.2 (slH (Xw r.nodes [ro] (edV r.nodes ro a 0 s))),.int .i64 0],QG st la b (wrV (edV r.nodes ro a 0 s) r).1):=by
 refine AS Y (fun A hA'=>?_);have hle:=hA.le;have hCh:=fun L=>Vf (hA.push hA' (ro:=false) (L:=L)) ho hg h hn
 simp only[Cm hA' hle]at hCh;have hAl:A.length=((QG st la b (wrV (edV r.nodes ro a 0 s) r).1).ps).length:=by rw[hA'];simp[CB]
 generalize (wrV (edV r.nodes ro a 0 s) r).2.1=r2 at *;generalize (wrV (edV r.nodes ro a 0 s) r).2.2=fr at *;generalize Xw r.nodes [ro] (edV r.nodes ro a 0 s)=dd at *;obtain⟨A2,hA2⟩:∃A2,A2=(QG st la b (wrV (edV r.nodes ro a 0 s) r).1).ps:=⟨_,rfl⟩;rw[<- hA2]at hCh hAl;obtain⟨x1,x2,x3⟩:=r2;unfold Ro.av at hCh ⊢;by_cases hd:dd=[]
 ·subst hd
  rw[show slH []=.nils from rfl]at hCh ⊢;unfold Yv at hCh;repeat'(first|refine ruS Y ?_|refine isS Y ?_|refine ZE Y Y Y Y ?_|refine ZO ?_|refine ZX Y Y Y ?_|refine ZA Y Y Y (hCh _) ?_)
  rw[hAl];repeat'(first|refine isS Y ?_|refine rkS Y ?_|refine Zg Y Y Y Y Y Y ?_|refine Xz ?_)
  all_goals try contradiction
  exact CJ (w:=Yv ⟨x1,x2,x3⟩ fr .nils) hA2 (.inr Y) Y Y Y Y Y Y
 ·rw[show slH dd=.lit (dd.map Zj) from if_neg hd]at hCh ⊢
  unfold Yv at hCh;repeat'(first|refine ruS Y ?_|refine isS Y ?_|refine ZE Y Y Y Y ?_|refine ZO ?_|refine ZX Y Y Y ?_|refine ZA Y Y Y (hCh _) ?_)
  rw[hAl];repeat'(first|refine isS Y ?_|refine rkS Y ?_|refine Zg Y Y Y Y Y Y ?_|refine Xz ?_)
  all_goals try contradiction
  exact CJ (w:=Yv ⟨x1,x2,x3⟩ fr (.lit (dd.map Zj))) hA2 (.inr Y) Y Y Y Y Y Y
def Cr(texts:List B8)(ys:List Ed):Prop:=Cq texts\/Dd ys\/12<ys.length
noncomputable instance (texts:List B8) (ys:List Ed):Decidable (Cr texts ys):=Classical.propDecidable _
theorem Zq2(texts:List B8)(ys:List Ed)(hb:texts.length<9223372036854775808)(hbs:∀s∈texts,s.length<9223372036854775808)(hy:ys.length<9223372036854775808)(hys:∀y∈ys,y.text.length<9223372036854775808)(st:St):
 S Tb XW [.lit (texts.map .str),.lit (ys.map Ed.av)] st=some (.bool (decide (Cr texts ys)),st):=by
 refine Zv Y (fun A hA=>?_);have hLg:=fun st=>Zuo texts hb hbs st
 have hMn:=fun st=>ZqT ys hy hys st
 by_cases hl:Cq texts
 ·rw[decide_eq_true (show Cr texts ys from .inl hl)]
  simp only[decide_eq_true hl]at hLg;repeat'(first|refine ruS Y ?_|refine isS Y ?_|refine rkS Y ?_|refine ZA Y Y Y (hLg _) ?_)
  all_goals try contradiction
  all_goals refine ZQ hA (by simp) Y Y Y Y ?_
  all_goals rfl
 simp only[decide_eq_false hl]at hLg;by_cases hm:Dd ys
 ·rw[decide_eq_true (show Cr texts ys from .inr (.inl hm))]
  simp only[decide_eq_true hm]at hMn;repeat'(first|refine ruS Y ?_|refine isS Y ?_|refine rkS Y ?_|refine ZA Y Y Y (hLg _) ?_|refine ZA Y Y Y (hMn _) ?_)
  all_goals try contradiction
  all_goals refine ZQ hA (by simp) Y Y Y Y ?_
  all_goals rfl
 simp only[decide_eq_false hm]at hMn;by_cases h12:12<ys.length
 ·rw[decide_eq_true (show Cr texts ys from .inr (.inr h12))]
  repeat'(first|refine JS Y ?_|refine ruS Y ?_|refine isS Y ?_|refine rkS Y ?_|refine cm0 Y Y Y ?_ ?_|(intro _;try omega)|refine ZA Y Y Y (hLg _) ?_|refine ZA Y Y Y (hMn _) ?_)
  all_goals try first|contradiction|omega
  all_goals refine ZQ hA (by simp) Y Y Y Y ?_
  all_goals rfl
 ·rw[decide_eq_false (show ¬ Cr texts ys from fun q=>q.elim hl fun q=>q.elim hm h12)]
  repeat'(first|refine JS Y ?_|refine ruS Y ?_|refine isS Y ?_|refine rkS Y ?_|refine cm0 Y Y Y ?_ ?_|(intro _;try omega)|refine ZA Y Y Y (hLg _) ?_|refine ZA Y Y Y (hMn _) ?_)
  all_goals try first|contradiction|omega
  all_goals refine ZQ hA (by simp) Y Y Y Y ?_
  all_goals rfl
theorem OZ(x n:Int)(h0:0<=n)(h1:n<4611686018427387904)(st:St):S Tb Js [.int .i64 x,.int .i64 n] st=some (.int .i64 (JF x n),st):=by
 refine Zv Y (fun A hA=>?_);have hP:=fun st=>Ie x n h0 h1 st
 repeat'(first|refine ruS Y ?_|refine isS Y ?_|refine rkS Y ?_|refine ZA Y Y Y (hP _) ?_)
 refine ZQ hA (by simp) Y Y Y Y ?_;rfl
theorem Ih{N M:ZC}(hN:GoodN N)(hs:Ext N M):∀n o x,lk N o=some x->x.h=n->QM M n o=QM N n o:=by
 intro n;induction n with
 | zero=>intro o x hx hh;rfl
 | succ n ih =>
  intro o x hx hh;obtain⟨hok,hk⟩:=hN o x hx;rw[F8 hx hok hh,F8 (hs _ _ hx) hok hh];have key:∀l:List Kid,(∀k∈l,k∈x.ks)->(l.flatMap fun k=>QM M n k.at_)=l.flatMap fun k=>QM N n k.at_:=by
   intro l;induction l with
   | nil=>intro _;rfl
   | cons k l ih2 =>
    intro h;obtain⟨_,y,y1,y2,_⟩:=hk k (h k (by simp));rw[List.flatMap_cons,List.flatMap_cons,ih k.at_ y y1 (by omega),ih2 (fun q hq=>h q (by simp[hq]))]
  rw[show n+1-1=n by omega,key x.ks fun _ h=>h]
theorem Ii{N M:ZC}(hN:GoodN N)(hE:Ext N M){r:Ro}(h:RtOk N r):ZY M r=ZY N r:=by
 unfold ZY;split
 ·rfl
 ·rename_i q
  rcases h with e|⟨_,x,h1,_,h2,_⟩
  ·rw[e]at q;exact absurd Y q
  ·exact Ih hN hE _ _ x h1 h2
def InP(N:ZC)(P:Nat->Prop)(t:Tr):Prop:=∀o∈t.und N,P o
def InL(N:ZC)(P:Nat->Prop)(l:List Tr):Prop:=∀t∈l,InP N P t
theorem undL_mem{N:ZC}{o:Nat}:∀ {l:List Tr},o∈Tr.undL N l↔∃t∈l,o∈t.und N
 | []=>by simp[Tr.undL]
 | t::l=>by rw[Tr.undL,List.mem_append,undL_mem (l:=l)];simp
section
variable {N:ZC}{P:Nat->Prop}
theorem Vj(h:IsEmpty t):t.und N=[]:=by
 obtain⟨o,h',m,s,k⟩:=t;obtain⟨h1,h2,h3,h4,h5⟩:=h;simp only[Tr.old,Tr.h,Tr.m,Tr.text,Tr.ks]at *;subst h1;rw[Tr.und,if_pos rfl,Tr.undO_getD,h5,Tr.undL]
theorem Zq3(h:IsEmpty t):InP N P t:=fun o ho=>by rw[Vj h]at ho;simp at ho
theorem GF:InP N P .zero:=Zq3 zero_empty
theorem Ij(s:B8):InP N P (Jj s):=fun o ho=>by
 rw[Jj,Tr.und,if_pos rfl,Tr.undO]at ho;simp at ho
theorem GG(hN:GoodN N)(hv:Val N t)(hg:1<=t.h)(h:InP N P t):InL N P (childs N t):=by
 cases hv with
 | kept h0 hx hok hh hm hk =>
  rename_i o h' m k x;intro u hu q hq;simp only[childs,if_neg h0,hx]at hu;obtain⟨kd,hkd,rfl⟩:=List.mem_map.1 hu;obtain⟨k0,y,y1,y2,y3⟩:=(hN o x hx).2 kd hkd;rw[XL,Tr.und,if_neg k0,QS y1]at hq;refine h q ?_;rw[Tr.und,if_neg h0,QS hx,F8 hx hok rfl,List.mem_cons];exact .inr (List.mem_flatMap.2 ⟨kd,hkd,by rw[show x.h-1=y.h by omega];exact hq⟩)
 | leaf h1 h2 hk=>simp[Tr.h]at hg
 | inner hh h2 h4 hl hb hv =>
  rename_i h' l;intro u hu q hq;refine h q ?_;rw[Tr.und,if_pos rfl,Tr.undO];exact undL_mem.2 ⟨u,hu,hq⟩
theorem BV{l:List Tr}(h:InL N P l):InP N P (grp l):=by
 match l,h with
 | [],_=>exact GF
 | [t],h=>exact h t (by simp)
 | t::u::r,h =>
  intro q hq;rw[Ea (by simp),Tr.und,if_pos rfl,Tr.undO]at hq;obtain⟨w,hw,hq⟩:=undL_mem.1 hq;exact h w hw q hq
theorem InL.app{l m:List Tr}(h:InL N P l)(g:InL N P m):InL N P (l++m):=fun t ht=>by
 rcases List.mem_append.1 ht with q|q
 ·exact h t q
 ·exact g t q
theorem InL.tk{l:List Tr}(h:InL N P l)(n:Nat):InL N P (l.take n):=fun t ht=>h t (List.mem_of_mem_take ht)
theorem InL.dr{l:List Tr}(h:InL N P l)(n:Nat):InL N P (l.drop n):=fun t ht=>h t (List.mem_of_mem_drop ht)
theorem Vk{l:List Tr}(h:InL N P l):InL N P (foldM l):=by
 unfold foldM;split
 ·intro t ht;rw[List.mem_singleton]at ht;rw[ht];exact BV h
 ·intro t ht
  simp only[List.mem_cons,List.not_mem_nil,or_false]at ht;rcases ht with rfl|rfl
  ·exact BV (h.tk _)
  ·exact BV (h.dr _)
theorem Vl{x y:Tr}(hx:InP N P x)(hy:InP N P y):InL N P [x,y]:=fun t ht=>by
 simp only[List.mem_cons,List.not_mem_nil,or_false]at ht;rcases ht with rfl|rfl<;>assumption
theorem Oa(hN:GoodN N):∀n x y,Val N x->Val N y->n=x.h+y.h->InP N P x->InP N P y->InL N P (mergeF N n x y)
 | 0,x,y,hx,hy,hn,ix,iy=>by
  rw[mergeF];unfold leavesM;split
  ·exact Vl ix iy
  ·intro t ht
   obtain⟨s,_,rfl⟩:=List.mem_map.1 ht;exact Ij s
 | n+1,x,y,hx,hy,hn,ix,iy=>by
  rw[mergeF];split
  ·have cx:=GG hN hx (by omega) ix
   have cy:=GG hN hy (by omega) iy;split
   ·intro t ht;rw[List.mem_singleton]at ht;rw[ht];exact BV (cx.app cy)
   ·exact Vl ix iy
  ·split
   ·have cx:=GG hN hx (by omega) ix
    obtain⟨c1,c2,c3,c4⟩:=Q4 hN hx (by omega);have hum:(childs N x)[(childs N x).length-1]?.getD Tr.zero∈childs N x:=by rw[jE (by omega)];simp
    obtain⟨u1,u2,u3⟩:=c1 _ hum;exact Vk ((cx.tk _).app (Oa hN n _ y u1 hy (by omega) (cx _ hum) iy))
   ·have cy:=GG hN hy (by omega) iy
    obtain⟨c1,c2,c3,c4⟩:=Q4 hN hy (by omega);have hum:(childs N y)[0]?.getD Tr.zero∈childs N y:=by rw[jE (by omega)];simp
    obtain⟨u1,u2,u3⟩:=c1 _ hum;exact Vk ((Oa hN n x _ hx u1 (by omega) ix (cy _ hum)).app (cy.dr _))
theorem Ik(hN:GoodN N){x y:Tr}(hx:VE N x)(hy:VE N y)(ix:InP N P x)(iy:InP N P y):InP N P (concM N x y):=by
 unfold concM;split
 ·exact iy
 ·rename_i h
  split
  ·exact ix
  ·rename_i h2
   exact BV (Oa hN _ x y (hx.val h) (hy.val h2) Y ix iy)
theorem Vm(hN:GoodN N):∀n t a,VE N t->t.h=n->0<=a->a<=t.bytes->t.bytes<=65536->InP N P t->InP N P (cutF N n t a).1/\InP N P (cutF N n t a).2:=by
 intro n;induction n with
 | zero =>
  intro t a ht hh h0 h1 hb it;rw[cutF];split
  ·exact⟨GF,it⟩
  ·split
   ·exact⟨it,GF⟩
   ·exact⟨Ij _,Ij _⟩
 | succ n ih =>
  intro t a ht hh h0 h1 hb it;rw[cutF];split
  ·exact⟨GF,it⟩
  ·split
   ·exact⟨it,GF⟩
   ·rename_i q1 q2
    have vt:=ht.val (by omega);have h16:=vt.h16;have ic:=GG hN vt (by omega) it;obtain⟨c1,c2,c3,c4⟩:=Q4 hN vt (by omega);generalize childs N t=l at *;obtain⟨s1,s2,s3,s4⟩:=H9 l a (by omega) (fun u hu=>by have:=(c1 u hu).1.pos.2;omega) h0 (by omega);generalize hk:(Qh l a).1=k at *;generalize hb2:(Qh l a).2=b at *;have hl:∀u∈l,Val N u/\u.h=n/\Big u:=fun u hu=>⟨(c1 u hu).1,by have:=(c1 u hu).2.1;omega,(c1 u hu).2.2⟩
    split
    ·exact⟨BV (ic.tk _),BV (ic.dr _)⟩
    ·obtain⟨u,hu⟩:∃u,l[k]?=some u:=⟨l[k],by simp[s1]⟩
     have hum:=jM hu;have hbu:=s4 u hu;have iu:=ic u hum;rw[hu];simp only[Option.getD_some];obtain⟨u1,u2,u3⟩:=hl u hum;have hub:u.bytes<=Tr.bytesL l:=by
      have hsum:Tr.bytesL l=Tr.bytesL (l.take k)+Tr.bytesL (l.drop k):=by rw[<- Tr.bytesL_append,List.take_append_drop]
      have hd:l.drop k=u::l.drop (k+1):=by
       obtain⟨w1,w2⟩:=List.getElem?_eq_some_iff.1 hu;rw[List.drop_eq_getElem_cons w1,w2]
      rw[hd,Tr.bytesL]at hsum;have n1:=Tr.bytesL_nonneg (l:=l.take k) (fun w hw=>(hl w (List.mem_of_mem_take hw)).1.pos.1.nonneg);have n2:=Tr.bytesL_nonneg (l:=l.drop (k+1)) (fun w hw=>(hl w (List.mem_of_mem_drop hw)).1.pos.1.nonneg);omega
     have hc:=Ci hN n u b (.inr u1) u2 s2 (by omega) (by omega);obtain⟨i1,i2⟩:=ih u b (.inr u1) u2 s2 (by omega) (by omega) iu;have g1:=(B_ (l:=l.take k) (h:=n) (by rw[List.length_take];omega) (by omega) (fun w hw=>hl w (List.mem_of_mem_take hw))).1;have g2:=(B_ (l:=l.drop (k+1)) (h:=n) (by rw[List.length_drop];omega) (by omega) (fun w hw=>hl w (List.mem_of_mem_drop hw))).1;exact⟨Ik hN g1 hc.l (BV (ic.tk _)) i1,Ik hN hc.r g2 i2 (BV (ic.dr _))⟩
theorem Vn:∀(n:Nat) (row:List Tr),InL N P row->InL N P (Xg n row)
 | 0,row,h=>by rw[Xg];exact h
 | n+1,row,h=>by
  rw[Xg];split
  ·exact h
  ·refine Vn n _ (fun t ht=>?_)
   unfold Ab at ht;obtain⟨i,hi,rfl⟩:=List.mem_map.1 ht;exact BV (fun u hu=>h u (List.mem_of_mem_drop (List.mem_of_mem_take hu)))
theorem Zq6(s:B8):InP N P (QR s):=by
 unfold QR;refine BV (Vn _ _ (fun t ht=>?_));obtain⟨c,_,rfl⟩:=List.mem_map.1 ht;exact Ij c
theorem Ztc(hN:GoodN N)(ht:VE N t){n:Int}(h0:0<=a)(h1:0<=n)(h2:a+n<=t.bytes)(hb:t.bytes<=65536)(hs:t.bytes-n+s.length<=65536)(it:InP N P t):InP N P (At N t a n s):=by
 unfold At;split
 ·exact it
 ·have c1:=Ci hN t.h t a ht rfl h0 (by omega) hb
  obtain⟨i1,i2⟩:=Vm hN t.h t a ht rfl h0 (by omega) hb it;generalize cutF N t.h t a=q at *;obtain⟨l,m⟩:=q;simp only at *;have hm:=c1.rb;have hl:=c1.lb;simp only at hm hl;have c2:=Ci hN m.h m n c1.r rfl h1 (by omega) (by omega);obtain⟨i3,i4⟩:=Vm hN m.h m n c1.r rfl h1 (by omega) (by omega) i2;generalize cutF N m.h m n=q at *;obtain⟨d,r⟩:=q;simp only at *;obtain⟨b1,b2,b3⟩:=YY hN (s:=s) (by omega);have k1:=Ch hN c1.l b1 (by rw[b3];simp only;omega);exact Ik hN k1.ve c2.r (Ik hN c1.l b1 i1 (Zq6 s)) i4
theorem Ztd(t:Tr):t.own.und N=t.und N:=by
 induction t using Tr.ind with
 | step o h m s k ih =>
  rw[Tr.own,Tr.und,Tr.und];split
  ·rw[Tr.undO_getD,Tr.undO_getD,Ep]
   generalize k.getD []=l at ih;induction l with
   | nil=>rfl
   | cons a l ih2=>rw[jC,Tr.undL,Tr.undL,ih a (by simp),ih2 (fun t ht=>ih t (by simp[ht]))]
  ·rfl
end
theorem Zq7{N:ZC}{r:Ro}(h:RtOk N r):(Yg r).und N=ZY N r:=by
 unfold Yg ZY;split
 ·rfl
 ·rename_i h0
  obtain⟨x,x1,x2,x3,x4⟩:∃x,lk N r.at_=some x/\NdOk x/\x.h=r.h/\x.mea=r.m:=by
   rcases h with rfl|w
   ·exact absurd Y h0
   ·exact w.2
  rw[Tr.keep,Tr.und,if_neg h0,QS x1,x3]
theorem Zu0{N:ZC}(hN:GoodN N){n:Int}(h:EdOk N ro s0 a n s):∀o∈(edV N ro a n s).und N,o∈ZY N ro:=by
 obtain⟨hk,htx⟩:=h.rt.keep;have hb:=(h.rt.b hN).1;have h1:=h.a0;have h2:=h.n0;have h3:=h.le;have h4:=h.b1;have h5:=h.b2;unfold edV;rw[Ztd];exact Ztc (P:=fun o=>o∈ZY N ro) hN hk h1 h2 (by omega) (by omega) (by omega) (fun o ho=>by rw[Zq7 h.rt.rt]at ho;exact ho)
def WU(N:ZC)(t:Tr):Prop:=∀r:AR,AROk r->GoodN r.nodes->Ext N r.nodes->t.cnt<=r.n->∀o,o∈QM (t.wr r).1.nodes t.h (t.wr r).2.1.at_↔o∈(t.wr r).2.2\/o∈t.und N
theorem Zu1{N:ZC}(hv:Val N t)(hb:t.bytes<=65536){r:AR}(ho:AROk r)(hg:GoodN r.nodes)(hE:Ext N r.nodes)(hc:t.cnt<=r.n):
 WrB r t.cnt (t.wr r).1 (t.wr r).2.2/\∃y,lk (t.wr r).1.nodes (t.wr r).2.1.at_=some y/\y.h=t.h:=by
 have hv2:=hv.ext hE;obtain⟨h1,h2⟩:=OR (Yq [] [] [] r) ho hg (.inr hv2) hb (by rw[CG hv2];exact hc);rw[IT hv2,CG hv2]at *;refine⟨h1,?_⟩;rcases h2 with⟨he,_⟩|⟨_,h2⟩
 ·exact absurd he hv.not_empty
 ·obtain⟨y,y1,y2,y3,y4⟩:=h2.live
  exact⟨y,y1,y3⟩
structure WLs(N:ZC)(l:List Tr)(h:Nat)(r:AR):Prop where
 ok:AROk (Tr.wrL l r).1
 good:GoodN (Tr.wrL l r).1.nodes
 ext:Ext r.nodes (Tr.wrL l r).1.nodes
 n:(Tr.wrL l r).1.n+Tr.cntL l=r.n
 live:∀k∈(Tr.wrL l r).2.1,∃y,lk (Tr.wrL l r).1.nodes k.at_=some y/\y.h=h
 und:∀o,(∃k∈(Tr.wrL l r).2.1,o∈QM (Tr.wrL l r).1.nodes h k.at_)↔o∈(Tr.wrL l r).2.2\/o∈Tr.undL N l
theorem Zte{N:ZC}{h:Nat}:∀(l:List Tr),(∀u∈l,Val N u/\u.h=h/\u.bytes<=65536/\WU N u)->∀r,AROk r->GoodN r.nodes->Ext N r.nodes->Tr.cntL l<=r.n->WLs N l h r:=by
 intro l;induction l with
 | nil =>
  intro _ r ho hg hE hc;exact⟨ho,hg,.refl _,by simp[Tr.wrL,Tr.cntL],fun k hk=>by simp[Tr.wrL]at hk,fun o=>by simp[Tr.wrL,Tr.undL]⟩
 | cons t l ih =>
  intro hl r ho hg hE hc;rw[Tr.cntL]at hc;obtain⟨v1,v2,v3,v4⟩:=hl t (by simp);obtain⟨b,y,y1,y2⟩:=Zu1 v1 v3 ho hg hE (by omega);have hn:=b.n;have w:=ih (fun u hu=>hl u (by simp[hu])) (t.wr r).1 b.ok b.good (hE.trans b.ext) (by omega);have hu:=v4 r ho hg hE (by omega);have hka:((t.wr r).2.1.kid).at_=(t.wr r).2.1.at_:=rfl;have he:QM (Tr.wrL l (t.wr r).1).1.nodes h (t.wr r).2.1.at_=QM (t.wr r).1.nodes t.h (t.wr r).2.1.at_:=by
   rw[<- v2];exact Ih b.good w.ext t.h _ y y1 y2
  refine⟨w.ok,w.good,b.ext.trans w.ext,?_,?_,?_⟩
  ·show (Tr.wrL l (t.wr r).1).1.n+_=_
   rw[Tr.cntL];have:=w.n;omega
  ·intro k hk
   rcases List.mem_cons.1 hk with rfl|q
   ·exact⟨y,w.ext _ _ y1,by rw[y2,v2]⟩
   ·exact w.live k q
  ·intro o
   have hw:=w.und o;have ho2:=hu o;show (∃k∈(t.wr r).2.1.kid::(Tr.wrL l (t.wr r).1).2.1,o∈QM (Tr.wrL l (t.wr r).1).1.nodes h k.at_)↔o∈(t.wr r).2.2++(Tr.wrL l (t.wr r).1).2.2\/_
   rw[Tr.undL,List.mem_append,List.mem_append];constructor
   ·rintro⟨k,hk,q⟩
    rcases List.mem_cons.1 hk with rfl|hk
    ·rw[hka,he]at q
     rcases ho2.1 q with q|q
     ·exact .inl (.inl q)
     ·exact .inr (.inl q)
    ·rcases hw.1 ⟨k,hk,q⟩ with q|q
     ·exact .inl (.inr q)
     ·exact .inr (.inr q)
   ·rintro ((q|q)|(q|q))
    ·exact⟨_,List.mem_cons_self ..,by rw[hka,he];exact ho2.2 (.inl q)⟩
    ·obtain⟨k,hk,q⟩:=hw.2 (.inl q);exact⟨k,List.mem_cons_of_mem _ hk,q⟩
    ·exact⟨_,List.mem_cons_self ..,by rw[hka,he];exact ho2.2 (.inr q)⟩
    ·obtain⟨k,hk,q⟩:=hw.2 (.inr q);exact⟨k,List.mem_cons_of_mem _ hk,q⟩
theorem Zu2{N:ZC}(hN:GoodN N)(hv:Val N t):t.bytes<=65536->WU N t:=by
 induction hv with
 | @kept o h m k x h0 hx hok hh hm hk =>
  intro _ r ho hg hE hc q;have e:(Tr.mk o h m [] k).wr r=(r,⟨o,h,m⟩,[]):=by rw[Tr.wr,if_pos h0]
  rw[e];show q∈QM r.nodes h o↔_
  rw[Ih hN hE h o x hx hh,Tr.und,if_neg h0,QS hx,hh];simp
 | @leaf s k h1 h2 hk =>
  intro _ r ho hg hE hc q;have e:(Tr.mk 0 0 .zero s k).wr r=(r.add ⟨0,s,none⟩,⟨r.next,0,YZ s⟩,[r.next]):=by rw[Tr.wr];simp
  rw[e];show q∈QM (r.add _).nodes 0 r.next↔_
  rw[QM,Tr.und,if_pos rfl,Tr.undO_getD,hk,Tr.undL];simp
 | @inner h l hh h2 h4 hl hb hv ih =>
  intro hb2 r ho hg hE hc q;have eb:(Tr.mk 0 (h+1) .zero [] (some l)).bytes=Tr.bytesL l:=by rw[Tr.bytes,Tr.bytesO];simp[Mea.zero]
  have hbs:∀u∈l,u.bytes<=65536:=fun u hu=>by
   obtain⟨i,hi,rfl⟩:=List.getElem_of_mem hu;have h3:Tr.bytesL l=Tr.bytesL (l.take i)+(l[i].bytes+Tr.bytesL (l.drop (i+1))):=by
    conv=>lhs;rw[<- List.take_append_drop (i+1) l,ZF (jE hi),Tr.bytesL_append,Tr.bytesL_append]
    simp[Tr.bytesL];omega
   have n1:=Tr.bytesL_nonneg (l:=l.take i) (fun t ht=>by have:=(hv t (List.mem_of_mem_take ht)).pos.2;omega);have n2:=Tr.bytesL_nonneg (l:=l.drop (i+1)) (fun t ht=>by have:=(hv t (List.mem_of_mem_drop ht)).pos.2;omega);omega
  have ec:(Tr.mk 0 (h+1) .zero [] (some l)).cnt=Tr.cntL l+1:=by rw[Tr.cnt,Tr.cntO];simp;omega
  rw[ec]at hc;have w:=Zte (N:=N) (h:=h) l (fun u hu=>⟨hv u hu,hl u hu,hbs u hu,ih u hu (hbs u hu)⟩) r ho hg hE (by omega);have e:(Tr.mk 0 (h+1) .zero [] (some l)).wr r=((Tr.wrL l r).1.add ⟨h+1,[],some (Tr.wrL l r).2.1⟩,⟨(Tr.wrL l r).1.next,h+1,Zy ((Tr.wrL l r).2.1.map Kid.m)⟩,(Tr.wrL l r).2.2++[(Tr.wrL l r).1.next]):=by
   rw[Tr.wr];simp[Tr.wrO]
  rw[e];have hwn:=w.n;have hwg:=w.good;have hwl:=w.live;have hwo:=w.ok;have hwu:=w.und q;show q∈QM ((Tr.wrL l r).1.add _).nodes (h+1) (Tr.wrL l r).1.next↔q∈(Tr.wrL l r).2.2++[(Tr.wrL l r).1.next]\/_
  generalize (Tr.wrL l r).2.1=ks at *;generalize (Tr.wrL l r).2.2=hs at *;generalize (Tr.wrL l r).1=r1 at *;have hn:0<r1.n:=by omega
  have hlk:lk (r1.add ⟨h+1,[],some ks⟩).nodes r1.next=some (⟨h+1,[],some ks⟩:Nd).copy:=by rw[CC hwo hn,if_pos rfl]
  have hkc:(⟨h+1,[],some ks⟩:Nd).copy.ks=ks:=rfl;rw[QM,QS hlk,hkc,Tr.und,if_pos rfl,Tr.undO,List.mem_cons,List.mem_append,List.mem_singleton,List.mem_flatMap];have hp:∀k∈ks,QM (r1.add ⟨h+1,[],some ks⟩).nodes h k.at_=QM r1.nodes h k.at_:=fun k hk=>by
   obtain⟨y,y1,y2⟩:=hwl k hk;exact Ih hwg (IS hwo hn _) h k.at_ y y1 y2
  constructor
  ·rintro (z|⟨k,hk,z⟩)
   ·exact .inl (.inr z)
   ·rw[hp k hk]at z
    rcases hwu.1 ⟨k,hk,z⟩ with z|z
    ·exact .inl (.inl z)
    ·exact .inr z
  ·rintro ((z|z)|z)
   ·obtain⟨k,hk,z⟩:=hwu.2 (.inl z);exact .inr ⟨k,hk,by rw[hp k hk];exact z⟩
   ·exact .inl z
   ·obtain⟨k,hk,z⟩:=hwu.2 (.inr z);exact .inr ⟨k,hk,by rw[hp k hk];exact z⟩
theorem Vo{r:AR}(ho:AROk r)(hg:GoodN r.nodes)(hv:VE r.nodes t)(hb:t.bytes<=65536)(hn:nw t<=r.n)(o:Nat):
 o∈ZY (wrV t r).1.nodes (wrV t r).2.1↔o∈(wrV t r).2.2\/o∈t.und r.nodes:=by
 rcases hv with hv|hv
 ·rw[OE hv,Vj hv]
  simp[ZY,Ro.zero]
 ·obtain⟨h1,h2⟩:=OR (Yq [] [] [] r) ho hg (.inr hv) hb hn
  rw[CG hv]at hn;have hu:=Zu2 hg hv hb r ho hg (.refl _) hn o;rcases h2 with⟨he,_⟩|⟨_,h2⟩
  ·exact absurd he hv.not_empty
  ·obtain⟨y,y1,y2,y3,y4⟩:=h2.live
   have h0:=(h1.ok.hnd y1).2;rw[IT hv]at *;unfold ZY;rw[if_neg h0,h2.rh];exact hu
def AW(N:ZC)(rs:List Ro):List Nat:=rs.flatMap fun r=>Zr (ZY N r)
inductive Adds:AR->List Nat->AR->Prop
 | nil (r:AR):Adds r [] r
 | cons {r r':AR} {hs:List Nat} (x:Nd) (h:Adds (r.add x) hs r'):Adds r (r.next::hs) r'
theorem Adds.app{r r1 r2:AR}{hs gs:List Nat}(h:Adds r hs r1)(g:Adds r1 gs r2):Adds r (hs++gs) r2:=by
 induction h with
 | nil=>exact g
 | cons x h ih=>exact .cons x (ih g)
mutual
theorem Vp:∀(t:Tr) (r:AR),Adds r (t.wr r).2.2 (t.wr r).1
 | .mk o h m s k,r=>by
  rw[Tr.wr];split
  ·exact .nil r
  ·split
   ·exact .cons _ (.nil _)
   ·exact (Zq8 k r).app (.cons _ (.nil _))
theorem Zq8:∀(k:Option (List Tr)) (r:AR),Adds r (Tr.wrO k r).2.2 (Tr.wrO k r).1
 | none,r=>by rw[Tr.wrO];exact .nil r
 | some l,r=>by rw[Tr.wrO];exact Vq l r
theorem Vq:∀(l:List Tr) (r:AR),Adds r (Tr.wrL l r).2.2 (Tr.wrL l r).1
 | [],r=>by rw[Tr.wrL];exact .nil r
 | t::l,r=>by rw[Tr.wrL];exact (Vp t r).app (Vq l _)
end
theorem Zq9(t:Tr)(r:AR):Adds r (wrV t r).2.2 (wrV t r).1:=by
 unfold wrV;split
 ·exact .nil r
 ·exact Vp t r
def hOf(r:AR)(s:Nat):Nat:=((r.gens[s]?).getD 0).toNat*65536+s
def ZJ(r:AR):List Nat:=(Z2 r.states 1).map (hOf r)
theorem Eu{l:List Int}{s:Nat}(h:s∈Z2 l z):s<l.length/\l[s]?=some z:=by
 unfold Z2 Qr at h;rw[List.mem_filter,List.mem_range]at h;exact⟨h.1,by simpa using h.2⟩
theorem ZlX{lv b:Nat}{r:AR}(h:HasR st lv b r)(ho:AROk r):S Tb YQ [.ptr lv (b+3) 0 0 0] st=some (.lit ((ZJ r).map Zj),st):=by
 refine Zv Y (fun A hA=>?_);have g3:=fun L=>ZD hA (ro:=false) (L:=L) h.h3
 have g2:=fun L=>ZD hA (ro:=false) (L:=L) h.h2
 unfold AR.b3 at g3;unfold AR.b2 at g2;have hw2:∀L,wIs 1 0 (St.get ⟨A,false,L⟩ lv (b+2))=true:=fun L=>by rw[g2];rfl
 have hsl:=fun L=>UR (h.push hA (ro:=false) (L:=L)) ho.n16 1
 have hmem:=fun s hs=>Eu (l:=r.states) (z:=1) (s:=s) hs
 have hlen:(Z2 r.states 1).length<=16384:=by have:=F5 r.states 1 r.states.length;have:=ho.n16;unfold Z2;omega
 have hn16:=ho.n16;have hgl:=ho.gl;unfold ZJ;generalize Z2 r.states 1=l at *;repeat'(first|refine JS Y ?_|refine ruS Y ?_|refine isS Y ?_|refine ZO ?_|refine Xk Y ?_|refine ZA Y Y Y (hsl _) ?_)
 refine Ze (α:=Nat) (fun i=>[(0,.ptr lv (b+3) 0 0 0),(3,.ref A.length 0 i 0 i),(9,.lit (l.map CD)),(10,.int .i64 l.length),(11,.int .i64 i)]) (fun i=>⟨A,false,[.arr 1 i (((l.take i).map (hOf r)).map Zj)]⟩) (fun i=>i<=l.length) (fun i=>l.length-i) 0 Y Y (Nat.zero_le _) ?_;intro i hi;replace hi:i<=l.length:=hi;rcases Nat.lt_or_ge i l.length with hlt|hge
 ·obtain⟨s,hs⟩:∃x,l[i]?=some x:=⟨l[i]'hlt,by simp[hlt]⟩
  obtain⟨m1,m2⟩:=hmem s (jM hs);obtain⟨g,g1',g2',g3'⟩:=ho.gen s m1;have q:0<=((i:Nat):Int)/\l[((i:Nat):Int).toNat]?=some s:=⟨by omega,by rw[show ((i:Nat):Int).toNat=i by omega];exact hs⟩
  have q1:(r.gens.map (.int .u64))[0+((s:Nat):Int).toNat]?=some (AV.int .u64 g):=by
   rw[show 0+((s:Nat):Int).toNat=s by omega,jG,g1'];rfl
  have hMk:=fun st=>TK s g (by omega) ⟨by omega,by have:=ho.most;omega⟩ st
  have hl2:(((l.take i).map (hOf r)).map Zj).length+[AV.int .u64 ((g*65536+s:Nat):Int)].length<4294967296:=by simp;omega
  have hl3:i=(((l.take i).map (hOf r)).map Zj).length:=by simp;omega
  have hlt2:((s:Nat):Int)<r.gens.length:=by omega
  repeat'(first|refine QY (f:=CD) Y Y q (fun _=>rfl) ?_|refine Zk Y (g3 _) Y Y ?_|refine JH Y Y (by omega) (hw2 _) ?_|refine Zk Y (g2 _) q1 Y ?_|refine BL Y Y Y hl3 Y Y hl2 (by decide) ?_|refine ruS Y ?_|refine isS Y ?_|refine rkS Y ?_|refine Zx Y Y ?_|refine cm0 Y Y Y ?_ ?_|(intro _;try omega)|refine ZV Y Y (by omega) ?_|refine Z7 Y Y Y Y ?_|refine ZA Y Y Y (hMk _) ?_)
  all_goals try first|contradiction|omega
  refine⟨i+1,⟨?_,?_⟩,by omega,by omega⟩
  ·rfl
  ·have e:hOf r s=g*65536+s:=by unfold hOf;rw[g1'];simp
   rw[List.take_add_one,hs,List.map_append,List.map_append,<- e];rfl
 ·obtain rfl:i=l.length:=by omega
  repeat'(first|refine ruS Y ?_|refine isS Y ?_|refine rkS Y ?_|refine cm0 Y Y Y ?_ ?_|(intro _;try omega))
  all_goals try omega
  refine B5 (es:=(l.map (hOf r)).map Zj) hA (.inr Y) Y (by rw[List.take_length];rfl) (by simp) (by intro v hv;obtain⟨x,_,rfl⟩:=List.mem_map.1 hv;rfl) ?_;rfl
theorem ZlY{lv b:Nat}{r:AR}(h:HasR st lv b r)(ho:AROk r):S Tb Y0 [.ptr lv (b+5) 0 0 0] st=some (.lit ((ZJ r).map Zj),st):=by
 refine Zv Y (fun A hA=>?_);have g5:=fun L=>ZD hA (ro:=false) (L:=L) h.h5
 unfold AR.b5 at g5;have hF:=fun L=>ZlX (h.push hA (ro:=false) (L:=L)) ho
 repeat'(first|refine Zk Y (g5 _) Y Y ?_|refine ruS Y ?_|refine isS Y ?_|refine rkS Y ?_|refine Qc Y Y Y Y ?_|refine ZA Y Y Y (hF _) ?_)
 all_goals try contradiction
 refine ZQ hA (by simp) Y Y Y Y ?_;rfl
theorem ZrA{lv b:Nat}{r:AR}(h:HasR st lv b r)(ho:AROk r):S Tb X6 [.ptr lv (b+5) 0 0 0] st=some (.tup [.lit (r.free.map (.int .i64)),.lit ((Z2 r.states 2).map CD)],st):=by
 refine Zv Y (fun A hA=>?_);have g5:=fun L=>ZD hA (ro:=false) (L:=L) h.h5
 unfold AR.b5 at g5;have hF:=fun L=>UQ (h.push hA (ro:=false) (L:=L)).allRo ho.nb (by have:=ho.nn;have:=ho.n16;omega)
 have hW:=fun L=>US (h.push hA (ro:=false) (L:=L)) ho.n16
 repeat'(first|refine Zk Y (g5 _) Y Y ?_|refine XV Y Y Y (hF _) ?_|refine ruS Y ?_|refine isS Y ?_|refine rkS Y ?_|refine Qc Y Y Y Y ?_|refine ZA Y Y Y (hW _) ?_)
 all_goals try contradiction
 refine Xu hA (by simp) Y Y Y Y Y ?_;rfl
theorem Znz{r r':AR}{hs:List Nat}(h:Adds r hs r'):AROk r->hs.length<=r.n->∀o∈hs,r.states[o % 65536]?=some 0:=by
 induction h with
 | nil=>intro _ _ o ho;simp at ho
 | @cons r r' hs x h ih =>
  intro ho hl o hm;rw[List.length_cons]at hl;have hn:0<r.n:=by omega
  obtain⟨t1,t2,t3,t4,t5,t6⟩:=ho.top hn;rcases List.mem_cons.1 hm with rfl|hm
  ·have e1:r.next % 65536=r.slot:=by unfold AR.next;have:=ho.n16;omega
   rw[e1];exact t3
  ·have hi:=ih (ho.add hn x) (by show hs.length<=r.n-1;omega) o hm
   replace hi:(r.states.set r.slot 1)[o % 65536]?=some 0:=hi;by_cases q:r.slot=o % 65536
   ·rw[<- q,List.getElem?_set_self t2]at hi;simp at hi
   ·rwa [jS q]at hi
theorem Ztf{r:AR}(ho:AROk r)(h:r.states[o % 65536]?=some 0):o∉ZJ r:=by
 intro hm;unfold ZJ at hm;obtain⟨s,hs,e⟩:=List.mem_map.1 hm;obtain⟨m1,m2⟩:=Eu hs;have h16:=ho.n16;have:o % 65536=s:=by rw[<- e];unfold hOf;omega
 rw[this,m2]at h;simp at h
theorem Yr{r:AR}(ho:AROk r):(ZJ r).length<=16384:=by
 have:=F5 r.states 1 r.states.length;have:=ho.n16;unfold ZJ Z2;rw[List.length_map];omega
theorem Ew{N:ZC}(hN:GoodN N){x:Ro}(hx:RtOk N x):∀o∈ZY N x,∃y,lk N o=some y:=by
 intro o ho;unfold ZY at ho;split at ho
 ·simp at ho
 ·rename_i h0
  obtain⟨y,x1,x2,x3,x4⟩:∃y,lk N x.at_=some y/\NdOk y/\y.h=x.h/\y.mea=x.m:=by
   rcases hx with rfl|w
   ·exact absurd Y h0
   ·exact w.2
  obtain⟨w,w1,_⟩:=GE hN x.h x.at_ y x1 x3 o ho;exact⟨w,w1⟩
theorem onceV_mem{v:List Nat}{x:Nat}:x∈Zr v↔x∈v:=(Yp v).2.1 x
theorem ZrB{N:ZC}{rs:List Ro}:o∈AW N rs↔∃x∈rs,o∈ZY N x:=by
 unfold AW;rw[List.mem_flatMap];constructor
 ·rintro⟨x,hx,h⟩;exact⟨x,hx,onceV_mem.1 h⟩
 ·rintro⟨x,hx,h⟩;exact⟨x,hx,onceV_mem.2 h⟩
theorem ZrC{N:ZC}(hN:GoodN N):∀l:List Ro,(∀r∈l,RtOk N r)->(AW N l).length<=100000000*l.length:=by
 intro l;induction l with
 | nil=>intro _;simp[AW]
 | cons a l ih =>
  intro h;have h1:=DY hN (h a (by simp));have h2:=(Yp (ZY N a)).2.2;have h3:=ih (fun r hr=>h r (by simp[hr]));unfold AW at h3 ⊢;rw[List.flatMap_cons,lL,List.length_cons];omega
structure OG(N:ZC)(rs:List Ro)(ro:Ro)(fr dd lv:List Nat):Prop where
 rsk:∀r∈rs,RtOk N r
 rok:RtOk N ro
 hd:dd=Zr ((AW N rs).filter fun o=>decide (o∉Zr (ZY N ro)))
 fn:fr.Nodup
 ln:fr.length<1000000000/\lv.length<1000000000/\(AW N rs).length<1000000000/\(Zr (ZY N ro)).length<1000000000
 frk:∀h∈fr,h∉lv/\h∈Zr (ZY N ro)
 now:∀h∈Zr (ZY N ro),(h∈AW N rs↔h∉fr)/\h∉dd
theorem ZrD{r:AR}(ho:AROk r)(hg:GoodN r.nodes)(hv:VE r.nodes t)(hb:t.bytes<=65536)(hn:nw t<=r.n){rs:List Ro}(hl:rs.length<=3)(hrs:∀x∈rs,RtOk r.nodes x)(hin:∀o∈t.und r.nodes,∃x∈rs,o∈ZY r.nodes x):
 OG (wrV t r).1.nodes rs (wrV t r).2.1 (wrV t r).2.2 (Xw r.nodes rs t) (ZJ r):=by
 obtain⟨w1,w2⟩:=CI (Yq [] [] [] r) ho hg hv hb hn;have hu:=Vo ho hg hv hb hn;have ha:=Znz (Zq9 t r) ho (by rw[w1.len];exact hn);have hne:∀x∈rs,ZY (wrV t r).1.nodes x=ZY r.nodes x:=fun x hx=>Ii hg w1.ext (hrs x hx)
 have hnw:∀x∈rs,∀o∈ZY r.nodes x,o∉(wrV t r).2.2:=fun x hx o hm q=>by
  obtain⟨y,hy⟩:=Ew hg (hrs x hx) o hm;have:=w1.new o q;rw[hy]at this;simp at this
 have hro:=w2.rt;have hwas:AW (wrV t r).1.nodes rs=AW r.nodes rs:=by
  unfold AW;rw[List.flatMap_def,List.flatMap_def]
  congr 1
  exact List.map_congr_left fun x hx=>by rw[hne x hx]
 have hdd:Xw r.nodes rs t=Zr ((AW (wrV t r).1.nodes rs).filter fun o=>decide (o∉Zr (ZY (wrV t r).1.nodes (wrV t r).2.1))):=by
  rw[hwas];show Zr (rs.flatMap fun x=>Aw r.nodes x t)=_
  congr 1
  unfold AW;have key:∀l:List Ro,(∀x∈l,x∈rs)->(l.flatMap fun x=>Aw r.nodes x t)=(l.flatMap fun x=>Zr (ZY r.nodes x)).filter fun o=>decide (o∉Zr (ZY (wrV t r).1.nodes (wrV t r).2.1)):=by
   intro l;induction l with
   | nil=>intro _;rfl
   | cons x l ih =>
    intro h;rw[List.flatMap_cons,List.flatMap_cons,List.filter_append,ih (fun y hy=>h y (by simp[hy])),Zqr hg ho.nz (hrs x (h x (by simp))) hv,VX]
    congr 1
    refine List.filter_congr fun o hm=>?_
    rw[decide_eq_decide,onceV_mem,hu o];have:=hnw x (h x (by simp)) o (onceV_mem.1 hm);simp[this]
  exact key rs fun _ h=>h
 have hsl:=ZrC w1.good rs (fun x hx=>(hrs x hx).ext w1.ext);have hnl:=DY w1.good hro;have hol:=(Yp (ZY (wrV t r).1.nodes (wrV t r).2.1)).2.2;have hhl:=Yr ho;have hfl:=w1.len;have hrn:=ho.nn;have hr16:=ho.n16;refine⟨fun x hx=>(hrs x hx).ext w1.ext,hro,hdd,w1.nodup,⟨by omega,by omega,by omega,by omega⟩,fun h hh=>⟨Ztf ho (ha h hh),onceV_mem.2 ((hu h).2 (.inl hh))⟩,fun h hh=>?_⟩;have hm:=(hu h).1 (onceV_mem.1 hh);have hw:h∈AW (wrV t r).1.nodes rs↔h∉(wrV t r).2.2:=by
  rw[hwas,ZrB];constructor
  ·rintro⟨x,hx,q⟩;exact hnw x hx h q
  ·intro q
   rcases hm with z|z
   ·exact absurd z q
   ·exact hin h z
 refine⟨hw,fun q=>?_⟩;rw[hdd,onceV_mem,List.mem_filter]at q;simp only[decide_eq_true_eq]at q;exact q.2 hh
theorem Vr{o:Nat}:∀ {l:List Nat},l.Nodup->l.count o=if o∈l then 1 else 0
 | [],_=>by simp
 | a::l,h=>by
  rw[List.nodup_cons]at h;rw[List.count_cons,Vr h.2];by_cases e:a=o
  ·subst e;simp[h.1]
  ·have:¬ o=a:=fun q=>e q.symm
   simp[e,this]
theorem Vs(v:List Nat):(Zr v).Nodup:=(Yp v).1
theorem GH{m:List Nat}(h1:l.Nodup)(h2:m.Nodup)(h:∀x,x∈l↔x∈m):l.Perm m:=(List.perm_ext_iff_of_nodup h1 h2).2 h
theorem Ztg(hl:∀x∈l,x<18446744073709551616):(l.map toH).map Fin.val=l:=by
 rw[List.map_map]
 conv=>rhs;rw[<- List.map_id l]
 refine List.map_congr_left fun x hx=>?_
 show x % 18446744073709551616=x
 have:=hl x hx;omega
theorem Il(hl:∀x∈l,x<18446744073709551616):(Bo l).Perm l:=by
 have h:=(List.mergeSort_perm (l.map toH) leH).map Fin.val;rw[Ztg hl]at h;exact h
theorem Zj3(l:List Nat):(Bo l).Pairwise fun a b=>a % 65536<=b % 65536:=by
 unfold Bo;rw[List.pairwise_map];refine (NV _).imp fun {a b} h=>?_
 rw[Ht]at h;omega
def Cs(N:ZC):Prop:=∀o x,lk N o=some x->o<18446744073709551616
theorem AROk.h64{r:AR}(h:AROk r):Cs r.nodes:=fun o x hx=>by
 obtain⟨s,g,e,h1,h2,h3⟩:=h.key o x hx;obtain⟨g',k1,k2,k3⟩:=h.gen s h1;rw[h3]at k1;have:=Option.some.inj k1;have:=h.most;have:=h.n16;omega
theorem ZrE{N:ZC}(hN:GoodN N)(h6:Cs N){x:Ro}(hx:RtOk N x)(ho:o∈Zr (ZY N x)):o<18446744073709551616:=by
 obtain⟨y,hy⟩:=Ew hN hx o (onceV_mem.1 ho);exact h6 o y hy
theorem Ob{N:ZC}{p:Int->Bool}{c:List (Nat × Int)}(h:∀q∈c,q.1<18446744073709551616):∀o∈Ap p c,o<18446744073709551616:=fun o ho=>by
 unfold Ap at ho;obtain⟨q,hq,rfl⟩:=List.mem_map.1 ho;exact h q (List.mem_filter.1 hq).1
end Go.Q15
namespace Go.Q15
open Go Go.QAbs
open Go.ChangeMaps (setBlock)
variable {w:AV}{e:Env}{f g:FuncId}{a z:Int}{Q:JD}{A:List (Bool × List Blk)}{args caps:LV}{k:List Fr}{l:List Nat}{s s0:B8}{i ix la lm mx n o ver:Nat}{x:Nd}{v:Opd}{O:Orc}{ro:Ro}{st:St}{t:Tr}
noncomputable def cLe:Code:=Proofs.Tryz.f50.body.getD .skip
noncomputable def oLe(i j:Nat):Oper:=((BT cLe).getD i #[]).getD j default
noncomputable def xLeB:Code:=.block 1 (.seq (.region 4 #[oLe 4 0,oLe 4 1,oLe 4 2,oLe 4 3,oLe 4 4] false) (.seq (.region 5 #[oLe 5 0,oLe 5 1,oLe 5 2] false) (.cond (.tmp 17) (.region 6 #[oLe 6 0,oLe 6 1,oLe 6 2,oLe 6 3,oLe 6 4] false) .skip)))
noncomputable def xLe:Code:=.seq (.region 1 #[oLe 1 0] false) (.seq (.seq (.region 2 #[oLe 2 0,oLe 2 1] false) (.block 0 (.loop (.seq (.region 3 #[oLe 3 0,oLe 3 1] false) (.seq (.cond (.tmp 11) .skip (.exit 0)) xLeB))))) (.seq (.region 7 #[oLe 7 0,oLe 7 1,oLe 7 2] false) .ret))
theorem oLe_1_0:OpIs (oLe 1 0) (.assign (.const (.slice none 0 0))) 5:=⟨by kernel_rfl,by kernel_rfl,by kernel_rfl⟩
theorem oLe_2_0:OpIs (oLe 2 0) (.move (.tmp 0)) 8:=⟨by kernel_rfl,by kernel_rfl,by kernel_rfl⟩
theorem oLe_2_1:OpIs (oLe 2 1) (.range 94 (.tmp 8)) 9:=⟨by kernel_rfl,by kernel_rfl,by kernel_rfl⟩
theorem oLe_3_0:OpIs (oLe 3 0) (.next (.tmp 9) false) 10:=⟨by kernel_rfl,by kernel_rfl,by kernel_rfl⟩
theorem oLe_3_1:OpIs (oLe 3 1) (.extract (.tmp 10) 0) 11:=⟨by kernel_rfl,by kernel_rfl,by kernel_rfl⟩
theorem oLe_4_0:OpIs (oLe 4 0) (.entry (.tmp 9)) 12:=⟨by kernel_rfl,by kernel_rfl,by kernel_rfl⟩
theorem oLe_4_1:OpIs (oLe 4 1) (.extract (.tmp 12) 0) 13:=⟨by kernel_rfl,by kernel_rfl,by kernel_rfl⟩
theorem oLe_4_2:OpIs (oLe 4 2) (.extract (.tmp 12) 1) 14:=⟨by kernel_rfl,by kernel_rfl,by kernel_rfl⟩
theorem oLe_4_3:OpIs (oLe 4 3) (.assign (.tmp 13)) 6:=⟨by kernel_rfl,by kernel_rfl,by kernel_rfl⟩
theorem oLe_4_4:OpIs (oLe 4 4) (.assign (.tmp 14)) 7:=⟨by kernel_rfl,by kernel_rfl,by kernel_rfl⟩
theorem oLe_5_0:OpIs (oLe 5 0) (.move (.tmp 7)) 15:=⟨by kernel_rfl,by kernel_rfl,by kernel_rfl⟩
theorem oLe_5_1:OpIs (oLe 5 1) (.move (.tmp 1)) 16:=⟨by kernel_rfl,by kernel_rfl,by kernel_rfl⟩
theorem oLe_5_2:OpIs (oLe 5 2) (.binOp .geq 3 (.tmp 15) (.tmp 16) 3) 17:=⟨by kernel_rfl,by kernel_rfl,by kernel_rfl⟩
theorem oLe_6_0:OpIs (oLe 6 0) (.move (.tmp 5)) 18:=⟨by kernel_rfl,by kernel_rfl,by kernel_rfl⟩
theorem oLe_6_1:OpIs (oLe 6 1) (.move (.tmp 6)) 19:=⟨by kernel_rfl,by kernel_rfl,by kernel_rfl⟩
theorem oLe_6_2:OpIs (oLe 6 2) (.buildSlice 37 1 #[(0,.tmp 19)]) 20:=⟨by kernel_rfl,by kernel_rfl,by kernel_rfl⟩
theorem oLe_6_3:OpIs (oLe 6 3) (.call { callee:=.builtin .append,args:=#[.tmp 18,.tmp 20],argTypes:=#[37,37] }) 21:=⟨by kernel_rfl,by kernel_rfl,by kernel_rfl⟩
theorem oLe_6_4:OpIs (oLe 6 4) (.assign (.tmp 21)) 5:=⟨by kernel_rfl,by kernel_rfl,by kernel_rfl⟩
theorem oLe_7_0:OpIs (oLe 7 0) (.move (.tmp 5)) 22:=⟨by kernel_rfl,by kernel_rfl,by kernel_rfl⟩
theorem oLe_7_1:OpIs (oLe 7 1) (.call { callee:=.value (.func 45),args:=#[.tmp 22],argTypes:=#[37] }) 23:=⟨by kernel_rfl,by kernel_rfl,by kernel_rfl⟩
theorem oLe_7_2:OpIs (oLe 7 2) (.assign (.tmp 23)) 4:=⟨by kernel_rfl,by kernel_rfl,by kernel_rfl⟩
attribute [irreducible] oLe
def Ct:Run:=fun e st=>match QAbs.look e 0,QAbs.look e 1 with
 | .map lv ix,.int .i64 n0=>(AA (st.get lv ix)).bind fun es=>(B6 (fun n=>decide (n0<=n)) es).bind fun ks=>if ks.Nodup/\es.length<1000000000 then some (.ret,[(4,.lit ((srtH ks).map hAV))],st) else none
 | _,_=>none
structure ILe(n0:Int)(p:Int->Bool)(W:World)(a:Act)(b clock:Nat)(en:Array MapEntry)(seen:Array Nat)(a':Act)(W':World):Prop where
 it:Itr W' b W.heap.size clock en seen
 jk:Jk W.heap.size W W'
 sz:a'.tmps.size=a.tmps.size
 df:a'.defers=a.defers
 ev:a'.eval (.tmp 9)=.pointer (some ⟨W.heap.size,0,none⟩)
 big:W.heap.size+1<=W'.heap.size
 n0:a'.eval (.tmp 1)=.int .i64 n0
 out:∃ks:List H64,W'.ownsRow (W.heap.size+1) 32 1 (a'.eval (.tmp 5)) ks.length (ks.map encH)/\(a'.eval (.tmp 5)=.slice none 0 0↔ks=[])/\(ks++(Aa en seen).filterMap (Cc p)).Perm (en.toList.filterMap (Cc p))
theorem Zu3{T:Tab}{W0:World}{B0:Bse}:CodeOk none Proofs.Tryz.prog (S T) 24 W0 B0 xLe Ct:=by
 intro e st ρ W a0 r Q hx hr he hn hQ;unfold Ct at hx;split at hx
 case h_2=>simp at hx
 rename_i lv ix n0 hl hl1;simp only[oB]at hx;obtain⟨es,hes,ks0,hks,hx⟩:=hx;split at hx
 case isFalse=>simp at hx
 rename_i hcnd;obtain⟨hnd,hlen⟩:=hcnd;simp only[oJ]at hx;subst hx;have hg:=JY hes;have h1n:=he 1;rw[hl1]at h1n;have hevn:a0.eval (.tmp 1)=.int .i64 n0:=Jf h1n;have hm:=he 0;rw[hl]at hm;generalize hm8:a0.tmps.getD 0 Go.undef=m8 at hm;have hevm:a0.eval (.tmp 0)=m8:=by rw[<- hm8];rfl
 cases hm with
 | map hp =>
 obtain⟨p1,p2,r0,rfl,p3⟩:=hp;have:=p3 es hg;subst this;obtain⟨en,clock,h1,h2,hf⟩:=(hr.map lv ix es hg).ent;obtain⟨hsel,hall⟩:=TD h2 hks;have hsz:en.toList.length<1000000000:=by have:=h2.1;omega
 unfold xLe;refine wpIn_seq (wpIn_region ?_);show wpOpsIn (fen none) 0 _ #[oLe 1 0] _ [0] a0 W
 rw[wpOpsIn_cons];refine YF oLe_1_0 Y (by simp) (Jb (x:=.const (.slice none 0 0)) (.inr oLe_1_0.op)) ?_;show Code.wpIn _ _ _ _ _ _ _
 generalize ha:a0.put (some 5) (a0.eval (.const (.slice none 0 0)))=a;have sza:a.tmps.size=a0.tmps.size:=by rw[<- ha];simp[Act.put]
 have dfa:a.defers=a0.defers:=by rw[<- ha];rfl
 have hev8:a.eval (.tmp 0)=.map (some (ρ lv ix).b):=by rw[<- ha,Act.put_other (by decide)];exact hevm
 have hevn1:a.eval (.tmp 1)=.int .i64 n0:=by rw[<- ha,Act.put_other (by decide)];exact hevn
 have hev10:a.eval (.tmp 5)=.slice none 0 0:=by rw[<- ha];exact Act.put_look (by omega)
 clear ha;refine wpIn_seq (wpIn_seq (wpIn_region ?_));show wpOpsIn (fen none) 0 _ #[oLe 2 0,oLe 2 1] _ [0,1] a W
 rw[wpOpsIn_cons];refine YF oLe_2_0 Y (by simp) (Jb (x:=.tmp 0) (.inl oLe_2_0.op)) ?_;rw[wpOpsIn_cons,hev8];refine YF oLe_2_1 Y (by simp) (S9 (m:=.tmp 8) (t:=94) oLe_2_1.op (show Proofs.Tryz.prog.underlying 94=some (TypeDesc.map 32 3) by kernel_rfl) (Act.put_look (by omega)) h1) ?_;show Code.wpIn _ _ _ _ _ _ _
 have hjk0:Jk W.heap.size W (W.alloc (.mapIter (some (ρ lv ix).b) clock #[] clock)):=by
  exact⟨rfl,rfl,rfl,by simp,fun i hi _=>Go.RowKit.Below.heap_alloc _ _ _ hi,.inl (Nat.le_refl _)⟩
 refine TA (o3:=oLe 3 0) (o4:=oLe 3 1) (it:=.tmp 9) (nx:=10) (ok:=11) hf oLe_3_0.op oLe_3_0.gd oLe_3_0.dst oLe_3_1.op oLe_3_1.gd oLe_3_1.dst
  (ILe n0 (fun n=>decide (n0<=n)) W a (ρ lv ix).b clock en) (fun seen a' W' h=>⟨h.ev,by have:=h.sz;omega,by have:=h.sz;omega,h.it⟩) ?_ ?_ ?_
 ·-- behind the loop
  intro seen a' W' h hl0;obtain⟨ks,hown,hnil,hperm⟩:=h.out;rw[hl0,List.filterMap_nil,lN,hsel]at hperm;have hsz':=h.sz;show Code.wpIn _ _ _ _ _ _ _
  generalize ha1:(a'.put (some 10) (.tuple #[.bool false])).put (some 11) (.bool false)=a1;have s1:a1.tmps.size=a0.tmps.size:=by rw[<- ha1];simpa [Act.put,sza] using hsz'
  have d1:a1.defers=a0.defers:=by rw[<- ha1];exact h.df.trans dfa
  have e10:a1.eval (.tmp 5)=a'.eval (.tmp 5):=by rw[<- ha1,Act.put_other (by decide),Act.put_other (by decide)]
  generalize a'.eval (.tmp 5)=vo at *;refine wpIn_seq (wpIn_region ?_);show wpOpsIn (fen none) 0 _ #[oLe 7 0,oLe 7 1,oLe 7 2] _ [0,1,2] a1 W'
  rw[wpOpsIn_cons];refine YF oLe_7_0 Y (by simp) (Jb (x:=.tmp 5) (.inl oLe_7_0.op)) ?_;rw[wpOpsIn_cons,e10];have hz:(a1.put (some 22) vo).eval (.tmp 22)=vo:=Act.put_look (by omega);have hc:Go.Calls Proofs.Tryz.prog 45 #[vo] W' fun e W2=>∃x,e=.returned x/\(Go.RowKit.Below W'.heap.size W' W2/\QAbs.R (cx st ρ W2 st.A.length) (.lit ((srtH ks0).map hAV)) x):=by
   have hsame:srtH ks=srtH ks0:=ZnQ hperm;have hlen0:=hperm.length_eq;have hks0:ks0.length<=1000000000:=by
    have h4:=List.length_filterMap_le (Cc (fun n=>decide (n0<=n))) en.toList;rw[hsel]at h4;omega
   rcases hown.2 with⟨rfl,hz0⟩|⟨g,cap,cur,rfl,hgb,hgc,hnc,hcm,hcs,htk⟩
   ·have:ks0=[]:=List.eq_nil_of_length_eq_zero (by omega)
    subst this;refine (hSort_nil W').mono ?_;rintro e' W2 ⟨rfl,rfl⟩;exact⟨_,rfl,Go.RowKit.Below.refl _ _,by rw[show srtH []=[] by simp[srtH]];exact .lit0 _ _⟩
   ·have hpos : 0 < ks.length := by
     rcases Nat.eq_zero_or_pos ks.length with h0|h0
     ·have:=hnil.2 (List.eq_nil_of_length_eq_zero h0)
      simp at this
     ·exact h0
    refine (hSort ⟨g,0,none⟩ cap ks (hperm.nodup_iff.2 hnd) hpos (by omega) W' (fun j u hj=>hown.cells Y j u hj)).mono ?_;rintro e' W2 ⟨g2,cap2,rfl,hg2,hc1,hc2,hbel,hH⟩;refine⟨_,rfl,hbel,?_⟩;rw[<- hsame];have hes:((srtH ks).map hAV).length=ks.length:=by rw[List.length_map,ZpO]
    have:=FI (C:=cx st ρ W2 st.A.length) (es:=(srtH ks).map hAV) (xs:=(srtH ks).map encH) (b:=g2) (o:=0) (w:=1) (c:=cap2) (a:=some ⟨g2,0,none⟩) ⟨by simp,fun i v x hv hx=>?_⟩ (fun i x hx=>?_) (by rw[hes];exact hc1) (fun _=>rfl)
    ·rw[hes]at this;exact this
    ·rw[jG,oM]at hv hx
     obtain⟨u,hu,rfl⟩:=hv;obtain⟨u2,hu2,rfl⟩:=hx;rw[hu]at hu2;have:=Option.some.inj hu2;subst this;exact .int _ _
    ·rw[jG,oM]at hx
     obtain⟨u,hu,rfl⟩:=hx;refine⟨rfl,fun j v hv=>?_⟩;have hj:j=0:=by
      have:=(Array.getElem?_eq_some_iff.1 hv).1;simpa [encH,Value.cells] using this
     subst hj;have hv2:v=encH u:=by simpa [encH,Value.cells] using hv.symm
     subst hv2;have hi:i<(srtH ks).toArray.size:=by simpa using (List.getElem?_eq_some_iff.1 hu).1
     have hcell:=(hH i hi).1;have hget:(srtH ks).toArray[i]! =u:=by
      rw[getElem!_pos _ i hi];have:=(List.getElem?_eq_some_iff.1 hu).2;simpa using this
     rw[hget]at hcell;refine⟨by rw[show 0+i*1+0=0+i by omega];exact hcell,?_⟩;rintro⟨lv',ix',w2,ver',es',hg',h2',h3',h4'⟩;have hmm:=(hr.arr _ _ _ _ _ hg').mem (0+i*1+0-(ρ lv' ix').o) (by omega);obtain⟨y,hy⟩:=Option.isSome_iff_exists.1 hmm.2.1;have:=D0 (W:=W) (b:=(ρ lv' ix').b) hy;have:=h.jk.size;omega
  refine ZnS (o:=oLe 7 1) (f:=.func 45) Y oLe_7_1.gd oLe_7_1.op Y Y Proofs.Tryz.call45 ?_;show Go.Calls Proofs.Tryz.prog 45 #[(a1.put (some 22) vo).eval (.tmp 22)] W' _
  rw[hz];refine hc.mono ?_;rintro e' W2 ⟨x,rfl,hbel,hR⟩;refine⟨x,rfl,?_⟩;rw[oLe_7_1.dst,wpOpsIn_cons];refine YF oLe_7_2 Y (by simp) (Jb (x:=.tmp 23) (.inr oLe_7_2.op)) ?_;rw[Act.put_look (by simp[Act.put];omega)];show Code.wpIn _ _ _ _ _ _ _
  refine wpIn_ret ?_;have hjk2:Jk W.heap.size W W2:=by
   refine⟨hbel.os.trans h.jk.os,hbel.tape.trans h.jk.tape,hbel.output.trans h.jk.output,Nat.le_trans h.jk.size hbel.size,fun i hi hne=>?_,.inl (Nat.le_refl _)⟩;rw[hbel.block i (by have:=h.jk.size;omega)];exact h.jk.blk i hi hne
  refine hQ _ ρ W2 (hr.jk hjk2 hr.b0) ?_ (by simpa [Act.put] using s1) d1;intro t;by_cases ht:t=4
  ·subst ht
   have q:(((a1.put (some 22) vo).put (some 23) x).put (some 4) x).eval (.tmp 4)=x:=Act.put_look (by simp[Act.put];omega);have q2:(((a1.put (some 22) vo).put (some 23) x).put (some 4) x).tmps.getD 4 Go.undef=x:=q;show QAbs.R _ _ ((((a1.put (some 22) vo).put (some 23) x).put (some 4) x).tmps.getD 4 Go.undef)
   rw[q2];exact hR
  ·have q:QAbs.look [((4:Nat),(AV.lit ((srtH ks0).map hAV)))] t=.any:=by simp[QAbs.look,Ne.symm ht]
   show QAbs.R _ (QAbs.look [((4:Nat),(AV.lit ((srtH ks0).map hAV)))] t) _
   rw[q];exact .any _
 ·-- a round
  intro seen a' W' x w1 h hx hw hit hnew hjk;obtain⟨ks,hown,hnil,hperm⟩:=h.out;have hsz':=h.sz;obtain⟨hh,n,hkey,hval⟩:=hall x (Hs hx);have hperm2:=(NT hf hx).filterMap (Cc (fun n=>decide (n0<=n)));rw[List.filterMap_cons,TC hkey hval]at hperm2;have hlb:W'.heap.size<=(setBlock w1 W.heap.size (.mapIter (some (ρ lv ix).b) clock (seen.push x.born) clock)).heap.size:=hjk.size;have hbig:=h.big;generalize hW1:setBlock w1 W.heap.size (.mapIter (some (ρ lv ix).b) clock (seen.push x.born) clock)=W1 at *;have hown1:=Zk4 hjk hown;have jk1:=h.jk.trans (Nat.le_refl _) hjk;clear hW1 hown hw;unfold xLeB;refine wpIn_block (wpIn_seq (wpIn_region ?_));show wpOpsIn (fen none) 0 _ #[oLe 4 0,oLe 4 1,oLe 4 2,oLe 4 3,oLe 4 4] _ [0,1,2,3,4] _ W1
  generalize ha1:(a'.put (some 10) (.tuple #[.bool true,x.key,x.val])).put (some 11) (.bool true)=a1;have s1:a1.tmps.size=a0.tmps.size:=by rw[<- ha1];simpa [Act.put,sza] using hsz'
  have d1:a1.defers=a.defers:=by rw[<- ha1];exact h.df
  have e1:a1.eval (.tmp 9)=.pointer (some ⟨W.heap.size,0,none⟩):=by rw[<- ha1,Act.put_other (by decide),Act.put_other (by decide)];exact h.ev
  have e2:a1.eval (.tmp 5)=a'.eval (.tmp 5):=by rw[<- ha1,Act.put_other (by decide),Act.put_other (by decide)]
  have e5:a1.eval (.tmp 1)=.int .i64 n0:=by rw[<- ha1,Act.put_other (by decide),Act.put_other (by decide)];exact h.n0
  generalize a'.eval (.tmp 5)=vo at *;clear ha1;rw[wpOpsIn_cons];refine YF oLe_4_0 Y (by simp) (NS (it:=.tmp 9) oLe_4_0.op e1 hnew hit.map hf (Hs hx)) ?_;rw[wpOpsIn_cons];refine YF oLe_4_1 Y (by simp) (EY (t:=.tmp 12) (k:=0) (x:=x.key) oLe_4_1.op (Act.put_look (by omega)) Y) ?_;rw[wpOpsIn_cons];refine YF oLe_4_2 Y (by simp) (EY (t:=.tmp 12) (k:=1) (x:=x.val) oLe_4_2.op (by rw[Act.put_other (by decide)];exact Act.put_look (by omega)) Y) ?_;generalize hb:((a1.put (some 12) (.tuple #[x.key,x.val])).put (some 13) x.key).put (some 14) x.val=a2;have s2:a2.tmps.size=a0.tmps.size:=by rw[<- hb];simpa [Act.put] using s1
  have d2:a2.defers=a.defers:=by rw[<- hb];exact d1
  have f1:a2.eval (.tmp 9)=.pointer (some ⟨W.heap.size,0,none⟩):=by rw[<- hb,Act.put_other (by decide),Act.put_other (by decide),Act.put_other (by decide)];exact e1
  have f2:a2.eval (.tmp 5)=vo:=by rw[<- hb,Act.put_other (by decide),Act.put_other (by decide),Act.put_other (by decide)];exact e2
  have f3:a2.eval (.tmp 13)=x.key:=by rw[<- hb,Act.put_other (by decide)];exact Act.put_look (by simp[Act.put];omega)
  have f4:a2.eval (.tmp 14)=x.val:=by rw[<- hb];exact Act.put_look (by simp[Act.put];omega)
  have f5:a2.eval (.tmp 1)=.int .i64 n0:=by rw[<- hb,Act.put_other (by decide),Act.put_other (by decide),Act.put_other (by decide)];exact e5
  clear hb;rw[wpOpsIn_cons];refine YF oLe_4_3 Y (by simp) (Jb (x:=.tmp 13) (.inr oLe_4_3.op)) ?_;rw[wpOpsIn_cons,f3];refine YF oLe_4_4 Y (by simp) (Jb (x:=.tmp 14) (.inr oLe_4_4.op)) ?_;rw[Act.put_other (by decide),f4];show Code.wpIn _ _ _ _ _ _ _
  generalize hb:(a2.put (some 6) x.key).put (some 7) x.val=a3;have s3:a3.tmps.size=a0.tmps.size:=by rw[<- hb];simpa [Act.put] using s2
  have d3:a3.defers=a.defers:=by rw[<- hb];exact d2
  have g1:a3.eval (.tmp 9)=.pointer (some ⟨W.heap.size,0,none⟩):=by rw[<- hb,Act.put_other (by decide),Act.put_other (by decide)];exact f1
  have g2:a3.eval (.tmp 5)=vo:=by rw[<- hb,Act.put_other (by decide),Act.put_other (by decide)];exact f2
  have g3:a3.eval (.tmp 6)=encH hh:=by rw[<- hb,Act.put_other (by decide),<- hkey];exact Act.put_look (by omega)
  have g4:a3.eval (.tmp 7)=.int .i64 n:=by rw[<- hb,<- hval];exact Act.put_look (by simp[Act.put];omega)
  have g5:a3.eval (.tmp 1)=.int .i64 n0:=by rw[<- hb,Act.put_other (by decide),Act.put_other (by decide)];exact f5
  clear hb;refine wpIn_seq (wpIn_region ?_);show wpOpsIn (fen none) 0 _ #[oLe 5 0,oLe 5 1,oLe 5 2] _ [0,1,2] a3 W1
  rw[wpOpsIn_cons];refine YF oLe_5_0 Y (by simp) (Jb (x:=.tmp 7) (.inl oLe_5_0.op)) ?_;rw[wpOpsIn_cons,g4];refine YF oLe_5_1 Y (by simp) (Jb (x:=.tmp 1) (.inl oLe_5_1.op)) ?_;rw[Act.put_other (by decide),g5,wpOpsIn_cons];refine YF oLe_5_2 Y (by simp) (ZpP (x:=.tmp 15) (y:=.tmp 16) (k:=.i64) (m:=n) (n:=n0) (b:=decide (n0<=n)) oLe_5_2.op (by rw[Act.put_other (by decide)];exact Act.put_look (by omega)) (Act.put_look (by simp[Act.put];omega)) rfl) ?_;show Code.wpIn _ _ _ _ _ _ _
  generalize hb:((a3.put (some 15) (.int .i64 n)).put (some 16) (.int .i64 n0)).put (some 17) (.bool (decide (n0<=n)))=a4;have s4:a4.tmps.size=a0.tmps.size:=by rw[<- hb];simpa [Act.put] using s3
  have d4:a4.defers=a.defers:=by rw[<- hb];exact d3
  have k1:a4.eval (.tmp 9)=.pointer (some ⟨W.heap.size,0,none⟩):=by rw[<- hb,Act.put_other (by decide),Act.put_other (by decide),Act.put_other (by decide)];exact g1
  have k2:a4.eval (.tmp 5)=vo:=by rw[<- hb,Act.put_other (by decide),Act.put_other (by decide),Act.put_other (by decide)];exact g2
  have k3:a4.eval (.tmp 6)=encH hh:=by rw[<- hb,Act.put_other (by decide),Act.put_other (by decide),Act.put_other (by decide)];exact g3
  have k4:a4.eval (.tmp 17)=.bool (decide (n0<=n)):=by rw[<- hb];exact Act.put_look (by simp[Act.put];omega)
  have k5:a4.eval (.tmp 1)=.int .i64 n0:=by rw[<- hb,Act.put_other (by decide),Act.put_other (by decide),Act.put_other (by decide)];exact g5
  clear hb;by_cases hp:decide (n0<=n)=true
  ·rw[if_pos hp]at hperm2
   refine wpIn_cond_true (by rw[k4,hp]) (wpIn_region ?_);show wpOpsIn (fen none) 0 _ #[oLe 6 0,oLe 6 1,oLe 6 2,oLe 6 3,oLe 6 4] _ [0,1,2,3,4] a4 W1
   rw[wpOpsIn_cons];refine YF oLe_6_0 Y (by simp) (Jb (x:=.tmp 5) (.inl oLe_6_0.op)) ?_;rw[wpOpsIn_cons,k2];refine YF oLe_6_1 Y (by simp) (Jb (x:=.tmp 6) (.inl oLe_6_1.op)) ?_;rw[Act.put_other (by decide),k3,wpOpsIn_cons];refine YF oLe_6_2 Y (by simp) (ZnT (h:=hh) oLe_6_2.op (Act.put_look (by simp[Act.put];omega))) ?_;have hcnt:ks.length<=1000000000:=by
    have h3:=hperm.length_eq;have h4:=List.length_filterMap_le (Cc (fun n=>decide (n0<=n))) en.toList;rw[lL]at h3;omega
   obtain⟨i0,z,q1,q2,q3,q4,q5⟩:=hinfo;have hown2:=hown1.alloc (.cells #[encH hh] 32);have hsz2:(W1.alloc (.cells #[encH hh] 32)).heap.size=W1.heap.size+1:=by simp
   obtain⟨v',W3,hrun,hown3,hgr,hiff⟩:=run_append_own (P:=Proofs.Tryz.prog) (w:=W1.alloc (.cells #[encH hh] 32)) (W.heap.size+1) 37 (oLe 6 3).type 32 i0 z 1 8 (by kernel_rfl) q1 q2 q3 q4 q5 (by decide) vo ks.length (ks.map encH) hown2
    ⟨W1.heap.size,0,none⟩ 1 1 [encH hh] rfl (fun j u hj=>by
     match j,hj with
     | 0,hj =>
      simp only[List.getElem?_cons_zero,oJ]at hj;subst hj;show (W1.alloc (.cells #[encH hh] 32)).cell? ⟨W1.heap.size,0+0,none⟩=_
      rw[World.cell?_alloc_new];rfl
     | j+1,hj=>simp at hj) (fun u hu=>by simp only[List.mem_singleton]at hu;subst hu;rfl) (by unfold maxLen;omega) (by omega) (by omega)
   rw[wpOpsIn_cons];refine YF oLe_6_3 Y (by simp) (ZnR (v:=vo) (ad:=⟨W1.heap.size,0,none⟩) (m:=1) (c:=1) oLe_6_3.op (by rw[Act.put_other (by decide),Act.put_other (by decide)];exact Act.put_look (by omega)) (Act.put_look (by simp[Act.put];omega)) hrun) ?_;rw[wpOpsIn_cons];refine YF oLe_6_4 Y (by simp) (Jb (x:=.tmp 21) (.inr oLe_6_4.op)) ?_;rw[Act.put_look (by simp[Act.put];omega)];have hblk:∀i,i<=W.heap.size->W3.heap[i]?=W1.heap[i]?:=fun i hi=>by
    rw[hgr.block i (by omega) (fun q=>?_)]
    ·exact Go.RowKit.Below.heap_alloc _ _ _ (by omega)
    ·have:=(hown2.lt i q.symm).1
     omega
   have hsz3:=hgr.size;refine⟨rfl,⟨by rw[hblk _ (by have:=Zz h1;omega)];exact hit.map,clock,Nat.le_refl _,by rw[hblk _ (Nat.le_refl _)];exact hnew⟩,⟨hgr.os.trans jk1.os,hgr.tape.trans jk1.tape,hgr.output.trans jk1.output,by have:=jk1.size;omega,fun i hi hne=>?_,.inl (Nat.le_refl _)⟩,by simpa [Act.put,sza] using s4,d4,?_,by omega,by rw[Act.put_other (by decide),Act.put_other (by decide),Act.put_other (by decide),Act.put_other (by decide),Act.put_other (by decide)];exact k5,ks++[hh],?_,?_,?_⟩
   ·rw[hblk i (by omega)];exact jk1.blk i hi hne
   ·rw[Act.put_other (by decide),Act.put_other (by decide),Act.put_other (by decide),Act.put_other (by decide),Act.put_other (by decide)];exact k1
   ·rw[Act.put_look (by simp[Act.put];omega),lL,List.map_append];exact hown3
   ·rw[Act.put_look (by simp[Act.put];omega),hiff];simp
   ·refine List.Perm.trans ?_ hperm
    rw[List.append_assoc];exact (hperm2.append_left ks).symm
  ·rw[if_neg hp]at hperm2
   refine wpIn_cond_false (by rw[k4];simpa using hp) (wpIn_skip ?_);refine⟨rfl,hit,jk1,by rw[s4,sza],d4,k1,by omega,k5,ks,by rw[k2];exact hown1,by rw[k2];exact hnil,?_⟩;exact (hperm2.append_left ks).symm.trans hperm
 ·refine⟨⟨?_,clock,Nat.le_refl _,?_⟩,hjk0,by simp[Act.put],rfl,Act.put_look (by simp[Act.put];omega),by simp,by rw[Act.put_other (by decide),Act.put_other (by decide)];exact hevn1,[],?_,?_,?_⟩
  ·exact hjk0.heap h1 Y
  ·exact World.alloc_heap_new _ _
  ·rw[Act.put_other (by decide),Act.put_other (by decide),hev10];exact World.ownsRow_nil _ _ _ _
  ·rw[Act.put_other (by decide),Act.put_other (by decide),hev10];simp
  ·rw[S_];exact .refl _
end Go.Q15
namespace Go.Q15
open Go Go.QAbs
variable {w:AV}{e:Env}{f g:FuncId}{a z:Int}{Q:JD}{A:List (Bool × List Blk)}{args caps:LV}{k:List Fr}{l:List Nat}{s s0:B8}{i ix la lm mx n o ver:Nat}{x:Nd}{v:Opd}{O:Orc}{ro:Ro}{st:St}{t:Tr}
def pL1:PC:=.seq (R [0,1] [⟨(some 4),none,false,.mv (.v .nils)⟩]) .skip
def rsL:List RV:=[.s 4]
theorem Zvv:toP Proofs.Tryz.prog 24 1 [⟨[0,1],[],[],[],[],[]⟩] cLe=some ((pL1,xLe),[]):=by kernel_rfl
theorem Zu4:FrX Ct:=FrX.of fun e st r hr=>by
 unfold Ct at hr ⊢;split at hr
 case h_2=>simp at hr
 rename_i lv ix n0 h1 h2;simp only[oB]at hr;obtain⟨es,hes,ks,hks,hr⟩:=hr;split at hr
 case isFalse=>simp at hr
 rename_i hc;simp only[oJ]at hr;subst hr;refine⟨rfl,fun M i B hh=>?_⟩;have hg:=JY hes;simp only[Qa hh lv ix _ hg];simp only[AA,oS,hks,if_pos hc]
noncomputable def leE:Ent:=.base (fnO (BJ (S T3) itS Ct pL1) rsL)
noncomputable def tx:List (FuncId × Ent):=(Q6,leE)::tw
noncomputable def TX:Tab:=Xt tx
theorem Zu5(hT:TabOk Proofs.Tryz.prog T3)(hm:Proofs.Tryz.prog.follows .mixedOrders=true)(hf:Proofs.Tryz.prog.funcs[Q6]?=some Proofs.Tryz.f50):Bf Proofs.Tryz.prog Q6 leE:=by
 refine Zvd (c:=cLe) (O:=S T3) hf (by kernel_rfl) (fun W0 B0 hg=>?_) (TG hm hT Zu4 _) (by kernel_rfl);exact TF (nt:=Proofs.Tryz.f50.ntmps) hm hT hg 1 cLe _ [] pL1 xLe Zvv Zu3
theorem leX:TLe TW TX:=fun g y hg=>IX (l:=tw) (by decide +kernel) g y hg
theorem upX{r:AV × St}(h:S TW f args st=some r):S TX f args st=some r:=En leX _ _ _ _ h
theorem Oc{r:AV × St}(h:S Tb f args st=some r):S TX f args st=some r:=upX (upW (upV (up3 h)))
theorem up3X{r:AV × St}(h:S T3 f args st=some r):S TX f args st=some r:=upX (upW (upV h))
theorem Zth{lv:Nat}{n0:Int}{es:List (AV × AV)}{ks:List H64}(h0:QAbs.look e 0=.map lv ix)(h1:QAbs.look e 1=.int .i64 n0)(hg:st.get lv ix=some (.map es))(hs:B6 (fun n=>decide (n0<=n)) es=some ks)(hn:ks.Nodup)(hl:es.length<1000000000):
 Ct e st=some (.ret,[(4,.lit ((srtH ks).map hAV))],st):=by
 unfold Ct;simp only[h0,h1,hg,AA,oS,hs];rw[if_pos ⟨hn,hl⟩]
theorem Od{lv:Nat}{n0:Int}{c:List (Nat × Int)}(hlv:lv<=st.A.length)(hg:st.get lv ix=some (.map (Jo c)))(hn:(c.map Prod.fst).Nodup)(h6:∀q∈c,q.1<18446744073709551616)(hl:c.length<1000000000):
 S TX Q6 [.map lv ix,.int .i64 n0] st=some (.lit ((Bo (Ap (fun n=>decide (n0<=n)) c)).map Zj),st):=by
 refine s_pr (X:=Ct) (pre:=pL1) (rs:=rsL) Y (fun A hA=>?_);have hs:=Ux (fun n=>decide (n0<=n)) c h6;have hnd:=Ia (Ob (N:=[]) h6) (Uz (p:=fun n=>decide (n0<=n)) hn);have he:(srtH ((Ap (fun n=>decide (n0<=n)) c).map toH)).map hAV=(Bo (Ap (fun n=>decide (n0<=n)) c)).map Zj:=by rw[ZtO];rfl
 have hl2:(Jo c).length<1000000000:=by unfold Jo;rw[List.length_map];exact hl
 have g:=ZD hA (ro:=false) (L:=[]) hg;rw[<- he];repeat'(first|refine ruS Y ?_|refine isS Y ?_|refine rkS Y ?_)
 refine .inr ⟨rfl,_,_,_,Zth Y Y g hs hnd hl2,?_⟩;refine ZQ hA (by simp) Y Y Y Y ?_;rfl
open Classical in
def Zvw:PC:=(R [0,1,2] [⟨(some 6),none,false,.mv (.v (.int .i64 0))⟩,⟨(some 7),none,false,.mv (.v (.int .i64 0))⟩,⟨(some 8),none,false,.mv (.v .nilmap)⟩,⟨(some 9),none,false,.mv (.v (.int .i64 0))⟩])
def Zvx:PC:=(R [0,2,9,10] [⟨(some 19),none,false,.mv (.s 0)⟩,⟨(some 20),none,false,.mv (.s 1)⟩,⟨(some 21),none,false,.call .norm (.v (.func (.func YP) [] [])) [(.s 19),(.s 20)]⟩,⟨(some 18),none,false,.mv (.s 21)⟩,⟨(some 22),none,false,.ext (.s 18) 0⟩,⟨(some 23),none,false,.ext (.s 18) 1⟩,⟨(some 10),none,false,.mv (.s 22)⟩,⟨(some 9),none,false,.mv (.s 23)⟩])
def Zvy:PC:=(R [0,2,9,10,25] [⟨(some 24),none,false,.mv (.s 9)⟩,⟨(some 25),none,false,.bin .neq (.s 24) (.v (.int .i64 0))⟩])
def Zvz:PC:=(R [6,7,8,9] [⟨(some 26),none,false,.mv (.s 9)⟩,⟨(some 6),none,false,.mv (.v (.int .i64 0))⟩,⟨(some 7),none,false,.mv (.v (.int .i64 0))⟩,⟨(some 8),none,false,.mv (.v .nilmap)⟩,⟨(some 9),none,false,.mv (.s 26)⟩])
def Zv0:PC:=(R [0,2,10,11] [⟨(some 27),none,false,.mkmap⟩,⟨(some 11),none,false,.mv (.s 27)⟩])
def Zv1:PC:=(R [0,10,11,28,29,30] [⟨(some 28),none,false,.mv (.s 2)⟩,⟨(some 29),none,false,.len 1 (.s 28)⟩,⟨(some 30),none,false,.mv (.v (.int .i64 0))⟩])
def Zv2:PC:=(R [0,10,11,28,29,30,31] [⟨(some 31),none,false,.bin .lss (.s 30) (.s 29)⟩])
def Zv3:PC:=(R [0,10,11,13,28,29,30] [⟨(some 32),none,false,.ixS 1 (.s 28) (.s 30)⟩,⟨(some 33),none,false,.ld false 1 (.s 32)⟩,⟨(some 13),none,false,.mv (.s 33)⟩])
def Zv4:PC:=(R [0,10,11,13,28,29,30,42] [⟨(some 34),none,false,.mv (.s 0)⟩,⟨(some 35),none,false,.mv (.s 13)⟩,⟨(some 36),none,false,.call .norm (.v (.func (.func Ym) [] [])) [(.s 34),(.s 35)]⟩,⟨(some 37),none,false,.un .not (.s 36)⟩,⟨(some 38),none,false,.mv (.s 37)⟩,⟨(some 39),(some (38,false)),false,.mv (.s 11)⟩,⟨(some 40),(some (38,false)),false,.mv (.s 13)⟩,⟨(some 41),(some (38,false)),false,.look 0 (.bool false) false (.s 39) (.s 40)⟩,⟨(some 42),none,false,.pick (.s 38) (.v (.bool true)) (.s 41)⟩])
def Zv5:PC:=(R [6,7,8,9] [⟨(some 6),none,false,.mv (.v (.int .i64 0))⟩,⟨(some 7),none,false,.mv (.v (.int .i64 0))⟩,⟨(some 8),none,false,.mv (.v .nilmap)⟩,⟨(some 9),none,false,.mv (.v (.int .i64 24))⟩])
def Zu7:PC:=(R [0,10,11,28,29,30] [⟨(some 43),none,false,.mv (.s 11)⟩,⟨(some 44),none,false,.mv (.s 13)⟩,⟨none,none,false,.mupd 0 (.s 43) (.s 44) (.v (.bool true))⟩])
def Zu8:PC:=(R [0,10,11,28,29,30] [⟨(some 45),none,false,.bin .add (.s 30) (.v (.int .i64 1))⟩,⟨(some 30),none,false,.mv (.s 45)⟩])
def Zu9:PC:=(R [0,8,10,11] [⟨(some 46),none,false,.mkmap⟩,⟨(some 8),none,false,.mv (.s 46)⟩])
def ZvA:PC:=(R [8,10,11,48,49,50] [⟨(some 47),none,false,.mv (.s 0)⟩,⟨(some 48),none,false,.call .norm (.v (.func (.func Y0) [] [])) [(.s 47)]⟩,⟨(some 49),none,false,.len 1 (.s 48)⟩,⟨(some 50),none,false,.mv (.v (.int .i64 0))⟩])
def ZvB:PC:=(R [8,10,11,48,49,50,51] [⟨(some 51),none,false,.bin .lss (.s 50) (.s 49)⟩])
def ZvC:PC:=(R [8,10,11,15,48,49,50] [⟨(some 52),none,false,.ixS 1 (.s 48) (.s 50)⟩,⟨(some 53),none,false,.ld false 1 (.s 52)⟩,⟨(some 15),none,false,.mv (.s 53)⟩])
def ZvD:PC:=(R [8,10,11,48,49,50] [⟨(some 54),none,false,.mv (.s 8)⟩,⟨(some 55),none,false,.mv (.s 15)⟩,⟨none,none,false,.mupd 0 (.s 54) (.s 55) (.v (.int .i64 1))⟩])
def ZvE:PC:=(R [8,10,11,48,49,50] [⟨(some 56),none,false,.bin .add (.s 50) (.v (.int .i64 1))⟩,⟨(some 50),none,false,.mv (.s 56)⟩])
def ZvF:PC:=(R [6,7,8,9] [⟨(some 75),none,false,.mv (.s 10)⟩,⟨(some 76),none,false,.len 2 (.s 75)⟩,⟨(some 77),none,false,.mv (.s 11)⟩,⟨(some 78),none,false,.len 2 (.s 77)⟩,⟨(some 79),none,false,.mv (.s 8)⟩,⟨(some 6),none,false,.mv (.s 76)⟩,⟨(some 7),none,false,.mv (.s 78)⟩,⟨(some 8),none,false,.mv (.s 79)⟩,⟨(some 9),none,false,.mv (.v (.int .i64 0))⟩])
def ZvG:PC:=.seq Zv2 (D (E 31 .skip (.exit 0)) (D (.block 1 (D Zv3 (D (D Zv4 (E 42 (D Zv5 .ret) .skip)) Zu7))) Zu8))
def ZvH:PC:=.seq ZvB (D (E 51 .skip (.exit 2)) (D (.block 3 (D ZvC ZvD)) ZvE))
def pPa:PC:=.seq Zvw (D Zvx (D (D Zvy (E 25 (D Zvz .ret) .skip)) (D Zv0 (D (D Zv1 (.block 0 (.loop ZvG))) (D Zu9 (D (D ZvA (.block 2 (.loop ZvH))) .skip))))))
def GI:PC:=.seq ZvF .ret
def h_Pa:List Hint:=[⟨[0,1,2],[],[],[],[],[]⟩,⟨[0,2,9,10],[],[],[],[],[]⟩,⟨[0,2,9,10,25],[],[],[],[],[]⟩,⟨[6,7,8,9],[],[],[],[],[]⟩,⟨[0,2,10,11],[],[],[],[],[]⟩,⟨[0,10,11,28,29,30],[],[],[],[],[]⟩,⟨[0,10,11,28,29,30,31],[],[],[],[],[]⟩,⟨[0,10,11,13,28,29,30],[],[],[],[],[]⟩,⟨[0,10,11,13,28,29,30,42],[],[],[],[],[]⟩,⟨[6,7,8,9],[],[],[],[],[]⟩,⟨[0,10,11,28,29,30],[],[],[],[],[]⟩,⟨[0,10,11,28,29,30],[],[],[],[],[]⟩,⟨[0,8,10,11],[],[],[],[],[]⟩,⟨[8,10,11,48,49,50],[],[],[],[],[]⟩,⟨[8,10,11,48,49,50,51],[],[],[],[],[]⟩,⟨[8,10,11,15,48,49,50],[],[],[],[],[]⟩,⟨[8,10,11,48,49,50],[],[],[],[],[]⟩,⟨[8,10,11,48,49,50],[],[],[],[],[]⟩]
def Zv6:List Hint:=[⟨[6,7,8,9],[],[],[],[],[]⟩]
def rsP:List RV:=[.s 6,.s 7,.s 8,.s 9]
theorem Zv7:toP Proofs.Tryz.prog 80 7 h_Pa cPa=some ((pPa,xPa),[]):=by kernel_rfl
theorem Zv8:YA Proofs.Tryz.prog 80 Zv6 xPaE=some (GI,[]):=by kernel_rfl
noncomputable def Ey(O:Orc):Run:=fun e st=>(DU e st).bind (JB fun e st=>(DV e st).bind (JB (exec O itS GI)))
theorem ZvI{T:Tab}(hm:Proofs.Tryz.prog.follows .mixedOrders=true)(hT:TabOk Proofs.Tryz.prog T){W0:World}{B0:Bse}(hg:KG Proofs.Tryz.prog W0 B0):CodeOk none Proofs.Tryz.prog (S T) 80 W0 B0 xPa (Ey (S T)) :=
 sPaA_ok.seq (sPaB_ok.seq (TB hm hT Zv8 hg))
theorem ZvJ{T:Tab}(hm:Proofs.Tryz.prog.follows .mixedOrders=true)(hT:TabOk Proofs.Tryz.prog T):FrX (Ey (S T)) :=
 CZ Zs6 fun x r hr=>DC (CZ Zs7 fun x r hr=>DC (EJ hm hT GI) hr) hr
noncomputable def paE:Ent:=.base (fnK (BJ (S T3) itS (Ey (S T3)) pPa) rsP)
noncomputable def tz:List (FuncId × Ent):=(JM,paE)::tx
noncomputable def TZ:Tab:=Xt tz
theorem ZvK(hT:TabOk Proofs.Tryz.prog T3)(hm:Proofs.Tryz.prog.follows .mixedOrders=true)(hf:Proofs.Tryz.prog.funcs[JM]?=some Proofs.Tryz.f52):Bf Proofs.Tryz.prog JM paE:=by
 refine ZuX (c:=cPa) (O:=S T3) hf (by kernel_rfl) (fun W0 B0 hg=>?_) (TG hm hT (ZvJ hm hT) _) (by kernel_rfl);exact TF (nt:=Proofs.Tryz.f52.ntmps) hm hT hg 7 cPa h_Pa [] pPa xPa Zv7 (ZvI hm hT hg)
theorem leZ:TLe TX TZ:=fun g y hg=>IX (l:=tx) (by decide +kernel) g y hg
theorem upZ{r:AV × St}(h:S TX f args st=some r):S TZ f args st=some r:=En leZ _ _ _ _ h
theorem A9{r:AV × St}(h:S Tb f args st=some r):S TZ f args st=some r:=upZ (Oc h)
def JX(N:ZC)(rs:List Ro):List (Nat × Int):=rs.foldl (fun c r=>AB c (Zr (ZY N r))) []
theorem Vt(N:ZC)(rs:List Ro)(r:Ro):JX N (rs++[r])=AB (JX N rs) (Zr (ZY N r)):=by simp[JX]
def JP(rs:List Ro):List Blk:=rs.map fun r=>.arr 5 0 [r.av]
theorem Im(rs:List Ro)(r:Ro):JP (rs++[r])=JP rs++[.arr 5 0 [r.av]]:=by simp[JP]
theorem Vu(N:ZC):∀(rs:List Ro) (c:List (Nat × Int)),(c.map Prod.fst).Nodup->((rs.foldl (fun c r=>AB c (Zr (ZY N r))) c).map Prod.fst).Nodup
 | [],c,h=>h
 | r::rs,c,h=>Vu N rs _ (IZ _ c h).1
theorem In(N:ZC)(o:Nat):∀(rs:List Ro) (c:List (Nat × Int)),Yc o (rs.foldl (fun c r=>AB c (Zr (ZY N r))) c)=Yc o c+((rs.filter fun r=>decide (o∈Zr (ZY N r))).length:Int)
 | [],c=>by simp
 | r::rs,c=>by
  rw[List.foldl_cons,In N o rs,IY,Vr (Vs _),List.filter_cons];by_cases h:o∈Zr (ZY N r)
  ·simp[h];omega
  ·simp[h]
theorem Io(N:ZC)(o:Nat):∀(rs:List Ro) (c:List (Nat × Int)),(c.map Prod.fst).Nodup->(o∈(rs.foldl (fun c r=>AB c (Zr (ZY N r))) c).map Prod.fst↔o∈c.map Prod.fst\/∃r∈rs,o∈Zr (ZY N r))
 | [],c,_=>by simp
 | r::rs,c,h=>by
  rw[List.foldl_cons,Io N o rs _ (IZ _ c h).1,(IZ _ c h).2];simp only[List.mem_cons,exists_eq_or_imp];constructor
  ·rintro ((q|q)|q)
   ·exact .inl q
   ·exact .inr (.inl q)
   ·exact .inr (.inr q)
  ·rintro (q|q|q)
   ·exact .inl (.inl q)
   ·exact .inl (.inr q)
   ·exact .inr q
section
variable {O:Orc}{k:List Fr}{Q:JD}{e:Env}{A:List (Bool × List Blk)}{X Y':List Blk}{keep:List Nat}{is:List QAbs.PI}
theorem Ip{L:List Blk}{d:Nat}(h:Is O is keep k Q ((d,.map A.length L.length)::e) ⟨A,false,L++[Blk.map []]⟩):Is O (⟨some d,none,false,.mkmap⟩::is) keep k Q e ⟨A,false,L⟩:=by
 exact Zm (v:=.map A.length L.length) (st':=⟨A,false,L++[Blk.map []]⟩) (by simp only[ZW,evalPO,oS,St.new_cur,Dg]) h
theorem Iq{kk:Nat}{x i:Opd}{ki:AV}{es es':List (AV × AV)}(hi0:ix=X.length)
 (hx:ZL e x=some (.map A.length ix)) (hi:ZL e i=some ki) (hki:Jh kk ki=true) (hv:ZL e v=some w) (hs:ZI Zs (A.length+1) ⟨A,false,X++(.map es::Y')⟩ w=some (w,⟨A,false,X++(.map es::Y')⟩)) (hp:AE ki w es=some es')
 (h:Is O is keep k Q e ⟨A,false,X++(.map es'::Y')⟩):Is O (⟨none,none,false,.mupd kk x i v⟩::is) keep k Q e ⟨A,false,X++(.map es::Y')⟩:=by
 subst hi0;refine Znw (ix:=X.length) hx hi hki hv hs (by rw[List.getElem?_append_right (Nat.le_refl _),Nat.sub_self];rfl) hp ?_;rw[List.set_append_right _ _ (Nat.le_refl _),Nat.sub_self];exact h
end
theorem Zn1{L:List Blk}{b:Nat}{N:ZC}(hN:GoodN N)(hR:∀L,Rd ⟨A,false,L⟩ la (b+5) N){rs:List Ro}(hrs:∀r∈rs,RtOk N r)(hl:rs.length<=100):
 S T3 YP [.ptr la (b+5) 0 0 0,.lit (rs.map Ro.av)] ⟨A,false,L⟩=some (.tup [.map A.length (L++JP rs).length,.int .i64 0],
  ⟨A,false,(L++JP rs)++(.map (Jo (JX N rs))::JP rs)⟩):=by
 refine X4 Y ?_;have p1:∀r:Ro,Qs r.av true 0 5=some r.av:=fun r=>rfl
 repeat'(first|refine JS Y ?_|refine ruS Y ?_|refine isS Y ?_|refine ZO ?_|refine Qc Y Y Y Y ?_)
 all_goals try first|contradiction|omega
 refine Ze (α:=Nat) (fun i=>[(0,.ptr la (b+5) 0 0 0),(1,.lit (rs.map Ro.av)),(18,.lit (rs.map Ro.av)),(19,.int .i64 rs.length),(20,.int .i64 i)]) (fun i=>⟨A,false,L++JP (rs.take i)⟩) (fun i=>i<=rs.length) (fun i=>rs.length-i) 0 Y (by simp[JP]) (by omega) ?_;intro i hi;rcases Nat.lt_or_ge i rs.length with hlt|hge
 ·obtain⟨r,hr⟩:∃r,rs[i]?=some r:=⟨rs[i]'hlt,jE _⟩
  have q:0<=((i:Nat):Int)/\rs[((i:Nat):Int).toNat]?=some r:=⟨by omega,by rw[show ((i:Nat):Int).toNat=i by omega];exact hr⟩
  have hC:=fun L=>up13 (IV hN (hR L) (hrs r (jM hr)))
  have ht:rs.take (i+1)=rs.take i++[r]:=ZF hr;repeat'(first|refine QY (f:=Ro.av) Y Y q (fun _=>rfl) ?_|refine Zx Y (p1 _) ?_|refine ruS Y ?_|refine isS Y ?_|refine rkS Y ?_|refine QU Y Y Y ?_|refine cm0 Y Y Y ?_ ?_|(intro _;try omega)|refine ZV Y Y (by omega) ?_|refine Zi Y Y Y ?_|refine Jr Y Y Y Y Y Y ?_|refine ZA Y Y Y (hC _) ?_)
  all_goals try first|contradiction|omega
  all_goals refine⟨i+1,⟨rfl,?_⟩,by omega,by omega⟩
  all_goals (rw[ht,Im,<- List.append_assoc];rfl)
 obtain rfl:i=rs.length:=by omega
 rw[List.take_length];obtain⟨X,hX⟩:∃X,X=L++JP rs:=⟨_,rfl⟩;rw[<- hX];repeat'(first|refine Ip ?_|refine JS Y ?_|refine ruS Y ?_|refine isS Y ?_|refine rkS Y ?_|refine cm0 Y Y Y ?_ ?_|(intro _;try omega))
 all_goals try first|contradiction|omega
 refine Ze (α:=Nat) (fun i=>[(0,.ptr la (b+5) 0 0 0),(9,.map A.length X.length),(32,.lit (rs.map Ro.av)),(33,.int .i64 rs.length),(34,.int .i64 i)]) (fun i=>⟨A,false,X++(.map (Jo (JX N (rs.take i)))::JP (rs.take i))⟩) (fun i=>i<=rs.length) (fun i=>rs.length-i) 0 Y Y (by omega) ?_;intro i hi;rcases Nat.lt_or_ge i rs.length with hlt|hge
 ·obtain⟨r,hr⟩:∃r,rs[i]?=some r:=⟨rs[i]'hlt,jE _⟩
  have q:0<=((i:Nat):Int)/\rs[((i:Nat):Int).toNat]?=some r:=⟨by omega,by rw[show ((i:Nat):Int).toNat=i by omega];exact hr⟩
  have hro:=hrs r (jM hr);have hNd:=fun L=>Ur hN (hR L) hro
  have ht:rs.take (i+1)=rs.take i++[r]:=ZF hr;have ln:=DY hN hro;have ln2:(Zr (ZY N r)).length<=1000000000:=by have:=(Yp (ZY N r)).2.2;omega
  have hsn:=Vt N (rs.take i) r;have hnn:∀o,0<=Yc o (JX N (rs.take i))/\Yc o (JX N (rs.take i))<=100:=fun o=>by
   have h1:=In N o (rs.take i) [];have h2:=List.length_filter_le (fun r=>decide (o∈Zr (ZY N r))) (rs.take i);rw[List.length_take]at h2;unfold JX;rw[h1];simp only[Yc];omega
  generalize JX N (rs.take i)=c0 at *;generalize Zr (ZY N r)=v at *;have hbx:X++(.map (Jo c0)::JP (rs.take i))++[.arr 5 0 [r.av]]=X++(.map (Jo c0)::JP (rs.take (i+1))):=by rw[ht,Im];simp
  repeat'(first|refine QY (f:=Ro.av) Y Y q (fun _=>rfl) ?_|refine Zx Y (p1 _) ?_|refine JS Y ?_|refine ruS Y ?_|refine isS Y ?_|refine ZO ?_|refine QU Y Y Y ?_|refine cm0 Y Y Y ?_ ?_|(intro _;try omega)|refine Zi Y Y Y ?_|refine Jr Y Y Y Y Y Y ?_|refine ZA Y Y Y (hNd _) ?_)
  all_goals try first|contradiction|omega
  change Ru _ _ _ _ _ ⟨A,false,X++(.map (Jo c0)::JP (rs.take i))++[.arr 5 0 [r.av]]⟩;rw[hbx];refine Ze (α:=Nat) (fun j=>[(0,.ptr la (b+5) 0 0 0),(9,.map A.length X.length),(32,.lit (rs.map Ro.av)),(33,.int .i64 rs.length),(34,.int .i64 i),(47,.lit (v.map Zj)),(48,.int .i64 v.length),(49,.int .i64 j)]) (fun j=>⟨A,false,X++(.map (Jo (AB c0 (v.take j)))::JP (rs.take (i+1)))⟩) (fun j=>j<=v.length) (fun j=>v.length-j) 0 Y Y (by omega) ?_;intro j hj;rcases Nat.lt_or_ge j v.length with hjl|hjg
  ·obtain⟨h,hh⟩:∃k,v[j]?=some k:=⟨v[j]'hjl,jE _⟩
   have qk:0<=((j:Nat):Int)/\v[((j:Nat):Int).toNat]?=some h:=⟨by omega,by rw[show ((j:Nat):Int).toNat=j by omega];exact hh⟩
   have ht2:v.take (j+1)=v.take j++[h]:=ZF hh;have hg0:0<=Yc h (AB c0 (v.take j))/\Yc h (AB c0 (v.take j))<=2000000000:=by
    have h1:=IY h (v.take j) c0;have h2:=List.count_le_length (a:=h) (l:=v.take j);have h3:(v.take j).length<=v.length:=by rw[List.length_take];omega
    have h4:=hnn h;omega
   have hc:AB c0 (v.take (j+1))=AT h (AB c0 (v.take j)):=by rw[ht2,Uw]
   generalize AB c0 (v.take j)=c at *;have hlk:lookV ⟨A,false,X++(.map (Jo c)::JP (rs.take (i+1)))⟩ 0 (.int .i64 0) false (.int .u64 h) (.map A.length X.length)=some (.int .i64 (Yc h c)):=Uu (by simp only[St.get,if_true];rw[List.getElem?_append_right (Nat.le_refl _),Nat.sub_self];rfl) h;have hput:=OP h c;generalize Yc h c=n at *;repeat'(first|refine QY (f:=Zj) Y Y qk (fun _=>rfl) ?_|refine YI Y Y hlk ?_|refine Iq Y Y Y Y Y Y hput ?_|refine ruS Y ?_|refine isS Y ?_|refine rkS Y ?_|refine Zx Y Y ?_|refine cm0 Y Y Y ?_ ?_|(intro _;try omega)|refine ZV Y Y (by omega) ?_)
   all_goals try omega
   refine⟨j+1,⟨rfl,?_⟩,by omega,by omega⟩;rw[hc]
  ·obtain rfl:j=v.length:=by omega
   rw[List.take_length];repeat'(first|refine ruS Y ?_|refine isS Y ?_|refine rkS Y ?_|refine cm0 Y Y Y ?_ ?_|(intro _;try omega)|refine ZV Y Y (by omega) ?_)
   all_goals try omega
   refine⟨i+1,⟨rfl,?_⟩,by omega,by omega⟩;rw[ht,hsn,<- ht]
 ·obtain rfl:i=rs.length:=by omega
  rw[List.take_length];repeat'(first|refine ruS Y ?_|refine isS Y ?_|refine rkS Y ?_|refine cm0 Y Y Y ?_ ?_|(intro _;try omega))
  all_goals try omega
  exact (Jq (.inr Y) Y Y Y Y).trans Y
def atL(N:ZC)(n:Int)(rs:List Ro):List Nat:=Bo (Ap (fun m=>decide (n<=m)) (JX N rs))
theorem Ez(N:ZC)(rs:List Ro):((JX N rs).map Prod.fst).Nodup:=Vu N rs [] (by simp)
theorem GJ{N:ZC}(hN:GoodN N)(h6:Cs N){rs:List Ro}(hrs:∀r∈rs,RtOk N r):∀q∈JX N rs,q.1<18446744073709551616:=fun q hq=>by
 have:=(Io N q.1 rs [] (by simp)).1 (List.mem_map.2 ⟨q,hq,rfl⟩);rcases this with h|⟨r,hr,h⟩
 ·simp at h
 ·exact ZrE hN h6 (hrs r hr) h
theorem Vv{N:ZC}(hN:GoodN N)(hK:∀l,Lv N l->l.length<=16384){rs:List Ro}(hrs:∀r∈rs,RtOk N r):(JX N rs).length<=16384:=by
 have h1:=hK ((JX N rs).map Prod.fst) ⟨Ez N rs,fun o ho=>by
  rcases (Io N o rs [] (by simp)).1 ho with h|⟨r,hr,h⟩
  ·simp at h
  ·obtain⟨y,hy⟩:=Ew hN (hrs r hr) o (onceV_mem.1 h)
   rw[hy];simp⟩
 rwa [List.length_map]at h1
theorem Zn2{b:Nat}{N:ZC}(hN:GoodN N)(h6:Cs N)(hK:∀l,Lv N l->l.length<=16384)(hR:Rd st la (b+5) N){rs:List Ro}(hrs:∀r∈rs,RtOk N r)(hl:rs.length<=100):
 S TX JO [.ptr la (b+5) 0 0 0,.lit (rs.map Ro.av)] st=some (.tup [.lit ((atL N 2 rs).map Zj),.int .i64 0],st):=by
 refine Zv (leX JO (.pf YW) (leW JO (.pf YW) (leV JO (.pf YW) (le3 JO (.pf YW) Y)))) (fun A hA=>?_);have hC:=up3X (Zn1 (A:=A) (L:=[]) hN (fun L=>hR.push hA (ro:=false) (L:=L)) hrs hl);have hg:St.get ⟨A,false,([]++JP rs)++(.map (Jo (JX N rs))::JP rs)⟩ A.length (([]++JP rs):List Blk).length=some (.map (Jo (JX N rs))):=by
  simp only[St.get,if_true];rw[List.getElem?_append_right (Nat.le_refl _),Nat.sub_self];rfl
 have hL:=Od (n0:=2) (Nat.le_refl _) hg (Ez N rs) (GJ hN h6 hrs) (by have:=Vv hN hK hrs;omega);change _=some (AV.lit ((atL N 2 rs).map Zj),_) at hL;generalize JX N rs=c at *;generalize ([]++JP rs:List Blk)=X at *;repeat'(first|refine ruS Y ?_|refine isS Y ?_|refine rkS Y ?_|refine cm0 Y Y Y ?_ ?_|(intro _;try omega)|refine ZA Y Y Y (hC) ?_|refine ZA Y Y Y (hL) ?_)
 all_goals try contradiction
 all_goals refine ZQ hA (by simp) Y Y Y Y ?_
 all_goals rfl
end Go.Q15
