/- A part of the proof: W11, W4, M1, M2, M3, M4, M5, M6, M7, M8, CH, M9, PM, M10, PC, M11, M12. No condition. -/
import Derived.Test.YtnbialakgbcbfaaGreatPlT6
set_option linter.unusedVariables false
set_option linter.unusedSimpArgs false
set_option maxHeartbeats 8000000
set_option maxRecDepth 100000
namespace Go.QAbs
def ruP(O:Orc)(Q:Qn)(k:List Fr)(e:Env)(st:St):PC->Option Prop
 | .seq a b=>some (Ru O a (.seq b::k) Q e st)
 | .reg l is=>some (Is O is l k Q e st)
 | .skip=>some (Rk O k Q .norm e st)
 | .ret=>some (Rk O k Q .ret e st)
 | .exit id=>some (Rk O k Q (.ex id) e st)
 | .block id b=>some (Ru O b (.blk id::k) Q e st)
 | .ite c a b=>match ZY e c with
  | some (.bool true)=>some (Ru O a k Q e st)
  | some (.bool false)=>some (Ru O b k Q e st)
  | _=>none
 | _=>none
theorem ruS{O:Orc}{Q:Qn}{k:List Fr}{e:Env}{st:St}{c:PC}{P:Prop}(hc:ruP O Q k e st c=some P)(h:P):Ru O c k Q e st:=by
 unfold ruP at hc
 split at hc
 ·cases hc;exact Zc8 h
 ·cases hc;exact Qp h
 ·cases hc;exact Zb3 h
 ·cases hc;exact Jq h
 ·cases hc;exact Zvl h
 ·cases hc;exact Zmd h
 ·split at hc
  ·rename_i q;cases hc;exact Zvm q h
  ·rename_i q;cases hc;exact Zjp q h
  ·simp at hc
 ·simp at hc
def rkP(O:Orc)(Q:Qn)(e:Env)(st:St):List Fr->Ex->Option Prop
 | [],x=>some (Q x e st)
 | .seq b::k,.norm=>some (Ru O b k Q e st)
 | .seq _::k,x=>some (Rk O k Q x e st)
 | .blk id::k,.ex id'=>match Nat.beq id' id with
  | true=>some (Rk O k Q .norm e st)
  | false=>some (Rk O k Q (.ex id') e st)
 | .blk _::k,x=>some (Rk O k Q x e st)
 | .inv P::_,.norm=>some (P e st)
 | .inv _::k,x=>some (Rk O k Q x e st)
theorem rkS{O:Orc}{Q:Qn}{k:List Fr}{e:Env}{st:St}{x:Ex}{P:Prop}(hc:rkP O Q e st k x=some P)(h:P):Rk O k Q x e st:=by
 unfold rkP at hc
 split at hc
 ·cases hc;exact Zoj h
 ·cases hc;exact ZX h
 ·rename_i hx;cases hc;cases x with
  | norm=>exact absurd Y hx
  | ret=>exact Zok h
  | ex id=>exact ZrQ h
 ·split at hc
  ·rename_i q;cases hc;exact ZrR q h
  ·rename_i q;cases hc;exact ZrS q h
 ·rename_i hx;cases hc;cases x with
  | norm=>exact ZxG h
  | ret=>exact Zol h
  | ex id=>exact absurd Y (hx _)
 ·cases hc;exact ZIf h
 ·rename_i hx;cases hc;cases x with
  | norm=>exact absurd Y hx
  | ret=>exact Zom h
  | ex id=>exact ZrT h
def Zv2(O:Orc)(Q:Qn)(k:List Fr)(keep:List Nat)(st:St)(e:Env)(is:List PI):Option Nat->Option Prop
 | some d=>some (Is O is keep k Q ((d,.undef)::e) st)
 | none=>some (Is O is keep k Q e st)
def valP(O:Orc)(Q:Qn)(k:List Fr)(keep:List Nat)(st:St)(e:Env)(is:List PI)(d:Nat):Option AV->Option Prop
 | some v=>some (Is O is keep k Q ((d,v)::e) st)
 | none=>none
def pckO:Bool->AV->AV->Option AV
 | true,a,_=>some a
 | false,_,b=>some b
def ZxP:Bool->Option AV
 | true=>some (.bool false)
 | false=>some (.bool true)
def opP(e:Env):PO->Option AV
 | .mv x=>ZY e x
 | .fadr off x=>match ZY e x with
  | some a=>Zll off a
  | none=>none
 | .ext x i=>match ZY e x with
  | some (.tup vs)=>vs[i]?
  | _=>none
 | .nilck x=>match ZY e x with
  | some a=>ZcH a
  | none=>none
 | .pick c a b=>match ZY e c with
  | some (.bool t)=>match ZY e a with
   | some va=>match ZY e b with
    | some vb=>pckO t va vb
    | none=>none
   | none=>none
  | _=>none
 | .un .not x=>match ZY e x with
  | some (.bool b)=>ZxP b
  | _=>none
 | _=>none
def isP(O:Orc)(Q:Qn)(k:List Fr)(keep:List Nat)(st:St)(e:Env):List PI->Option Prop
 | []=>match Zc6 keep e with
  | some e'=>some (Rk O k Q .norm e' st)
  | none=>none
 | ⟨od,some (t,w),own,op⟩::is=>match JV e t with
  | some (.bool w')=>match w' == w with
   | true=>some (Is O (⟨od,none,own,op⟩::is) keep k Q e st)
   | false=>Zv2 O Q k keep st e is od
  | some .undef=>Zv2 O Q k keep st e is od
  | _=>none
 | ⟨some d,none,false,op⟩::is=>valP O Q k keep st e is d (opP e op)
 | _=>none
theorem isS{O:Orc}{Q:Qn}{k:List Fr}{keep:List Nat}{e:Env}{st:St}{is:List PI}{P:Prop}(hc:isP O Q k keep st e is=some P)(h:P):Is O is keep k Q e st:=by
 unfold isP at hc
 split at hc
 ·split at hc
  ·rename_i q;cases hc;exact Yj q h
  ·simp at hc
 ·rename_i od t w own op is
  split at hc
  ·rename_i w' q
   split at hc
   ·rename_i q2
    have e1:w'=w:=by simpa using q2
    subst e1
    cases hc;exact ZtR q h
   ·rename_i q2
    unfold Zv2 at hc
    split at hc
    ·cases hc;exact Zxp q q2 h
    ·cases hc;exact ZxH q q2 h
  ·rename_i q
   unfold Zv2 at hc
   split at hc
   ·cases hc;exact Zxq q h
   ·cases hc;exact ZxI q h
  ·simp at hc
 ·rename_i d op is
  unfold valP at hc
  split at hc
  ·rename_i v hv
   cases hc
   unfold opP at hv
   split at hv
   ·exact ZDH hv h
   ·split at hv
    ·rename_i q;exact ZCN q hv h
    ·simp at hv
   ·split at hv
    ·rename_i q;exact ZdA q hv h
    ·simp at hv
   ·split at hv
    ·rename_i q;exact ZtT q hv h
    ·simp at hv
   ·split at hv
    ·rename_i t q
     split at hv
     ·rename_i q1
      split at hv
      ·rename_i q2;exact Zvn q q1 q2 (by cases t<;>simpa [pckO] using hv) h
      ·simp at hv
     ·simp at hv
    ·simp at hv
   ·split at hv
    ·rename_i b q
     cases b with
     | true=>simp only[ZxP,Option.some.injEq]at hv;subst hv;exact ZtS q Y h
     | false=>simp only[ZxP,Option.some.injEq]at hv;subst hv;exact ZtS q Y h
    ·simp at hv
   ·simp at hv
  ·simp at hc
 ·simp at hc
abbrev St.ps(st:St):List (Bool × List Blk):=st.A++[(st.ro,st.L)]
def Xi:St->List (Nat × Nat)->List Blk->St
 | st,k::ks,b::bs=>Xi (st.upd k.1 k.2 b) ks bs
 | st,_,_=>st
def noH:Blk->Bool
 | .hole _=>false
 | _=>true
theorem ZlL{b:Blk}(h:noH b=true):vis (some b)=some b:=by cases b<;>first|rfl|simp[noH]at h
theorem Zb9{o:Option Blk}{b:Blk}(h:vis o=some b):o=some b/\noH b=true:=by
 cases o with
 | none=>simp[vis]at h
 | some c=>cases c<;>simp[vis]at h<;>(subst h;exact⟨rfl,rfl⟩)
theorem Zv3{st:St}{lv ix:Nat}{b:Blk}(h:st.get lv ix=some b):noH b=true:=by
 unfold St.get at h
 split at h
 ·exact (Zb9 h).2
 ·cases hr:st.A[lv]? with
  | none=>rw[hr]at h;simp at h
  | some r=>rw[hr]at h;exact (Zb9 h).2
structure Cl(st:St)(ks:List (Nat × Nat))(bs:List Blk):Prop where
 nd:ks.Nodup
 len:bs.length=ks.length
 wr:∀k∈ks,st.wr k.1
 get:∀(j lv ix:Nat) (b:Blk),ks[j]?=some (lv,ix)->bs[j]?=some b->st.get lv ix=some b
theorem ZpM:∀(ks:List (Nat × Nat)) (st:St) (bs:List Blk),(Xi st ks bs).A.length=st.A.length
 | [],_,_=>rfl
 | _::_,_,[]=>rfl
 | k::ks,st,b::bs=>by rw[Xi,ZpM ks,St.upd_A]
theorem Cl.tail{st:St}{k:Nat × Nat}{ks:List (Nat × Nat)}{b b':Blk}{bs:List Blk}(h:Cl st (k::ks) (b::bs))(hb:noH b'=true):Cl (st.upd k.1 k.2 b') ks bs:=by
 have hg:=h.get 0 k.1 k.2 b rfl rfl
 have hk:st.wr k.1:=h.wr k (by simp)
 have hnd:=List.nodup_cons.1 h.nd
 refine⟨hnd.2,by have:=h.len;simpa using this,fun q hq=>St.wr_upd hk (h.wr q (by simp[hq])),fun j lv ix c h1 h2=>?_⟩
 rw[St.get_upd hg (ZlL hb),if_neg,h.get (j+1) lv ix c h1 h2]
 rintro⟨rfl,rfl⟩
 exact hnd.1 (jM h1)
theorem Cl.both:∀ {ks:List (Nat × Nat)} {st:St} {bs bs':List Blk},Cl st ks bs->bs'.length=ks.length->bs'.all noH=true ->
 (∀(j lv ix:Nat) (b:Blk),ks[j]?=some (lv,ix)->bs'[j]?=some b->(Xi st ks bs').get lv ix=some b)/\(∀(lv ix:Nat),(lv,ix)∉ks->(Xi st ks bs').get lv ix=st.get lv ix)
 | [],st,bs,bs',h,hl,_=>⟨fun j lv ix b h1=>by simp at h1,fun lv ix _=>by cases bs'<;>rfl⟩
 | k::ks,st,[],_,h,_,_=>by have:=h.len;simp at this
 | k::ks,st,b::bs,[],h,hl,_=>by simp at hl
 | k::ks,st,b::bs,b'::bs',h,hl,ha=>by
  simp only[List.all_cons,Bool.and_eq_true]at ha;have hg:=h.get 0 k.1 k.2 b rfl rfl;have hnd:=List.nodup_cons.1 h.nd
  obtain⟨i1,i2⟩:=Cl.both (bs':=bs') (h.tail ha.1) (by simpa using hl) ha.2
  rw[Xi]
  refine⟨fun j lv ix c h1 h2=>?_,fun lv ix hn=>?_⟩
  ·cases j with
   | zero =>
    simp only[List.getElem?_cons_zero,Option.some.injEq]at h1 h2;subst h1 h2;rw[i2 _ _ hnd.1,St.get_upd hg (ZlL ha.1),if_pos ⟨rfl,rfl⟩]
   | succ j=>exact i1 j lv ix c h1 h2
  ·simp only[List.mem_cons,not_or]at hn
   rw[i2 _ _ hn.2,St.get_upd hg (ZlL ha.1),if_neg]
   rintro⟨rfl,rfl⟩
   exact hn.1 Y
theorem ZqS:∀ {ks:List (Nat × Nat)} {st:St} {bs:List Blk},(∀k∈ks,st.wr k.1)->∀ {lv:Nat},st.wr lv->(Xi st ks bs).wr lv
 | [],_,_,_,_,h=>h
 | _::_,_,[],_,_,h=>h
 | k::ks,st,b::bs,hk,lv,h=>by
  rw[Xi]
  exact ZqS (fun q hq=>St.wr_upd (hk k (by simp)) (hk q (by simp[hq]))) (St.wr_upd (hk k (by simp)) h)
theorem Cl.put{st:St}{ks:List (Nat × Nat)}{bs bs':List Blk}(h:Cl st ks bs)(hl:bs'.length=ks.length)(ha:bs'.all noH=true):Cl (Xi st ks bs') ks bs' :=
 ⟨h.nd,hl,fun k hk=>ZqS h.wr (h.wr k hk),(h.both hl ha).1⟩
theorem updU{st:St}{lv ix:Nat}{b c:Blk}:(st.upd lv ix b).upd lv ix c=st.upd lv ix c:=by
 unfold St.upd
 by_cases h:lv=st.A.length
 ·simp only[if_pos h,List.set_set]
 ·simp only[if_neg h,List.length_set]
  rcases Nat.lt_or_ge lv st.A.length with q|q
  ·simp only[List.set_set,List.getElem?_set,if_true,if_pos q,Option.getD_some,Zf8]
  ·simp only[List.set_eq_of_length_le q]
theorem updC{st:St}{l1 i1 l2 i2:Nat}{b c:Blk}(h:¬ (l1=l2/\i1=i2)):(st.upd l1 i1 b).upd l2 i2 c=(st.upd l2 i2 c).upd l1 i1 b:=by
 unfold St.upd
 by_cases h1:l1=st.A.length
 ·by_cases h2:l2=st.A.length
  ·have hi:i1≠i2:=fun q=>h ⟨h1.trans h2.symm,q⟩
   simp only[if_pos h1,if_pos h2];rw[List.set_comm _ _ hi]
  ·simp only[if_pos h1,if_neg h2,List.length_set]
 ·by_cases h2:l2=st.A.length
  ·simp only[if_neg h1,if_pos h2,List.length_set]
  ·simp only[if_neg h1,if_neg h2,List.length_set]
   by_cases e:l1=l2
   ·subst e
    have hi:i1≠i2:=fun q=>h ⟨rfl,q⟩
    rcases Nat.lt_or_ge l1 st.A.length with q|q
    ·simp only[List.set_set,List.getElem?_set,if_true,if_pos q,Option.getD_some,Zf8]
     rw[List.set_comm _ _ hi]
    ·simp only[List.set_eq_of_length_le q]
   ·rw[jS e,jS (fun q=>e q.symm),List.set_comm _ _ e]
theorem updS{st:St}{lv ix:Nat}{b:Blk}(h:st.get lv ix=some b):st.upd lv ix b=st:=by
 unfold St.upd
 by_cases q:lv=st.A.length
 ·rw[if_pos q]
  rw[St.get,if_pos q]at h;have h2:=(Zb9 h).1;obtain⟨h3,h4⟩:=List.getElem?_eq_some_iff.1 h2;subst h4;rw[List.set_getElem_self h3]
 ·rw[if_neg q]
  rw[St.get,if_neg q]at h
  cases hr:st.A[lv]? with
  | none=>rw[hr]at h;simp at h
  | some r =>
   rw[hr]at h;have h2:=(Zb9 h).1;obtain⟨h3,h4⟩:=List.getElem?_eq_some_iff.1 h2
   have e1:r.2.set ix b=r.2:=by subst h4;exact List.set_getElem_self h3
   simp only[Option.getD_some,Zf8,e1]
   rw[show (r.1,r.2)=r from rfl]
   obtain⟨h5,h6⟩:=List.getElem?_eq_some_iff.1 hr;subst h6;rw[List.set_getElem_self h5]
theorem ZnB:∀ {ks:List (Nat × Nat)} {st:St} {bs:List Blk} {lv ix:Nat} {b:Blk},(lv,ix)∉ks->(Xi st ks bs).upd lv ix b=Xi (st.upd lv ix b) ks bs
 | [],_,_,_,_,_,_=>rfl
 | _::_,_,[],_,_,_,_=>rfl
 | k::ks,st,c::bs,lv,ix,b,hn=>by
  simp only[List.mem_cons,not_or]at hn;rw[Xi,Xi,ZnB hn.2,updC]
  rintro⟨rfl,rfl⟩
  exact hn.1 Y
theorem ZfT:∀ {ks:List (Nat × Nat)} {st:St} {bs:List Blk} {j lv ix:Nat} {b:Blk},ks.Nodup->bs.length=ks.length->ks[j]?=some (lv,ix)->(Xi st ks bs).upd lv ix b=Xi st ks (bs.set j b)
 | [],_,_,_,_,_,_,_,_,h=>by simp at h
 | _::_,_,[],_,_,_,_,_,hl,_=>by simp at hl
 | k::ks,st,c::bs,j,lv,ix,b,hd,hl,h=>by
  have hnd:=List.nodup_cons.1 hd
  cases j with
  | zero =>
   simp only[List.getElem?_cons_zero,Option.some.injEq]at h;subst h;rw[Xi,ZnB hnd.1,updU];rfl
  | succ j =>
   rw[Xi,ZfT hnd.2 (by simpa using hl) h];rfl
theorem Cl.same:∀ {ks:List (Nat × Nat)} {st:St} {bs:List Blk},Cl st ks bs->Xi st ks bs=st
 | [],_,bs,_=>by cases bs<;>rfl
 | _::_,_,[],h=>rfl
 | k::ks,st,b::bs,h=>by
  have hg:=h.get 0 k.1 k.2 b rfl rfl
  have:=(h.tail (Zv3 hg)).same
  rw[Xi];rw[updS hg]at this ⊢;exact this
theorem Cl.le{st:St}{ks:List (Nat × Nat)}{bs:List Blk}(h:Cl st ks bs):∀k∈ks,k.1<=st.A.length:=by
 intro k hk;obtain⟨j,hj,rfl⟩:=List.getElem_of_mem hk
 have hj2:j<bs.length:=by rw[h.len];exact hj
 exact St.get_le (h.get j _ _ bs[j] (by rw[jE hj]) (by rw[jE hj2]))
theorem Cl.old{st:St}{ks:List (Nat × Nat)}{b0 bs:List Blk}{A:List (Bool × List Blk)}{ro:Bool}{L:List Blk}(H:Cl st ks b0)(hA:A=(Xi st ks bs).ps)(hl:bs.length=ks.length)(ha:bs.all noH=true){j lv ix:Nat}{b:Blk}(hj:ks[j]?=some (lv,ix))(hb:bs[j]?=some b):St.get ⟨A,ro,L⟩ lv ix=some b :=
 ZS hA ((H.put hl ha).get j lv ix b hj hb)
section
variable {O:Orc}{k:List Fr}{Q:Qn}{e:Env}{A:List (Bool × List Blk)}{L:List Blk}{keep:List Nat}{is:List PI}{d:Nat}{st:St}{ks:List (Nat × Nat)}{b0 bs:List Blk}
theorem ZxQ{n:Nat}{a x:Opd}{j lv ix ver i o w:Nat}{es:LV}{v v' y:AV}(H:Cl st ks b0)(hA:A=(Xi st ks bs).ps)(hl:bs.length=ks.length)(hn:bs.all noH=true)(hj:ks[j]?=some (lv,ix))(hb:bs[j]?=some (.arr w ver es))
 (ha:ZY e a=some (.ptr lv ix ver i o)) (hx:ZY e x=some v) (hy:es[i]?=some y) (hs:Zb QK (lv+1) ⟨A,false,L⟩ v=some (v,⟨A,false,L⟩)) (hv:(Q7 w y o n v).bind YS=some v')
 (h:∀A',A'=(Xi st ks (bs.set j (.arr w ver (es.set i v')))).ps->A'.length=A.length->Is O is keep k Q e ⟨A',false,L⟩):Is O (⟨none,none,false,.st n a x⟩::is) keep k Q e ⟨A,false,L⟩:=by
 have hP:=H.put hl hn
 refine ZOP hA ha hx (hP.wr (lv,ix) (jM hj)) (hP.get j lv ix _ hj hb) hy hs hv (fun A' hA'=>?_)
 rw[ZfT H.nd hl hj]at hA';refine h A' hA' ?_;rw[hA',hA];simp[ZpM]
theorem Zv4{s x:Opd}{j lv ix ver w bytes:Nat}{es ys:LV}{vx:AV}(H:Cl st ks b0)(hA:A=(Xi st ks bs).ps)(hl:bs.length=ks.length)(hn:bs.all noH=true)(hj:ks[j]?=some (lv,ix))(hb:bs[j]?=some (.arr w ver es))
 (hs:ZY e s=some (.ref lv ix ver 0 es.length)) (hx:ZY e x=some vx) (hy:elems ⟨A,false,L⟩ vx=some ys) (hw:JH w ys=true) (hsl:mapSt (Zb QK (lv+1)) ⟨A,false,L⟩ ys=some (ys,⟨A,false,L⟩)) (hlen:es.length+ys.length<4294967296) (hby:bytes<=4096)
 (h:∀A',A'=(Xi st ks (bs.set j (.arr w (ver+1) (es++ys)))).ps->A'.length=A.length->Is O is keep k Q ((d,.ref lv ix (ver+1) 0 (es.length+ys.length))::e) ⟨A',false,L⟩) :
 Is O (⟨some d,none,false,.app w bytes s x⟩::is) keep k Q e ⟨A,false,L⟩:=by
 have hP:=H.put hl hn;have hg:=hP.get j lv ix _ hj hb;have hwr:=hP.wr (lv,ix) (jM hj);have hlv:=St.get_le hg;refine Zq (v:=.ref lv ix (ver+1) 0 (es.length+ys.length)) (st':=St.upd ⟨A,false,L⟩ lv ix (.arr w (ver+1) (es++ys))) ?_ ?_
 ·have hg':=ZS hA (ro:=false) (L:=L) hg
  have hw':=ZAe hA hlv hwr (ro:=false) (L:=L)
  simp only[Zd,evalPO,ZD hs,ZD hx,hy,Option.bind_some,Q4,hw,if_true,hsl,Zf4,hg',ZRL,true_and,if_pos (show 0+es.length<=es.length/\es.length+ys.length<4294967296/\bytes<=4096 by omega),List.drop_zero]
  rw[List.take_of_length_le (by omega),St.put_upd hw' hg']
  rfl
 ·rw[YU hA hlv]
  refine h _ ?_ ?_
  ·rw[ZfT H.nd hl hj]
  ·rw[hA];simp[ZpM,St.upd_A]
end
end Go.QAbs
namespace Go.Q15
open Go Go.QAbs
def tl:List (FuncId × Ent):=(Zu,.base (ZIe 4))::(ZdH,.base ZqL)::tabL
def Tb:Tab:=Zc5 tl
structure Mea where
 b:Int
 r:Int
 l:Int
deriving DecidableEq
def Mea.zero:Mea:=⟨0,0,0⟩
def Mea.add(x y:Mea):Mea:=⟨x.b+y.b,x.r+y.r,x.l+y.l⟩
def Mea.av(m:Mea):AV:=.agg [.int .i64 m.b,.int .i64 m.r,.int .i64 m.l]
def Q0(b:UInt8):Bool:=b.toNat<128 || 191<b.toNat
def Jt(b:UInt8):Bool:=b.toNat == 10
def ZAz(s:B8):Mea:=⟨s.length,s.countP Q0,s.countP Jt⟩
theorem ZnC(s t:B8):ZAz (s++t)=(ZAz s).add (ZAz t):=by
 simp[ZAz,Mea.add]
theorem Zth:ZAz []=.zero:=rfl
theorem Zv5(b:UInt8)(st:St):S Tb X7 [.int .u8 b.toNat] st=some (.bool true,st):=by
 refine Zj Y (fun A hA=>?_)
 repeat'(first|refine ruS Y ?_|refine isS Y ?_|refine rkS Y ?_)
 refine ZO hA (by simp) Y Y Y Y ?_
 rfl
theorem Zti(b:UInt8)(st:St):S Tb Xh [.int .u8 b.toNat] st=some (.bool (Q0 b),st):=by
 refine Zj Y (fun A hA=>?_)
 repeat'(first|refine ruS Y ?_|refine isS Y ?_|refine rkS Y ?_|(refine cm0 Y Y Y ?_ ?_<;>intro _<;>try omega))
 all_goals refine ZO hA (by simp) Y Y Y Y ?_
 all_goals (unfold Q0;simp;omega)
theorem Zv6(b:UInt8)(st:St):S Tb X6 [.int .u8 b.toNat] st=some (.bool (Jt b),st):=by
 refine Zj Y (fun A hA=>?_)
 repeat'(first|refine ruS Y ?_|refine isS Y ?_|refine rkS Y ?_|(refine cm0 Y Y Y ?_ ?_<;>intro _<;>try omega))
 all_goals refine ZO hA (by simp) Y Y Y Y ?_
 all_goals (unfold Jt;simp;omega)
def Zxr(f:FuncId)(p:UInt8->Bool):Prop:=∀b st,S Tb f [.int .u8 b.toNat] st=some (.bool (p b),st)
theorem Zv7{s:B8}{i:Nat}(h:i<s.length):∃b,s[i]?=some b/\s.take (i+1)=s.take i++[b]:=by
 refine⟨s[i],by simp[h],?_⟩
 rw[List.take_add_one];simp[h]
theorem ZlM(f:FuncId)(p:UInt8->Bool)(hf:Zxr f p)(s:B8)(hs:s.length<4294967296)(st:St):S Tb ZBt [.str s,.func (.func f) [] []] st=some (.int .i64 (s.countP p),st):=by
 refine Zj Y (fun A hA=>?_)
 repeat'(first|refine ruS Y ?_|refine isS Y ?_|refine ZX ?_|refine Qf Y ?_)
 refine Zc (α:=Nat) (fun i=>[(0,.str s),(1,.func (.func f) [] []),(5,.int .i64 ((s.take i).countP p)),(8,.int .i64 s.length),(9,.int .i64 i)])
  (fun i=>⟨A,false,[]⟩) (fun i=>i<=s.length) (fun i=>s.length-i) 0 rfl rfl (Nat.zero_le _) ?_
 intro i hi
 repeat'(first|refine ruS Y ?_|refine isS Y ?_|refine rkS Y ?_|(refine cm0 Y Y Y ?_ ?_<;>intro _<;>try omega))
 ·rename_i hlt
  obtain⟨b,hb,ht⟩:=Zv7 (s:=s) (i:=i) (by omega)
  have hc:=List.countP_le_length (p:=p) (l:=s.take i);have hl:=List.length_take_le i s
  refine ZVF Y Y (by omega) (by simpa using hb) ?_
  refine ZA Y Y Y (hf b _) ?_
  cases hp:p b
  ·repeat'(first|refine ruS Y ?_|refine isS Y ?_|refine rkS Y ?_|refine ZL Y Y (by omega) ?_)
   refine⟨i+1,⟨?_,rfl⟩,by omega,by omega⟩
   rw[ht,List.countP_append];simp[hp]
  ·repeat'(first|refine ruS Y ?_|refine isS Y ?_|refine rkS Y ?_|refine ZL Y Y (by omega) ?_)
   refine⟨i+1,⟨?_,rfl⟩,by omega,by omega⟩
   rw[ht,List.countP_append];simp[hp]
 ·refine ZO hA (by simp) Y Y Y Y ?_
  rw[List.take_of_length_le (by omega)]
theorem Ztj(a b c x y z:Int):eqV [(0,0),(1,0),(2,0)] 0 (.agg [.int .i64 a,.int .i64 b,.int .i64 c]) (.agg [.int .i64 x,.int .i64 y,.int .i64 z])=some (decide (a=x/\b=y/\c=z)):=by
 show (if decide (a=x)=true then (if decide (b=y)=true then (if decide (c=z)=true then some true else some false) else some false) else some false)=_
 by_cases h1:a=x<;>by_cases h2:b=y<;>by_cases h3:c=z<;>simp[h1,h2,h3]
theorem ZfU(m:Mea)(st:St):S Tb Yr [m.av] st=some (m.av,st):=by
 refine Zj Y (fun A hA=>?_)
 unfold Mea.av
 repeat'(first|refine ruS Y ?_|refine ZB Y Y Y Y ?_|refine Yj Y ?_|refine rkS Y ?_|refine ZZ Y Y Y ?_|refine ZJ Y Y Y ?_|refine Ze Y Y Y Y Y Y ?_|refine Zoo Y Y Y ?_|(refine ZIg Y Y (Ztj _ _ _ 0 0 0) (fun _=>?_) (fun _=>?_)))
 ·rename_i h
  refine JL hA (by simp) Y Y Y Y Y ?_
  rw[h.1,h.2.1,h.2.2]
 ·refine JL hA (by simp) Y Y Y Y Y ?_
  rfl
theorem Of_c(s:B8)(hs:s.length<4294967296)(st:St):S Tb ZIl [.str s] st=some ((ZAz s).av,st):=by
 refine Zj Y (fun A hA=>?_)
 have h1:=fun st=>ZlM X7 (fun _=>true) Zv5 s hs st
 have h2:=fun st=>ZlM Xh Q0 Zti s hs st
 have h3:=fun st=>ZlM X6 Jt Zv6 s hs st
 repeat'(first|refine ruS Y ?_|refine isS Y ?_|refine ZB Y Y Y Y ?_|refine rkS Y ?_|(refine cm0 Y Y Y ?_ ?_<;>intro _<;>try omega)|refine ZL Y Y (by omega) ?_|refine ZZ Y Y Y ?_|refine ZJ Y Y Y ?_|refine Ze Y Y Y Y Y Y ?_|refine Zme Y Y Y ?_|refine Zoo Y Y Y ?_|refine ZA Y Y Y (h1 _) ?_|refine ZA Y Y Y (h2 _) ?_|refine ZA Y Y Y (h3 _) ?_|refine ZA Y Y Y (ZfU ⟨_,_,_⟩ _) ?_|refine Zr ?_)
 refine JL hA (by simp) Y Y Y Y Y ?_
 simp[Mea.av,ZAz]
theorem ZGG{n:Nat}(h:n<18446744073709551616):IntKind.u64.wrap (n:Int)=n:=by
 have e1:IntKind.u64.signed=false:=rfl;have e2:IntKind.u64.bits=64:=rfl;simp only[IntKind.wrap,e1,e2,Bool.false_and,if_false,jB];omega
theorem Zv8{n:Nat}(h:n<9223372036854775808):IntKind.i64.wrap (n:Int)=n:=ZXI (by omega) (by omega)
theorem Zxs{h:Nat}(hh:h<18446744073709551616):ZIT .and (.int .u64 h) (.int .u64 65535)=some (.int .u64 ((h % 65536:Nat):Int)):=by
 have e:(BitVec.ofInt 64 (h:Int) &&& BitVec.ofInt 64 65535).toNat=h % 65536:=by
  have e1:BitVec.ofInt 64 (h:Int)=BitVec.ofNat 64 h:=by simp
  have e2:BitVec.ofInt 64 65535=BitVec.ofNat 64 65535:=rfl
  rw[e1,e2,BitVec.toNat_and,BitVec.toNat_ofNat,BitVec.toNat_ofNat,Nat.mod_eq_of_lt (by omega:h<2 ^ 64)]
  exact Nat.and_two_pow_sub_one_eq_mod h 16
 show some (AV.int .u64 (IntKind.u64.wrap ((BitVec.ofInt 64 (h:Int) &&& BitVec.ofInt 64 65535).toNat:Int)))=_
 rw[e,ZGG (by omega)]
theorem Zxt{h:Nat}:ZIT .shr (.int .u64 h) (.int .u64 16)=some (.int .u64 ((h / 65536:Nat):Int)):=by
 show some (AV.int .u64 ((h:Int).fdiv (2 ^ 16)))=_
 rw[Int.fdiv_eq_ediv_of_nonneg _ (by decide)];rfl
theorem Zxu{g:Nat}(hg:g<4294967296):ZIT .shl (.int .u64 g) (.int .u64 16)=some (.int .u64 ((g*65536:Nat):Int)):=by
 show some (AV.int .u64 (IntKind.u64.wrap ((g:Int)*2 ^ 16)))=_
 rw[show ((g:Int)*2 ^ 16)=((g*65536:Nat):Int) by omega,ZGG (by omega)]
theorem or16{g s:Nat}(hg:g<4294967296)(hs:s<65536):ZIT .or (.int .u64 ((g*65536:Nat):Int)) (.int .u64 s)=some (.int .u64 ((g*65536+s:Nat):Int)):=by
 have e:(BitVec.ofInt 64 ((g*65536:Nat):Int) ||| BitVec.ofInt 64 (s:Int)).toNat=g*65536+s:=by
  have e1:BitVec.ofInt 64 ((g*65536:Nat):Int)=BitVec.ofNat 64 (g*65536):=BitVec.ofInt_natCast ..
  have e2:BitVec.ofInt 64 (s:Int)=BitVec.ofNat 64 s:=BitVec.ofInt_natCast ..
  rw[e1,e2,BitVec.toNat_or,BitVec.toNat_ofNat,BitVec.toNat_ofNat,Nat.mod_eq_of_lt (by omega),Nat.mod_eq_of_lt (by omega)]
  have:=Nat.two_pow_add_eq_or_of_lt (i:=16) (b:=s) (by omega) g
  rw[show g*65536=2 ^ 16*g by omega,this]
 show some (AV.int .u64 (IntKind.u64.wrap ((BitVec.ofInt 64 ((g*65536:Nat):Int) ||| BitVec.ofInt 64 (s:Int)).toNat:Int)))=_
 rw[e,ZGG (by omega)]
theorem Zv9(h:Nat)(hh:h<18446744073709551616)(st:St):S Tb ZDN [.int .u64 h] st=some (.tup [.int .i64 ((h % 65536:Nat):Int),.int .u64 ((h / 65536:Nat):Int)],st):=by
 refine Zj Y (fun A hA=>?_)
 repeat'(first|refine ruS Y ?_|refine isS Y ?_|refine rkS Y ?_|refine ZGO Y Y (Zxs hh) ?_|refine ZGO Y Y Zxt ?_|refine ZOK Y (Zv8 (by omega)) ?_)
 refine ZO hA (by simp) Y Y Y Y ?_
 rfl
abbrev X8(h:Nat):Prop:=h % 65536<16384/\1<=h / 65536/\h / 65536<=4294967295
theorem Zix(h:Nat)(hh:X8 h)(st:St):S Tb ZDM [.int .u64 h] st=some (.int .i64 0,st):=by
 refine Zj Y (fun A hA=>?_)
 repeat'(first|refine ruS Y ?_|refine isS Y ?_|refine rkS Y ?_|(refine cm0 Y Y Y ?_ ?_<;>intro _<;>try omega)|refine ZA Y Y Y (Zv9 h (by omega) _) ?_)
 all_goals try omega
 all_goals refine ZO hA (by simp) Y Y Y Y ?_
 all_goals rfl
theorem ZwA(s g:Nat)(hs:s<16384)(hg:1<=g/\g<=4294967295)(st:St):S Tb ZGR [.int .i64 s,.int .u64 g] st=some (.tup [.int .u64 ((g*65536+s:Nat):Int),.int .i64 0],st):=by
 refine Zj Y (fun A hA=>?_)
 repeat'(first|refine ruS Y ?_|refine isS Y ?_|refine rkS Y ?_|(refine cm0 Y Y Y ?_ ?_<;>intro _<;>try omega)|refine ZGO Y Y (Zxu (by omega)) ?_|refine ZGO Y Y (or16 (by omega) (by omega)) ?_|refine ZOK Y (ZGG (by omega)) ?_)
 all_goals try omega
 all_goals refine ZO hA (by simp) Y Y Y Y ?_
 all_goals rfl
structure Kid where
 at_:Nat
 m:Mea
deriving DecidableEq
def Kid.av(k:Kid):AV:=.agg [.int .u64 k.at_,.int .i64 k.m.b,.int .i64 k.m.r,.int .i64 k.m.l]
def slV{α:Type}(f:α->AV):Option (List α)->AV
 | none=>.nils
 | some l=>.lit (l.map f)
structure Nd where
 h:Nat
 text:B8
 kids:Option (List Kid)
def Nd.av(x:Nd):AV:=.agg [.int .i64 x.h,.str x.text,slV Kid.av x.kids]
def Nd.ks(x:Nd):List Kid:=x.kids.getD []
def leastB(h:Nat):Nat:=8*2 ^ h
def mostB:Nat->Nat
 | 0=>16
 | h+1=>min (mostB h*4) 65536
theorem ZQq:∀h,16<=mostB h/\mostB h<=65536
 | 0=>by simp[mostB]
 | h+1=>by have:=ZQq h;simp only[mostB];omega
theorem ZCy{h:Nat}(hh:h<=16):8<=leastB h/\leastB h<=524288:=by
 have h1:2 ^ h<=2 ^ 16:=Nat.pow_le_pow_right (by decide) hh
 have h2:1<=2 ^ h:=Nat.one_le_two_pow;unfold leastB;omega
theorem ZGH(h:Nat):leastB (h+1)=leastB h*2:=by unfold leastB;rw[Nat.pow_succ];omega
theorem ZnD(n:Nat)(i:Int)(hi:i=n)(hn:n<=16)(st:St):S Tb ZGT [.int .i64 i] st=some (.tup [.int .i64 (leastB n),.int .i64 (mostB n)],st):=by
 subst hi
 refine Zj Y (fun A hA=>?_)
 repeat'(first|refine ruS Y ?_|refine isS Y ?_|refine ZX ?_)
 refine Zc (α:=Nat) (fun i=>[(2,.int .i64 (leastB i)),(3,.int .i64 (mostB i)),(4,.int .i64 n),(5,.int .i64 i)]) (fun i=>⟨A,false,[]⟩) (fun i=>i<=n) (fun i=>n-i) 0 Y Y (by omega) ?_
 intro i hi
 have hl:=ZCy (h:=i) (by omega)
 have hm:=ZQq i
 repeat'(first|refine ruS Y ?_|refine isS Y ?_|refine rkS Y ?_|(refine cm0 Y Y Y ?_ ?_<;>intro _<;>try omega)|refine ZL Y Y (by omega) ?_|refine ZqM Y Y (by omega) ?_|refine Zc9 Y Y ?_)
 ·refine⟨i+1,⟨?_,rfl⟩,by omega,by omega⟩
  rw[ZGH];simp only[mostB,jB,if_false]
  rw[show ((min (mostB i*4) 65536:Nat):Int)=min ((mostB i:Int)*4) 65536 by omega]
  rfl
 ·have:i=n:=by omega
  subst this
  refine ZO hA (by simp) Y Y Y Y ?_
  simp only[jB,if_false]
  rw[Int.min_eq_left (by omega)]
structure KidOk(h:Nat)(k:Kid):Prop where
 at_:X8 k.at_
 lo:(leastB h:Int)<=k.m.b
 hi:k.m.b<=mostB h
 r0:0<=k.m.r
 rb:k.m.r<=k.m.b
 l0:0<=k.m.l
 lr:k.m.l<=k.m.r
theorem ZnE(x:Nd)(h0:x.h=0)(h1:1<=x.text.length/\x.text.length<=16)(h2:x.ks=[])(st:St):S Tb Xx [x.av] st=some (.bool true,st):=by
 obtain⟨h,text,kids⟩:=x
 simp only at h0 h1
 subst h0
 refine Zj Y (fun A hA=>?_)
 cases kids with
 | none =>
  simp only[Nd.av,slV]
  repeat'(first|refine ruS Y ?_|refine isS Y ?_|refine ZB Y Y Y Y ?_|refine rkS Y ?_|refine Qf Y ?_|refine QG Y ?_|(refine cm0 Y Y Y ?_ ?_<;>intro _<;>try omega)|refine ZJ Y Y Y ?_)
  refine ZO hA (by simp) Y Y Y Y ?_
  rfl
 | some l =>
  have:l=[]:=h2
  subst this;simp only[Nd.av,slV]
  repeat'(first|refine ruS Y ?_|refine isS Y ?_|refine ZB Y Y Y Y ?_|refine rkS Y ?_|refine Qf Y ?_|refine Qg Y Y ?_|(refine cm0 Y Y Y ?_ ?_<;>intro _<;>try omega)|refine ZJ Y Y Y ?_)
  refine ZO hA (by simp) Y Y Y Y ?_
  rfl
set_option maxHeartbeats 4000000 in
theorem ZrZ(n:Nat)(hn:n<=15)(ks:List Kid)(hk:2<=ks.length/\ks.length<=4)(hs:∀k∈ks,KidOk n k)(st:St):S Tb Xx [Nd.av ⟨n+1,[],some ks⟩] st=some (.bool true,st):=by
 refine Zj Y (fun A hA=>?_)
 simp only[Nd.av,slV]
 repeat'(first|refine ruS Y ?_|refine isS Y ?_|refine ZB Y Y Y Y ?_|refine ZX ?_|refine Zi Y ?_|(refine cm0 Y Y Y ?_ ?_<;>intro _<;>try omega)|(refine ZCM Y Y (fun _=>?_) (fun _=>?_)<;>try contradiction)|refine QC Y Y (by omega) ?_|refine ZJ Y Y Y ?_|refine ZA Y Y Y (ZnD n _ (by omega) (by omega) _) ?_)
 refine Zc (α:=Nat × List Blk) (fun p=>[(3,.int .i64 (leastB n)),(4,.int .i64 (mostB n)),(59,.lit (ks.map Kid.av)),(60,.int .i64 ks.length),(61,.int .i64 p.1)]) (fun p=>⟨A,false,.arr 3 0 [.agg [.int .i64 ↑(n+1),.str [],.lit (ks.map Kid.av)]]::p.2⟩) (fun p=>p.1<=ks.length) (fun p=>ks.length-p.1) (0,[]) Y Y (by simp) ?_
 rintro⟨i,G⟩ hi
 simp only at hi ⊢
 repeat'(first|refine ruS Y ?_|refine isS Y ?_|refine rkS Y ?_|refine Z5 Y Y Y ?_|refine Zk Y Y ?_|refine QY Y Y (by omega) (fun _=>rfl) (fun _ _=>?_)|(refine cm0 Y Y Y ?_ ?_<;>intro _<;>try omega)|refine Za Y Y Y ?_|refine J5 Y Y Y Y Y Y ?_)
 ·rename_i k hk'
  obtain⟨a1,b1,c1,d1,e1,f1,g1⟩:=hs k (jM hk')
  repeat'(first|refine ruS Y ?_|refine isS Y ?_|refine rkS Y ?_|refine Z5 Y Y Y ?_|(refine cm0 Y Y Y ?_ ?_<;>intro _<;>try omega)|refine ZL Y Y (by omega) ?_|refine ZA Y Y Y (Zix k.at_ a1 _) ?_)
  exact⟨(i+1,_),⟨rfl,rfl⟩,by simp only;omega,by simp only;omega⟩
 ·refine ZO hA (by simp) Y Y Y Y ?_
  rfl
def QX:List Mea->Mea
 | []=>.zero
 | m::l=>m.add (QX l)
theorem Mea.add_zero(m:Mea):m.add .zero=m:=by cases m;simp[Mea.add,Mea.zero]
theorem Mea.zero_add(m:Mea):Mea.add .zero m=m:=by cases m;simp[Mea.add,Mea.zero]
theorem Mea.add_assoc(a b c:Mea):(a.add b).add c=a.add (b.add c):=by cases a;cases b;cases c;simp[Mea.add,Int.add_assoc]
theorem ZQr(a b:List Mea):QX (a++b)=(QX a).add (QX b):=by
 induction a with
 | nil=>simp[QX,Mea.zero_add]
 | cons m l ih=>simp[QX,ih,Mea.add_assoc]
structure Mea.Fit(m:Mea)(n:Int):Prop where
 b0:0<=m.b
 b1:m.b<=n
 r0:0<=m.r
 r1:m.r<=n
 l0:0<=m.l
 l1:m.l<=n
theorem ZIJ:∀ {l:List Mea},(∀m∈l,m.Fit 65536)->(QX l).Fit (l.length*65536)
 | [],_=>⟨by decide,by decide,by decide,by decide,by decide,by decide⟩
 | m::l,h=>by
  obtain⟨a1,a2,a3,a4,a5,a6⟩:=h m (by simp)
  obtain⟨b1,b2,b3,b4,b5,b6⟩:=ZIJ (l:=l) (fun x hx=>h x (by simp[hx]))
  have:((m::l).length:Int)*65536=l.length*65536+65536:=by simp;omega
  constructor<;>simp only[QX,Mea.add]<;>omega
theorem ZU{α:Type}{l:List α}{i:Nat}{a:α}(h:l[i]?=some a):l.take (i+1)=l.take i++[a]:=by
 rw[List.take_add_one,h];rfl
set_option maxHeartbeats 4000000 in
theorem Zws(ms:List Mea)(hl:ms.length<=4)(hf:∀m∈ms,m.Fit 65536)(st:St)(lv ix ver n:Nat)(hn:n=ms.length)(hg:st.get lv ix=some (.arr 3 ver (ms.map Mea.av))):S Tb ZGU [.ref lv ix ver 0 n] st=some ((QX ms).av,st):=by
 subst hn
 refine Zj Y (fun A hA=>?_)
 have hgA:∀L,St.get ⟨A,false,L⟩ lv ix=some (.arr 3 ver (ms.map Mea.av)):=fun L=>ZS hA hg
 repeat'(first|refine ruS Y ?_|refine isS Y ?_|refine ZX ?_|refine Zp Y ?_|refine ZJ Y Y Y ?_)
 refine Zc (α:=Nat × List Blk) (fun p=>[(2,.ptr A.length 0 0 0 0),(3,.ptr A.length 1 0 0 0),(8,.ref lv ix ver 0 ms.length),(9,.int .i64 ms.length),(10,.int .i64 p.1)]) (fun p=>⟨A,false,.arr 3 0 [.agg [.int .i64 0,.int .i64 0,.int .i64 0]]::.arr 3 0 [(QX (ms.take p.1)).av]::p.2⟩) (fun p=>p.1<=ms.length) (fun p=>ms.length-p.1) (0,[]) Y Y (by simp) ?_
 rintro⟨i,G⟩ hi
 simp only at hi ⊢
 repeat'(first|refine ruS Y ?_|refine ZB Y Y Y Y ?_|refine Yj Y ?_|refine rkS Y ?_|(refine cm0 Y Y Y ?_ ?_<;>intro _<;>try omega)|refine Q1 Y Y Y Y Y Y ?_|refine ZA Y Y Y (ZfU _ _) ?_)
 ·rename_i hlt
  obtain⟨m,hm⟩:∃m,ms[i]?=some m:=⟨ms[i]'(by omega),by simp[show i<ms.length by omega]⟩
  obtain⟨a1,a2,a3,a4,a5,a6⟩:=ZIJ (l:=ms.take i) (fun x hx=>hf x (List.mem_of_mem_take hx))
  have hli:=List.length_take_le i ms;obtain⟨b1,b2,b3,b4,b5,b6⟩:=hf m (jM hm)
  refine JA Y Y (by omega) (by rw[hgA];simp[wIs]) ?_
  refine Z1 (x:=m.av) Y (hgA _) (by simp[hm]) Y ?_
  have ht:QX (ms.take (i+1))=⟨(QX (ms.take i)).b+m.b,(QX (ms.take i)).r+m.r,(QX (ms.take i)).l+m.l⟩:=by
   rw[ZU hm,ZQr];simp[QX,Mea.add,Mea.zero]
  generalize hS:QX (ms.take i)=s at *
  rw[show s.av=.agg [.int .i64 s.b,.int .i64 s.r,.int .i64 s.l] from rfl]
  repeat'(first|refine ruS Y ?_|refine isS Y ?_|refine ZB Y Y Y Y ?_|refine rkS Y ?_|refine Z5 Y Y Y ?_|(refine cm0 Y Y Y ?_ ?_<;>intro _<;>try omega)|refine ZL Y Y (by omega) ?_|refine ZZ Y Y Y ?_|refine Za Y Y Y ?_|refine J5 Y Y Y Y Y Y ?_|refine Zme Y Y Y ?_|refine Zoo Y Y Y ?_|refine Q1 Y Y Y Y Y Y ?_|refine Zr ?_)
  refine⟨(i+1,G++[.arr 3 0 [m.av]]),⟨rfl,?_⟩,by simp only;omega,by simp only;omega⟩
  simp only[ht];rfl
 ·refine JL hA (by simp) Y Y Y Y Y ?_
  have:ms.take i=ms:=List.take_of_length_le (by omega)
  rw[this];rfl
theorem ZnF(x:Nd)(h0:x.h=0)(h1:x.text.length<=16)(st:St):S Tb ZBJ [x.av] st=some ((ZAz x.text).av,st):=by
 obtain⟨h,text,kids⟩:=x
 simp only at h0 h1
 subst h0
 refine Zj Y (fun A hA=>?_)
 have hO:=fun st=>Of_c text (by omega) st
 unfold Mea.av at hO;simp only[Nd.av]
 cases kids
 all_goals simp only[slV]
 all_goals repeat'(first|refine ruS Y ?_|refine isS Y ?_|refine ZB Y Y Y Y ?_|refine rkS Y ?_|(refine cm0 Y Y Y ?_ ?_<;>intro _<;>try omega)|refine ZJ Y Y Y ?_|refine Ze Y Y Y Y Y Y ?_|refine ZA Y Y Y (hO _) ?_)
 all_goals refine JL hA (by simp) Y Y Y Y Y ?_
 all_goals rfl
theorem KidOk.fit{n:Nat}{k:Kid}(h:KidOk n k):k.m.Fit 65536:=by
 obtain⟨a1,b1,c1,d1,e1,f1,g1⟩:=h
 have:=ZQq n
 constructor<;>omega
set_option maxHeartbeats 4000000 in
theorem Ztk(n:Nat)(ks:List Kid)(hk:ks.length<=4)(hs:∀k∈ks,k.m.Fit 65536)(text:B8)(st:St):S Tb ZBJ [Nd.av ⟨n+1,text,some ks⟩] st=some ((QX (ks.map Kid.m)).av,st):=by
 refine Zj Y (fun A hA=>?_)
 simp only[Nd.av,slV]
 repeat'(first|refine ruS Y ?_|refine isS Y ?_|refine ZB Y Y Y Y ?_|refine ZX ?_|refine Zi Y ?_|(refine cm0 Y Y Y ?_ ?_<;>intro _<;>try omega)|refine ZJ Y Y Y ?_|refine QN Y ?_)
 refine Zc (α:=Nat × List Blk) (fun p=>[(2,.ptr A.length 1 0 0 0),(3,.ref A.length 2 p.1 0 p.1),(13,.lit (ks.map Kid.av)),(14,.int .i64 ks.length),(15,.int .i64 p.1)]) (fun p=>⟨A,false,.arr 3 0 [.agg [.int .i64 ↑(n+1),.str text,.lit (ks.map Kid.av)]]::.arr 3 0 [.agg [.int .i64 0,.int .i64 0,.int .i64 0]]::.arr 3 p.1 ((ks.take p.1).map fun k=>k.m.av)::p.2⟩) (fun p=>p.1<=ks.length) (fun p=>ks.length-p.1) (0,[]) Y Y (by simp) ?_
 rintro⟨i,G⟩ hi
 simp only at hi ⊢
 repeat'(first|refine ruS Y ?_|refine isS Y ?_|refine rkS Y ?_|refine Z5 Y Y Y ?_|refine Zk Y Y ?_|refine QY Y Y (by omega) (fun _=>rfl) (fun _ _=>?_)|(refine cm0 Y Y Y ?_ ?_<;>intro _<;>try omega)|refine ZL Y Y (by omega) ?_|refine Za Y Y Y ?_|refine J5 Y Y Y Y Y Y ?_|refine Zz Y Y Y Y ?_|refine ZDI Y Y Y (by first|rfl|(simp;done)|(simp;omega)) (by first|omega|(simp<;>omega)) (by decide) rfl rfl ?_)
 ·rename_i k hk'
  have hk2:ks[i]?=some k:=hk'
  refine⟨(i+1,G++[.arr 4 0 [k.av]]),⟨rfl,?_⟩,by simp only;omega,by simp only;omega⟩
  rw[ZU hk2,List.map_append];rfl
 ·have hi':ks.take i=ks:=List.take_of_length_le (by omega)
  refine ZA Y Y Y (Zws (ks.map Kid.m) (by simpa using hk) (by intro m hm;obtain⟨k,hk1,rfl⟩:=List.mem_map.1 hm;exact hs k hk1) _ A.length 2 i i (by simp;omega) (by rw[St.get_cur,hi',List.map_map];rfl)) ?_
  rw[show (QX (ks.map Kid.m)).av=.agg [.int .i64 (QX (ks.map Kid.m)).b,.int .i64 (QX (ks.map Kid.m)).r,.int .i64 (QX (ks.map Kid.m)).l] from rfl]
  repeat'(first|refine Yj Y ?_|refine rkS Y ?_|refine Q1 Y Y Y Y Y Y ?_|refine Jq ?_)
  refine JL hA (by simp) Y Y Y Y Y ?_
  rfl
structure LeafOk(x:Nd):Prop where
 h:x.h=0
 lo:1<=x.text.length
 hi:x.text.length<=16
 ks:x.ks=[]
structure InnerOk(x:Nd)(n:Nat)(ks:List Kid):Prop where
 eq:x=⟨n+1,[],some ks⟩
 n15:n<=15
 lo:2<=ks.length
 hi:ks.length<=4
 kid:∀k∈ks,KidOk n k
 sum:(QX (ks.map Kid.m)).b<=65536
def NdOk(x:Nd):Prop:=LeafOk x\/∃n ks,InnerOk x n ks
def Nd.mea(x:Nd):Mea:=if x.h=0 then ZAz x.text else QX (x.ks.map Kid.m)
theorem ZnG(x:Nd)(hx:NdOk x)(st:St):S Tb ZAi [x.av] st=some (.int .i64 0,st):=by
 rcases hx with h|⟨n,ks,rfl,h1,h2,h3,h4,h5⟩
 ·have hf:=fun st=>ZnE x h.h ⟨h.lo,h.hi⟩ h.ks st
  have hS:=fun st=>ZnF x h.h h.hi st
  have hhi:=h.hi;unfold Mea.av at hS;have hm:(ZAz x.text).b=x.text.length:=rfl;obtain⟨h,text,kids⟩:=x
  simp only[Nd.av]at *
  refine Zj Y (fun A hA=>?_)
  cases kids
  all_goals simp only[slV]at *
  all_goals repeat'(first|refine ruS Y ?_|refine isS Y ?_|refine ZB Y Y Y Y ?_|refine rkS Y ?_|refine ZOM (agg:=false) Y Y ?_|(refine cm0 Y Y Y ?_ ?_<;>intro _<;>try omega)|refine ZJ Y Y Y ?_|refine ZA Y Y Y (hf _) ?_|refine ZA Y Y Y (hS _) ?_)
  all_goals refine ZO hA (by simp) Y Y Y Y ?_
  all_goals rfl
 ·have hf:=fun st=>ZrZ n h1 ks ⟨h2,h3⟩ h4 st
  have hS:=fun st=>Ztk n ks h3 (fun k hk=>(h4 k hk).fit) [] st
  unfold Mea.av at hS
  simp only[Nd.av,slV]at *
  refine Zj Y (fun A hA=>?_)
  repeat'(first|refine ruS Y ?_|refine isS Y ?_|refine ZB Y Y Y Y ?_|refine rkS Y ?_|refine ZOM (agg:=false) Y Y ?_|(refine cm0 Y Y Y ?_ ?_<;>intro _<;>try omega)|refine ZJ Y Y Y ?_|refine ZA Y Y Y (hf _) ?_|refine ZA Y Y Y (hS _) ?_)
  refine ZO hA (by simp) Y Y Y Y ?_
  rfl
theorem ZfV(x:Nd)(hx:NdOk x)(st:St):S Tb ZAj [x.av] st=some (.tup [x.mea.av,.int .i64 0],st):=by
 have hC:=fun st=>ZnG x hx st
 rcases hx with h|⟨n,ks,rfl,h1,h2,h3,h4,h5⟩
 ·have hS:=fun st=>ZnF x h.h h.hi st
  have he:x.mea=ZAz x.text:=by unfold Nd.mea;rw[if_pos h.h]
  rw[he]
  unfold Mea.av at *
  obtain⟨h,text,kids⟩:=x
  simp only[Nd.av]at *
  refine Zj Y (fun A hA=>?_)
  cases kids
  all_goals simp only[slV]at *
  all_goals repeat'(first|refine ruS Y ?_|refine isS Y ?_|refine ZB Y Y Y Y ?_|refine rkS Y ?_|(refine cm0 Y Y Y ?_ ?_<;>intro _<;>try omega)|refine ZJ Y Y Y ?_|refine Ze Y Y Y Y Y Y ?_|refine ZA Y Y Y (hC _) ?_|refine ZA Y Y Y (hS _) ?_)
  all_goals refine JL hA (by simp) Y Y Y Y Y ?_
  all_goals rfl
 ·have hS:=fun st=>Ztk n ks h3 (fun k hk=>(h4 k hk).fit) [] st
  have he:Nd.mea ⟨n+1,[],some ks⟩=QX (ks.map Kid.m):=rfl;rw[he]
  unfold Mea.av at *
  simp only[Nd.av,slV]at *
  refine Zj Y (fun A hA=>?_)
  repeat'(first|refine ruS Y ?_|refine isS Y ?_|refine ZB Y Y Y Y ?_|refine rkS Y ?_|(refine cm0 Y Y Y ?_ ?_<;>intro _<;>try omega)|refine ZJ Y Y Y ?_|refine Ze Y Y Y Y Y Y ?_|refine ZA Y Y Y (hC _) ?_|refine ZA Y Y Y (hS _) ?_)
  refine JL hA (by simp) Y Y Y Y Y ?_
  rfl
abbrev ZF:=List (Nat × Nd)
def lk:ZF->Nat->Option Nd
 | [],_=>none
 | p::N,h=>if p.1=h then some p.2 else lk N h
def nodeAV(p:Nat × Nd):AV × AV:=(.int .u64 p.1,p.2.av)
structure Rd(st:St)(lv ix:Nat)(N:ZF):Prop where
 at_:∃a0 a1 im a3 a4 a5,st.get lv ix=some (.arr 6 0 [.agg [a0,a1,.map lv im,a3,a4,a5]])/\st.get lv im=some (.map (N.map nodeAV))
theorem Rd.push{st:St}{A:List (Bool × List Blk)}{ro:Bool}{L:List Blk}{lv ix:Nat}{N:ZF}(hA:A=st.A++[(st.ro,st.L)])(h:Rd st lv ix N):Rd ⟨A,ro,L⟩ lv ix N:=by
 obtain⟨a0,a1,im,a3,a4,a5,h1,h2⟩:=h;exact⟨a0,a1,im,a3,a4,a5,ZS hA h1,ZS hA h2⟩
theorem ZZT:∀(N:ZF) (h:Nat),ZBV (.int .u64 h) (N.map nodeAV)=some ((lk N h).map Nd.av)
 | [],h=>rfl
 | p::N,h=>by
  rw[jC,ZBV]
  show (Option.bind (if IntKind.u64=IntKind.u64 then some ((h:Int) == (p.1:Int)) else none) fun b=>if b=true then some (some p.2.av) else ZBV (.int .u64 h) (N.map nodeAV))=_
  rw[if_pos rfl,Option.bind_some,ZZT N h,lk]
  by_cases q:p.1=h
  ·subst q;simp
  ·rw[if_neg q,if_neg (by simp;omega)]
def Nd.copy(x:Nd):Nd:=⟨x.h,x.text,some x.ks⟩
theorem Ziy{st:St}{lv im:Nat}{N:ZF}(hg:st.get lv im=some (.map (N.map nodeAV))){h:Nat}{x:Nd}(hx:lk N h=some x)(z:AV):lookV st 0 z true (.int .u64 h) (.map lv im)=some (.tup [x.av,.bool true]):=by
 simp only[lookV,Zlm,hg,ZZZ,Option.bind_some,XK,if_true,ZZT,hx,Option.map_some,ZiG]
theorem Ziz(l:List Kid):JH 4 (l.map Kid.av)=true:=by
 induction l with
 | nil=>rfl
 | cons k l ih=>rw[jC,JH,List.all_cons];exact Bool.and_eq_true_iff.2 ⟨rfl,ih⟩
theorem ZqT(l:List Kid)(hl:l.length<=65536)(st:St):S Tb Zu [.lit (l.map Kid.av)] st=some (.lit (l.map Kid.av),st):=by
 refine ZsN (o:=ZIe 4) Y ?_;simp only[ZIe,Ziz,List.length_map,hl,and_self,if_true]
theorem ZwB(st:St):S Tb Zu [.lit []] st=some (.lit [],st):=ZqT [] (by decide) st
theorem NdOk.len{x:Nd}(h:NdOk x):x.ks.length<=4:=by
 rcases h with h|⟨n,ks,h⟩
 ·rw[h.ks];decide
 ·rw[h.eq];exact h.hi
theorem ZqU{st:St}{lv ix:Nat}{N:ZF}(hr:Rd st lv ix N){h:Nat}{x:Nd}(hx:lk N h=some x)(hl:x.ks.length<=4):S Tb Jb [.ptr lv ix 0 0 0,.int .u64 h] st=some (.tup [x.copy.av,.int .i64 0],st):=by
 obtain⟨a0,a1,im,a3,a4,a5,h1,h2⟩:=hr
 refine Zj Y (fun A hA=>?_)
 have g1:∀L,St.get ⟨A,false,L⟩ lv ix=_:=fun L=>ZS hA h1
 have g2:∀L,St.get ⟨A,false,L⟩ lv im=_:=fun L=>ZS hA h2
 have hlk:=fun L z=>Ziy (g2 L) hx z
 have hcl:=fun st=>ZqT x.ks (by omega) st
 obtain⟨hh,text,kids⟩:=x
 cases kids
 all_goals simp only[Nd.av,slV,Nd.copy,Nd.ks,Option.getD]at *
 all_goals repeat'(first|refine ruS Y ?_|refine isS Y ?_|refine ZB Y Y Y Y ?_|refine rkS Y ?_|refine QD Y Y Y Y ?_|refine ZJ Y Y Y ?_|refine Ze Y Y Y Y Y Y ?_|refine Z1 Y (g1 _) Y Y ?_|refine ZF3 Y Y (hlk _ _) ?_|refine ZA Y Y Y (hcl _) ?_)
 all_goals refine JL hA (by simp) Y Y Y Y Y ?_
 all_goals rfl
inductive Tr where
 | mk (old h:Nat) (m:Mea) (text:B8) (kids:Option (List Tr))
namespace Tr
def old:Tr->Nat|.mk o _ _ _ _=>o
def h:Tr->Nat|.mk _ h _ _ _=>h
def m:Tr->Mea|.mk _ _ m _ _=>m
def text:Tr->B8|.mk _ _ _ s _=>s
def kids:Tr->Option (List Tr)|.mk _ _ _ _ k=>k
def ks:Tr->List Tr|.mk _ _ _ _ k=>k.getD []
mutual
def av:Tr->AV
 | .mk o h m s k=>.agg [.int .u64 o,.int .i64 h,.int .i64 m.b,.int .i64 m.r,.int .i64 m.l,.str s,avO k]
def avO:Option (List Tr)->AV
 | none=>.nils
 | some l=>.lit (avL l)
def avL:List Tr->LV
 | []=>[]
 | t::l=>t.av::avL l
end
variable {u v:AV}{b:Blk}{ro:Bool}{e:Env}{g most:Int}{A:List (Bool × List Blk)}{es:LV}{bs:List Blk}{i ix j n ver w:Nat}{a:Opd}{O:Orc}{P:Prop}{Q:Qn}{st:St}{t:Tr}
theorem avL_map:∀l,avL l=l.map av
 | []=>rfl
 | t::l=>by rw[avL,avL_map l];rfl
theorem avO_sl(k:Option (List Tr)):avO k=slV av k:=by
 cases k
 ·rfl
 ·simp only[avO,slV,avL_map]
mutual
def bytes:Tr->Int
 | .mk _ _ m s k=>m.b+s.length+bytesO k
def bytesO:Option (List Tr)->Int
 | none=>0
 | some l=>bytesL l
def bytesL:List Tr->Int
 | []=>0
 | t::l=>t.bytes+bytesL l
end
theorem bytesL_append:∀a b,bytesL (a++b)=bytesL a+bytesL b
 | [],b=>by simp[bytesL]
 | t::a,b=>by rw[List.cons_append,bytesL,bytesL,bytesL_append a b];omega
theorem ind{P:Tr->Prop}(step:∀o h m s k,(∀t∈k.getD [],P t)->P (.mk o h m s k)):∀t,P t:=by
 intro t
 refine Tr.rec (motive_1:=P) (motive_2:=fun k=>∀t∈k.getD [],P t) (motive_3:=fun l=>∀t∈l,P t) ?_ ?_ ?_ ?_ ?_ t
 ·intro o h m s k ih;exact step o h m s k ih
 ·intro t h;simp at h
 ·intro l ih;exact ih
 ·intro t h;simp at h
 ·intro t l h1 h2 u hu
  rcases List.mem_cons.1 hu with rfl|q
  ·exact h1
  ·exact h2 u q
inductive Pos:Tr->Prop
 | mk {o h m s k} (h0:0<=m.b) (h4:(k.getD []).length<=4) (hk:∀t∈k.getD [],Pos t):Pos (.mk o h m s k)
theorem bytesO_getD(k:Option (List Tr)):bytesO k=bytesL (k.getD []):=by cases k<;>rfl
theorem bytesL_nonneg:∀ {l:List Tr},(∀t∈l,0<=t.bytes)->0<=bytesL l
 | [],_=>by simp[bytesL]
 | t::l,h=>by
  have h1:=h t (by simp)
  have h2:=bytesL_nonneg (l:=l) (fun u hu=>h u (by simp[hu]))
  rw[bytesL];omega
theorem Pos.nonneg:∀ {t:Tr},t.Pos->0<=t.bytes:=by
 intro t
 induction t using Tr.ind with
 | step o h m s k ih =>
  intro hp
  cases hp with
  | mk h0 h4 hk =>
   have:=bytesL_nonneg (l:=k.getD []) (fun t ht=>ih t ht (hk t ht))
   rw[bytes,bytesO_getD];omega
end Tr
theorem ZQ(t:Tr):t.av.wide=some 7:=by
 obtain⟨o,h,m,s,k⟩:=t
 cases k<;>rfl
theorem JB(l:List Tr):JH 7 (l.map Tr.av)=true:=by
 induction l with
 | nil=>rfl
 | cons t l ih=>rw[jC,JH,List.all_cons,ZQ];exact Bool.and_eq_true_iff.2 ⟨rfl,ih⟩
theorem ZG(t:Tr):Jn t.av true 0 7=some t.av:=by
 obtain⟨o,h,m,s,k⟩:=t
 cases k<;>rfl
theorem Zg(t:Tr):YS t.av=some t.av:=by
 obtain⟨o,h,m,s,k⟩:=t
 cases k<;>rfl
theorem Zx(y:AV)(t:Tr):(Q7 7 y 0 7 t.av).bind YS=some t.av:=by
 simp only[Q7,ZQ,if_true,and_self,Option.bind_some,Zg]
theorem Zn(b:Nat)(st:St)(t:Tr):Zb QK b st t.av=some (t.av,st):=by
 obtain⟨o,h,m,s,k⟩:=t
 cases k<;>rfl
theorem ZC(t:Tr):weak t.av=t.av:=by
 obtain⟨o,h,m,s,k⟩:=t
 cases k<;>rfl
theorem ZWo(b:Nat)(st:St)(l:List Tr):mapSt (Zb QK b) st (l.map Tr.av)=some (l.map Tr.av,st):=by
 induction l with
 | nil=>rfl
 | cons t l ih=>rw[jC,mapSt,Zn,Option.bind_some,ih,Option.bind_some,ZBv]
set_option maxHeartbeats 4000000 in
theorem X9(t:Tr):t.Pos->t.bytes<4611686018427387904->∀st,S Tb QU [t.av] st=some (.int .i64 t.bytes,st):=by
 induction t using Tr.ind with
 | step o h m s k ih =>
  intro hp hb st
  cases hp with
  | mk h0 h4 hk =>
  refine Zj Y (fun A hA=>?_)
  have hn:=Tr.bytesL_nonneg (l:=k.getD []) (fun t ht=>(hk t ht).nonneg)
  have hbb:(Tr.mk o h m s k).bytes=m.b+s.length+Tr.bytesL (k.getD []):=by rw[Tr.bytes,Tr.bytesO_getD]
  rw[hbb]at hb ⊢;rw[Tr.av,Tr.avO_sl]
  cases k with
  | none =>
   simp only[slV,Option.getD]at *
   repeat'(first|refine ruS Y ?_|refine isS Y ?_|refine ZB Y Y Y Y ?_|refine rkS Y ?_|refine Qf Y ?_|refine QG Y ?_|(refine cm0 Y Y Y ?_ ?_<;>intro _<;>try omega)|refine ZL Y Y (by omega) ?_|refine ZJ Y Y Y ?_|refine Zr ?_)
   refine ZO hA (by simp) Y Y Y Y ?_
   simp[Tr.bytesL]
  | some l =>
   simp only[slV,Option.getD]at *
   repeat'(first|refine ruS Y ?_|refine isS Y ?_|refine ZB Y Y Y Y ?_|refine ZX ?_|refine Qf Y ?_|refine Zi Y ?_|refine ZL Y Y (by omega) ?_|refine ZJ Y Y Y ?_)
   refine Zc (α:=Nat × List Blk) (fun p=>[(3,.int .i64 (m.b+s.length+Tr.bytesL (l.take p.1))),(14,.lit (l.map Tr.av)),(15,.int .i64 l.length),(16,.int .i64 p.1)]) (fun p=>⟨A,false,p.2⟩) (fun p=>p.1<=l.length) (fun p=>l.length-p.1) (0,_) ?_ Y (by simp) ?_
   ·simp[Tr.bytesL]
   rintro⟨i,G⟩ hi
   simp only at hi ⊢
   repeat'(first|refine ruS Y ?_|refine isS Y ?_|refine rkS Y ?_|(refine cm0 Y Y Y ?_ ?_<;>intro _<;>try omega)|refine Za Y Y Y ?_|refine QY Y Y (by omega) ZQ (fun _ _=>?_)|refine Zk Y (ZG _) ?_|refine Z5 Y Y (ZG _) ?_|refine J5 Y Y Y (Zn _ _ _) (Zx _ _) Y ?_)
   ·rename_i t ht
    have ht2:l[i]?=some t:=ht;have hm:=jM ht2;have h1:=(hk t hm).nonneg
    have h2:0<=Tr.bytesL (l.take i):=Tr.bytesL_nonneg (fun u hu=>(hk u (List.mem_of_mem_take hu)).nonneg)
    have h3:Tr.bytesL l=Tr.bytesL (l.take i)+(t.bytes+Tr.bytesL (l.drop (i+1))):=by
     conv=>lhs;rw[<- List.take_append_drop (i+1) l,ZU ht2,Tr.bytesL_append,Tr.bytesL_append]
     simp[Tr.bytesL];omega
    have h4:0<=Tr.bytesL (l.drop (i+1)):=Tr.bytesL_nonneg (fun u hu=>(hk u (List.mem_of_mem_drop hu)).nonneg)
    have h5:=ih t hm (hk t hm) (by omega)
    repeat'(first|refine Qp ?_|refine isS Y ?_|refine rkS Y ?_|refine ZL Y Y (by omega) ?_|refine ZA Y Y (by first|rfl|(simp only[List.nil_append,List.append_nil,List.cons_append,ZH,ZC,ZE];first|done|rfl)) (h5 _) ?_)
    refine⟨(i+1,_),⟨?_,rfl⟩,by simp only;omega,by simp only;omega⟩
    simp only[ZU ht2,Tr.bytesL_append,Tr.bytesL]
    rw[show m.b+↑s.length+(Tr.bytesL (List.take i l)+(t.bytes+0))=m.b+↑s.length+Tr.bytesL (List.take i l)+t.bytes by omega]
    rfl
   ·refine ZO hA (by simp) Y Y Y Y ?_
    rw[List.take_of_length_le (by omega)]
theorem eqv0(m:Mea):eqV [(0,0),(1,0),(2,0)] 0 (.agg [.int .i64 m.b,.int .i64 m.r,.int .i64 m.l]) (.agg [.int .i64 0,.int .i64 0,.int .i64 0])=some (decide (m=.zero)):=by
 rw[Ztj]
 congr 1
 have:(m.b=0/\m.r=0/\m.l=0)↔m=.zero:=by
  cases m;simp[Mea.zero]
 simp only[this]
structure IsEmpty(t:Tr):Prop where
 old:t.old=0
 h:t.h=0
 m:t.m=.zero
 text:t.text=[]
 ks:t.ks=[]
structure IsKept(t:Tr):Prop where
 old:t.old≠0
 text:t.text=[]
 ks:t.ks=[]
structure IsLeaf(t:Tr):Prop where
 old:t.old=0
 h:t.h=0
 m:t.m=.zero
 lo:1<=t.text.length
 hi:t.text.length<=16
 ks:t.ks=[]
structure IsInner(t:Tr):Prop where
 old:t.old=0
 m:t.m=.zero
 text:t.text=[]
 h1:1<=t.h
 h2:t.h<=16
 lo:2<=t.ks.length
 hi:t.ks.length<=4
set_option maxHeartbeats 4000000 in
theorem ZBK(t:Tr)(ht:IsEmpty t)(st:St):S Tb QQ [t.av] st=some (.int .i64 1,st):=by
 obtain⟨o,h,m,s,k⟩:=t;obtain⟨h1,h2,h3,h4,h5⟩:=ht;simp only[Tr.old,Tr.h,Tr.m,Tr.text,Tr.ks]at h1 h2 h3 h4 h5;subst h1 h2 h3 h4
 refine Zj Y (fun A hA=>?_)
 cases k with
 | none =>
  repeat'(first|refine ruS Y ?_|refine isS Y ?_|refine ZB Y Y Y Y ?_|refine rkS Y ?_|refine QG Y ?_|(refine cm0 Y Y Y ?_ ?_<;>intro _<;>try omega)|(refine Jr Y Y (fun _=>?_) (fun _=>?_)<;>try contradiction)|refine ZZ Y Y Y ?_|refine QD Y Y Y Y ?_|refine ZJ Y Y Y ?_)
  refine ZO hA (by simp) Y Y Y Y ?_
  rfl
 | some l =>
  have:l=[]:=h5
  subst this
  repeat'(first|refine ruS Y ?_|refine isS Y ?_|refine ZB Y Y Y Y ?_|refine rkS Y ?_|refine Qg Y Y ?_|(refine cm0 Y Y Y ?_ ?_<;>intro _<;>try omega)|(refine Jr Y Y (fun _=>?_) (fun _=>?_)<;>try contradiction)|refine ZZ Y Y Y ?_|refine QD Y Y Y Y ?_|refine ZJ Y Y Y ?_)
  refine ZO hA (by simp) Y Y Y Y ?_
  rfl
set_option maxHeartbeats 4000000 in
theorem ZQ9(t:Tr)(ht:IsKept t)(st:St):S Tb QQ [t.av] st=some (.int .i64 2,st):=by
 obtain⟨o,h,m,s,k⟩:=t;obtain⟨h1,h4,h5⟩:=ht;simp only[Tr.old,Tr.h,Tr.m,Tr.text,Tr.ks]at h1 h4 h5;subst h4
 refine Zj Y (fun A hA=>?_)
 cases k with
 | none =>
  repeat'(first|refine ruS Y ?_|refine isS Y ?_|refine ZB Y Y Y Y ?_|refine rkS Y ?_|refine QG Y ?_|(refine cm0 Y Y Y ?_ ?_<;>intro _<;>try omega)|(refine Jr Y Y (fun _=>?_) (fun _=>?_)<;>try contradiction)|refine ZZ Y Y Y ?_|refine ZJ Y Y Y ?_|(refine ZIg Y Y (eqv0 _) (fun _=>?_) (fun _=>?_)))
  all_goals refine ZO hA (by simp) Y Y Y Y ?_
  all_goals rfl
 | some l =>
  have:l=[]:=h5
  subst this
  repeat'(first|refine ruS Y ?_|refine isS Y ?_|refine ZB Y Y Y Y ?_|refine rkS Y ?_|refine Qg Y Y ?_|(refine cm0 Y Y Y ?_ ?_<;>intro _<;>try omega)|(refine Jr Y Y (fun _=>?_) (fun _=>?_)<;>try contradiction)|refine ZZ Y Y Y ?_|refine ZJ Y Y Y ?_|(refine ZIg Y Y (eqv0 _) (fun _=>?_) (fun _=>?_)))
  all_goals refine ZO hA (by simp) Y Y Y Y ?_
  all_goals rfl
set_option maxHeartbeats 4000000 in
theorem ZRA(t:Tr)(ht:IsLeaf t)(st:St):S Tb QQ [t.av] st=some (.int .i64 3,st):=by
 obtain⟨o,h,m,s,k⟩:=t;obtain⟨h1,h2,h3,h4,h4',h5⟩:=ht;simp only[Tr.old,Tr.h,Tr.m,Tr.text,Tr.ks]at h1 h2 h3 h4 h4' h5;subst h1 h2 h3
 have hs:s≠[]:=fun q=>by rw[q]at h4;simp at h4
 refine Zj Y (fun A hA=>?_)
 cases k with
 | none =>
  repeat'(first|refine ruS Y ?_|refine isS Y ?_|refine ZB Y Y Y Y ?_|refine rkS Y ?_|refine Qf Y ?_|refine QG Y ?_|(refine cm0 Y Y Y ?_ ?_<;>intro _<;>try omega)|(refine Jr Y Y (fun _=>?_) (fun _=>?_)<;>try contradiction)|refine ZZ Y Y Y ?_|refine QD Y Y Y Y ?_|refine ZJ Y Y Y ?_)
  all_goals try contradiction
  all_goals refine ZO hA (by simp) Y Y Y Y ?_
  all_goals rfl
 | some l =>
  have:l=[]:=h5
  subst this
  repeat'(first|refine ruS Y ?_|refine isS Y ?_|refine ZB Y Y Y Y ?_|refine rkS Y ?_|refine Qf Y ?_|refine Qg Y Y ?_|(refine cm0 Y Y Y ?_ ?_<;>intro _<;>try omega)|(refine Jr Y Y (fun _=>?_) (fun _=>?_)<;>try contradiction)|refine ZZ Y Y Y ?_|refine QD Y Y Y Y ?_|refine ZJ Y Y Y ?_)
  all_goals try contradiction
  all_goals refine ZO hA (by simp) Y Y Y Y ?_
  all_goals rfl
set_option maxHeartbeats 4000000 in
theorem ZKy(t:Tr)(ht:IsInner t)(st:St):S Tb QQ [t.av] st=some (.int .i64 4,st):=by
 obtain⟨o,h,m,s,k⟩:=t;obtain⟨h1,h2,h3,h4,h4',h5,h5'⟩:=ht;simp only[Tr.old,Tr.h,Tr.m,Tr.text,Tr.ks]at h1 h2 h3 h4 h4' h5 h5';subst h1 h2 h3
 refine Zj Y (fun A hA=>?_)
 cases k with
 | none=>simp at h5
 | some l =>
  simp only[Option.getD]at *
  rw[Tr.av,Tr.avO_sl];simp only[slV]
  repeat'(first|refine ruS Y ?_|refine isS Y ?_|refine ZB Y Y Y Y ?_|refine rkS Y ?_|refine Zi Y ?_|(refine cm0 Y Y Y ?_ ?_<;>intro _<;>try omega)|(refine Jr Y Y (fun _=>?_) (fun _=>?_)<;>try contradiction)|refine ZZ Y Y Y ?_|refine QD Y Y Y Y ?_|refine ZJ Y Y Y ?_)
  all_goals try contradiction
  all_goals refine ZO hA (by simp) Y Y Y Y ?_
  all_goals rfl
end Go.Q15
namespace Go.Q15
open Go Go.QAbs
variable {u v:AV}{b:Blk}{ro:Bool}{e:Env}{g most:Int}{A:List (Bool × List Blk)}{es:LV}{bs:List Blk}{i ix j n ver w:Nat}{a:Opd}{O:Orc}{P:Prop}{Q:Qn}{st:St}{t:Tr}
inductive Val (N:ZF):Tr->Prop
 | kept {o h m k x} (h0:o≠0) (hx:lk N o=some x) (hok:NdOk x) (hh:x.h=h) (hm:x.mea=m) (hk:k.getD []=[]):Val N (.mk o h m [] k)
 | leaf {s k} (h1:1<=s.length) (h2:s.length<=16) (hk:k.getD []=[]):Val N (.mk 0 0 .zero s k)
 | inner {h l} (hh:h+1<=16) (h2:2<=l.length) (h4:l.length<=4) (hl:∀t∈l,t.h=h) (hb:∀t∈l,h=0->8<=t.bytes) (hv:∀t∈l,Val N t):Val N (.mk 0 (h+1) .zero [] (some l))
theorem NdOk.mea_pos{x:Nd}(h:NdOk x):1<=x.mea.b/\x.mea.b<=65536:=by
 rcases h with h|⟨n,ks,h⟩
 ·have h1:=h.lo
  have h2:=h.hi;unfold Nd.mea;rw[if_pos h.h];simp only[ZAz];omega
 ·have e:=h.eq
  subst e;have hk:=h.kid;have hs:=h.sum;have hlo:=h.lo
  have:Nd.mea ⟨n+1,[],some ks⟩=QX (ks.map Kid.m):=rfl
  rw[this];refine⟨?_,hs⟩
  match ks,hlo,hk with
  | k1::k2::l,_,hk =>
   have h1:=(hk k1 (by simp)).lo
   have h2:=(ZIJ (l:=(k2::l).map Kid.m) (fun m hm=>by obtain⟨k,hk1,rfl⟩:=List.mem_map.1 hm;exact (hk k (by simp[List.mem_cons.1 hk1])).fit)).b0
   have hn:=(ZCy (h:=n) (by have:=h.n15;omega)).1
   simp only[jC,QX,Mea.add]at h2 ⊢;omega
theorem Val.pos{N:ZF}(h:Val N t):t.Pos/\1<=t.bytes:=by
 induction h with
 | kept h0 hx hok hh hm hk =>
  have:=hok.mea_pos
  refine⟨⟨by rw[<- hm];omega,by rw[hk];decide,by rw[hk];intro t ht;simp at ht⟩,?_⟩
  rw[Tr.bytes,Tr.bytesO_getD,hk,<- hm];simp[Tr.bytesL];omega
 | leaf h1 h2 hk =>
  refine⟨⟨by decide,by rw[hk];decide,by rw[hk];intro t ht;simp at ht⟩,?_⟩
  rw[Tr.bytes,Tr.bytesO_getD,hk];simp[Tr.bytesL,Mea.zero];omega
 | inner hh h2 h4 hl hb hv ih =>
  rename_i h l
  refine⟨⟨by decide,h4,fun t ht=>(ih t ht).1⟩,?_⟩
  rw[Tr.bytes,Tr.bytesO]
  match l,h2,ih with
  | t1::l,_,ih =>
   have h1:=(ih t1 (by simp)).2
   have h2:=Tr.bytesL_nonneg (l:=l) (fun t ht=>by have:=(ih t (by simp[ht])).2;omega)
   simp[Tr.bytesL,Mea.zero];omega
namespace Tr
mutual
def own:Tr->Tr
 | .mk o h m s k=>.mk o h m s (ownO k)
def ownO:Option (List Tr)->Option (List Tr)
 | none=>some []
 | some l=>some (ZwC l)
def ZwC:List Tr->List Tr
 | []=>[]
 | t::l=>t.own::ZwC l
end
theorem ownL_map:∀l,ZwC l=l.map own
 | []=>rfl
 | t::l=>by rw[ZwC,ownL_map l];rfl
end Tr
theorem XW(n b:Nat)(st:St)(t:Tr):Zb (n+2) b st t.av=some (t.av,st):=by
 obtain⟨o,h,m,s,k⟩:=t
 cases k<;>rfl
theorem Zi0(n b:Nat)(st:St)(l:List Tr):mapSt (Zb (n+2) b) st (l.map Tr.av)=some (l.map Tr.av,st):=by
 induction l with
 | nil=>rfl
 | cons t l ih=>rw[jC,mapSt,XW,Option.bind_some,ih,Option.bind_some,ZBv]
theorem ZfW{A:List (Bool × List Blk)}{L:List Blk}{ix ver n:Nat}{l:List Tr}{o h b r c:Int}{s:B8}(hg:L[ix]?=some (.arr 7 ver (l.map Tr.av)))(hn:n=l.length):
 Zb QK A.length ⟨A,false,L⟩ (.agg [.int .u64 o,.int .i64 h,.int .i64 b,.int .i64 r,.int .i64 c,.str s,.ref A.length ix ver 0 n])=some (.agg [.int .u64 o,.int .i64 h,.int .i64 b,.int .i64 r,.int .i64 c,.str s,.lit (l.map Tr.av)],⟨A,false,L.set ix .dead⟩):=by
 subst hn
 have h1:=Zir (n:=4) (A:=A) (s:=0) (m:=l.length) hg (by simp) (es':=l.map Tr.av) (by rw[List.drop_zero,List.take_of_length_le (by simp)];exact Zi0 2 0 _ l)
 show (mapSt (keepN (Zb 5 A.length)) _ _).bind Zf3=_
 simp only[mapSt,keepN,Xo,jB,if_false,Zb,Option.bind_some]at h1 ⊢;rw[h1];simp only[Option.bind_some,ZBv,Zf3]
theorem ZFA{b lv ix ver q n:Nat}{o h b1 r c:Int}{s:B8}(st:St)(hl:lv<b):
 Zb QK b st (.agg [.int .u64 o,.int .i64 h,.int .i64 b1,.int .i64 r,.int .i64 c,.str s,.ref lv ix ver q n])=some (.agg [.int .u64 o,.int .i64 h,.int .i64 b1,.int .i64 r,.int .i64 c,.str s,.ref lv ix ver q n],st):=by
 show (mapSt (keepN (Zb 5 b)) _ _).bind Zf3=_
 simp only[mapSt,keepN,Xo,jB,if_false,Zb,Option.bind_some,if_pos hl,ZBv,Zf3]
theorem ZwD{α:Type}{l:List α}{x z:α}{i n:Nat}(hi:i=l.length)(hn:i<n):(l++List.replicate (n-i) z).set i x=l++[x]++List.replicate (n-(i+1)) z:=by
 subst hi
 obtain⟨m,hm⟩:∃m,n-l.length=m+1:=⟨n-l.length-1,by omega⟩
 rw[hm,show n-(l.length+1)=m by omega,List.replicate_succ,List.set_append_right _ _ (Nat.le_refl _)]
 simp
theorem Zi1(t:Tr):t.Pos->∀st,S Tb Yp [t.av] st=some (t.own.av,st):=by
 induction t using Tr.ind with
 | step o h m s k ih =>
  intro hp st
  cases hp with
  | mk h0 h4 hk =>
  refine Zj Y (fun A hA=>?_)
  rw[Tr.av,Tr.avO_sl]
  cases k with
  | none =>
   simp only[slV,Option.getD]at *
   repeat'(first|refine ruS Y ?_|refine isS Y ?_|refine ZB Y Y Y Y ?_|refine rkS Y ?_|refine QG Y ?_|(refine cm0 Y Y Y ?_ ?_<;>intro _<;>try omega)|refine ZJ Y Y Y ?_|refine Ze Y Y Y Y Y Y ?_|refine Zmg Y Y Y Y Y ?_)
   refine JL hA (by simp) Y Y Y Y Y ?_
   rfl
  | some l =>
   by_cases hz:l=[]
   ·subst hz
    simp only[slV,List.map_nil]
    repeat'(first|refine ruS Y ?_|refine isS Y ?_|refine ZB Y Y Y Y ?_|refine rkS Y ?_|refine Qg Y Y ?_|(refine cm0 Y Y Y ?_ ?_<;>intro _<;>try omega)|refine ZJ Y Y Y ?_|refine Ze Y Y Y Y Y Y ?_|refine Zmg Y Y Y Y Y ?_)
    refine JL hA (by simp) Y Y Y Y Y ?_
    rfl
   ·have hl : 1 <= l.length := by
     cases l
     ·exact absurd Y hz
     ·simp
    have he:Tr.own (.mk o h m s (some l))=.mk o h m s (some (l.map Tr.own)):=by
     rw[Tr.own,Tr.ownO,Tr.ownL_map]
    rw[he]
    simp only[slV,Option.getD]at *
    repeat'(first|refine ruS Y ?_|refine isS Y ?_|refine ZB Y Y Y Y ?_|refine ZX ?_|refine Zi Y ?_|(refine cm0 Y Y Y ?_ ?_<;>intro _<;>try omega)|refine ZJ Y Y Y ?_|refine ZTi Y Y (by omega) (by decide) Y ?_)
    refine Zc (α:=Nat × List Blk) (fun p=>[(1,.ptr A.length 0 0 0 0),(2,.ptr A.length 1 0 0 0),(3,.ref A.length 2 0 0 l.length),(17,.lit (l.map Tr.av)),(18,.int .i64 l.length),(19,.int .i64 p.1)])
     (fun p=>⟨A,false,.arr 7 0 [.agg [.int .u64 o,.int .i64 h,.int .i64 m.b,.int .i64 m.r,.int .i64 m.l,.str s,.lit (l.map Tr.av)]]::.arr 7 0 [.agg [.int .u64 0,.int .i64 0,.int .i64 0,.int .i64 0,.int .i64 0,.str [],.nils]]::.arr 7 0 (((l.take p.1).map fun t=>t.own.av)++List.replicate (l.length-p.1) (.agg [.int .u64 0,.int .i64 0,.int .i64 0,.int .i64 0,.int .i64 0,.str [],.nils]))::p.2⟩) (fun p=>p.1<=l.length) (fun p=>l.length-p.1) (0,[]) rfl ?_ (by simp) ?_
    ·simp
    rintro⟨i,G⟩ hi
    simp only at hi ⊢
    repeat'(first|refine ruS Y ?_|refine isS Y ?_|refine ZB Y Y Y Y ?_|refine rkS Y ?_|(refine cm0 Y Y Y ?_ ?_<;>intro _<;>try omega)|refine Za Y Y Y ?_|refine Q1 Y Y Y Y (Qv _ (Nat.lt_succ_self _)) Y ?_|refine Q1 Y Y Y Y (ZFA _ (Nat.lt_succ_self _)) Y ?_|refine QY Y Y (by omega) ZQ (fun _ _=>?_)|refine Zk Y (ZG _) ?_|refine Z5 Y Y (ZG _) ?_|refine J5 Y Y Y (Zn _ _ _) (Zx _ _) Y ?_)
    ·rename_i t ht
     have ht2:l[i]?=some t:=ht;have h5:=ih t (jM ht2) (hk t (jM ht2))
     have hlen:((l.take i).map fun t=>t.own.av).length=i:=by simp;omega
     repeat'(first|refine Xe Y Y (by omega) Y ?_|refine ZA Y Y (by first|rfl|(simp only[List.nil_append,List.append_nil,List.cons_append,ZH,ZC,ZE];first|done|rfl)) (h5 _) ?_)
     refine Q1 (y:=.agg [.int .u64 0,.int .i64 0,.int .i64 0,.int .i64 0,.int .i64 0,.str [],.nils]) Y Y Y ?_ (Zn _ _ _) (Zx _ _) ?_
     ·rw[show 0+(i:Int).toNat=i by omega,List.getElem?_append_right (by omega),hlen,Nat.sub_self,List.getElem?_replicate,if_pos (by omega)]
     repeat'(first|refine Qp ?_|refine isS Y ?_|refine rkS Y ?_|refine ZL Y Y (by omega) ?_)
     refine⟨(i+1,G++[.arr 7 0 [t.av]]),⟨rfl,?_⟩,by simp only;omega,by simp only;omega⟩
     have hs:=ZwD (l:=(l.take i).map fun t=>t.own.av) (x:=t.own.av) (z:=AV.agg [.int .u64 0,.int .i64 0,.int .i64 0,.int .i64 0,.int .i64 0,.str [],.nils]) (i:=i) (n:=l.length) hlen.symm (by omega)
     simp only[ZU ht2,List.map_append,jC,List.map_nil];rw[<- hs]
     rw[show 0+(i:Int).toNat=i by omega]
     rfl
    ·have hi':i=l.length:=by omega
     subst hi';simp only[Nat.sub_self,List.replicate_zero,List.append_nil,List.take_length]
     skip
     refine JL hA (.inr Y) Y Y Y (ZfW (l:=l.map Tr.own) (by rw[List.map_map];rfl) (by simp)) rfl ?_
     rw[Tr.av,Tr.avO,Tr.avL_map]
theorem NdOk.copy{x:Nd}(h:NdOk x):NdOk x.copy:=by
 rcases h with h|⟨n,ks,h⟩
 ·exact .inl ⟨h.h,h.lo,h.hi,by have:=h.ks;simpa [Nd.copy,Nd.ks] using this⟩
 ·refine .inr ⟨n,ks,⟨?_,h.n15,h.lo,h.hi,h.kid,h.sum⟩⟩
  have:=h.eq
  subst this;rfl
theorem Nd.copy_mea(x:Nd):x.copy.mea=x.mea:=rfl
theorem Nd.copy_h(x:Nd):x.copy.h=x.h:=rfl
theorem Ztl{lv:Nat}{N:ZF}(hr:Rd st lv ix N){o:Nat}{x:Nd}(hx:lk N o=some x)(hok:NdOk x)(h:Int)(hh:(x.h:Int)=h)(m:Mea)(hm:x.mea=m):
 S Tb ZF6 [.ptr lv ix 0 0 0,.int .u64 o,.int .i64 h,.agg [.int .i64 m.b,.int .i64 m.r,.int .i64 m.l]] st=some (.int .i64 0,st):=by
 subst hh hm
 refine Zj Y (fun A hA=>?_)
 have hG:=fun L=>ZqU (hr.push hA (ro:=false) (L:=L)) hx hok.len
 have hM:=fun st=>ZfV x.copy hok.copy st
 rw[Nd.copy_mea]at hM;have hc:=Nd.copy_h x
 generalize hy:x.copy=y at *
 generalize hz:x.mea=z at *
 obtain⟨yh,yt,yk⟩:=y
 simp only at hc
 subst hc;obtain⟨zb,zr,zl⟩:=z
 cases yk
 all_goals simp only[Nd.av,slV,Mea.av]at *
 all_goals repeat'(first|refine ruS Y ?_|refine isS Y ?_|refine ZB Y Y Y Y ?_|refine rkS Y ?_|(refine cm0 Y Y Y ?_ ?_<;>intro _<;>try omega)|refine ZJ Y Y Y ?_|refine Ze Y Y Y Y Y Y ?_|refine ZA Y Y Y (hG _) ?_|refine ZA Y Y Y (hM _) ?_|(refine ZIg Y Y (Ztj _ _ _ _ _ _) (fun _=>?_) (fun _=>?_)))
 all_goals try omega
 all_goals try contradiction
 all_goals first|(refine ZO hA (by simp) Y Y Y Y ?_;rfl)|skip
theorem Val.kept_kind{N:ZF}{o h:Nat}{m:Mea}{k:Option (List Tr)}(h0:o≠0)(hk:k.getD []=[]):IsKept (.mk o h m [] k):=⟨h0,rfl,hk⟩
theorem Val.bytes_h0{N:ZF}(hv:Val N t)(h:t.h=0):t.bytes<=65536:=by
 cases hv with
 | kept h0 hx hok hh hm hk =>
  rw[Tr.bytes,Tr.bytesO_getD,hk,<- hm];have:=hok.mea_pos;simp[Tr.bytesL];omega
 | leaf h1 h2 hk=>rw[Tr.bytes,Tr.bytesO_getD,hk];simp[Tr.bytesL,Mea.zero];omega
 | inner hh h2 h4 hl hb hv=>simp[Tr.h]at h
theorem ZwE{N:ZF}(hv:Val N t):∀ {st:St} {lv ix:Nat} (hr:Rd st lv ix N) (kid:Bool) (hgt:Int) (hk:kid=true->(t.h:Int)=hgt/\(t.h=0->8<=t.bytes)),
 S Tb ZCP [.ptr lv ix 0 0 0,t.av,.bool kid,.int .i64 hgt] st=some (.int .i64 0,st):=by
 induction hv with
 | kept h0 hx hok hh hm hk =>
  intro st lv ix hr kid hgt hkid
  rename_i o h m k x
  have hv:Val N (.mk o h m [] k):=.kept h0 hx hok hh hm hk
  have hK:=fun st=>ZQ9 _ (Val.kept_kind (N:=N) (h:=h) (m:=m) h0 hk) st
  have hbb:(Tr.mk o h m [] k).h=0->(Tr.mk o h m [] k).bytes<4611686018427387904:=fun q=>by have:=hv.bytes_h0 q;omega
  have hB:=fun q st=>X9 _ hv.pos.1 (hbb q) st
  generalize hbt:(Tr.mk o h m [] k).bytes=b at *
  simp only[Tr.h]at hkid hbb hB
  refine Zj Y (fun A hA=>?_)
  have hS:=fun L=>Ztl (hr.push hA (ro:=false) (L:=L)) hx hok h (by rw[hh]) m hm
  have hw:(k.getD []).length=0:=by rw[hk];rfl
  cases kid with
  | false =>
   cases k
   all_goals simp only[Tr.av,Tr.avO,Tr.avL_map,Option.getD]at *
   all_goals repeat'(first|refine ruS Y ?_|refine isS Y ?_|refine ZB Y Y Y Y ?_|refine rkS Y ?_|refine Zi Y ?_|refine QG Y ?_|(refine cm0 Y Y Y ?_ ?_<;>intro _<;>try omega)|(refine cm0 Y Y Y ?_ ?_<;>intro _<;>try omega)|(refine cm0 Y Y Y ?_ ?_<;>intro _<;>try omega)|refine ZJ Y Y Y ?_|refine ZA Y Y (by first|rfl|(simp only[List.nil_append,List.append_nil,List.cons_append,ZH,ZC,ZE];first|done|rfl)) (hK _) ?_|refine ZA Y Y (by first|rfl|(simp only[List.nil_append,List.append_nil,List.cons_append,ZH,ZC,ZE];first|done|rfl)) (hS _) ?_|refine Zr ?_)
   all_goals refine ZO hA (by simp) Y Y Y Y ?_
   all_goals rfl
  | true =>
   obtain⟨ha,hb8⟩:=hkid rfl
   by_cases hz:h=0
   ·have hb8':=hb8 hz
    have hB':=hB hz
    cases k
    all_goals simp only[Tr.av,Tr.avO,Tr.avL_map,Option.getD]at *
    all_goals repeat'(first|refine ruS Y ?_|refine isS Y ?_|refine ZB Y Y Y Y ?_|refine rkS Y ?_|refine Zi Y ?_|refine QG Y ?_|(refine cm0 Y Y Y ?_ ?_<;>intro _<;>try omega)|(refine cm0 Y Y Y ?_ ?_<;>intro _<;>try omega)|(refine cm0 Y Y Y ?_ ?_<;>intro _<;>try omega)|refine ZJ Y Y Y ?_|refine ZA Y Y (by first|rfl|(simp only[List.nil_append,List.append_nil,List.cons_append,ZH,ZC,ZE];first|done|rfl)) (hK _) ?_|refine ZA Y Y (by first|rfl|(simp only[List.nil_append,List.append_nil,List.cons_append,ZH,ZC,ZE];first|done|rfl)) (hS _) ?_|refine ZA Y Y (by first|rfl|(simp only[List.nil_append,List.append_nil,List.cons_append,ZH,ZC,ZE];first|done|rfl)) (hB' _) ?_|refine Zr ?_)
    all_goals try omega
    all_goals refine ZO hA (by simp) Y Y Y Y ?_
    all_goals rfl
   ·cases k
    all_goals simp only[Tr.av,Tr.avO,Tr.avL_map,Option.getD]at *
    all_goals repeat'(first|refine ruS Y ?_|refine isS Y ?_|refine ZB Y Y Y Y ?_|refine rkS Y ?_|refine Zi Y ?_|refine QG Y ?_|(refine cm0 Y Y Y ?_ ?_<;>intro _<;>try omega)|(refine cm0 Y Y Y ?_ ?_<;>intro _<;>try omega)|(refine cm0 Y Y Y ?_ ?_<;>intro _<;>try omega)|refine ZJ Y Y Y ?_|refine ZA Y Y (by first|rfl|(simp only[List.nil_append,List.append_nil,List.cons_append,ZH,ZC,ZE];first|done|rfl)) (hK _) ?_|refine ZA Y Y (by first|rfl|(simp only[List.nil_append,List.append_nil,List.cons_append,ZH,ZC,ZE];first|done|rfl)) (hS _) ?_|refine Zr ?_)
    all_goals try omega
    all_goals refine ZO hA (by simp) Y Y Y Y ?_
    all_goals rfl
 | leaf h1 h2 hk =>
  intro st lv ix hr kid hgt hkid
  rename_i s k
  have hv:Val N (.mk 0 0 .zero s k):=.leaf h1 h2 hk
  have hK:=fun st=>ZRA (.mk 0 0 .zero s k) ⟨rfl,rfl,rfl,h1,h2,hk⟩ st
  have hB:=fun st=>X9 _ hv.pos.1 (by have:=hv.bytes_h0 rfl;omega) st
  generalize hbt:(Tr.mk 0 0 .zero s k).bytes=b at *
  simp only[Tr.h]at hkid
  refine Zj Y (fun A hA=>?_)
  have hw:(k.getD []).length=0:=by rw[hk];rfl
  cases kid with
  | false =>
   cases k
   all_goals simp only[Tr.av,Tr.avO,Tr.avL_map,Option.getD]at *
   all_goals repeat'(first|refine ruS Y ?_|refine isS Y ?_|refine ZB Y Y Y Y ?_|refine rkS Y ?_|refine Zi Y ?_|refine QG Y ?_|(refine cm0 Y Y Y ?_ ?_<;>intro _<;>try omega)|(refine cm0 Y Y Y ?_ ?_<;>intro _<;>try omega)|refine ZJ Y Y Y ?_|refine ZA Y Y (by first|rfl|(simp only[List.nil_append,List.append_nil,List.cons_append,ZH,ZC,ZE];first|done|rfl)) (hK _) ?_|refine Zr ?_)
   all_goals refine ZO hA (by simp) Y Y Y Y ?_
   all_goals rfl
  | true =>
   obtain⟨ha,hb8⟩:=hkid rfl;have hb8':=hb8 trivial
   cases k
   all_goals simp only[Tr.av,Tr.avO,Tr.avL_map,Option.getD]at *
   all_goals repeat'(first|refine ruS Y ?_|refine isS Y ?_|refine ZB Y Y Y Y ?_|refine rkS Y ?_|refine Zi Y ?_|refine QG Y ?_|(refine cm0 Y Y Y ?_ ?_<;>intro _<;>try omega)|(refine cm0 Y Y Y ?_ ?_<;>intro _<;>try omega)|(refine cm0 Y Y Y ?_ ?_<;>intro _<;>try omega)|refine ZJ Y Y Y ?_|refine ZA Y Y (by first|rfl|(simp only[List.nil_append,List.append_nil,List.cons_append,ZH,ZC,ZE];first|done|rfl)) (hK _) ?_|refine ZA Y Y (by first|rfl|(simp only[List.nil_append,List.append_nil,List.cons_append,ZH,ZC,ZE];first|done|rfl)) (hB _) ?_|refine Zr ?_)
   all_goals try omega
   all_goals refine ZO hA (by simp) Y Y Y Y ?_
   all_goals rfl
 | inner hh h2 h4 hl hb hv ih =>
  intro st lv ix hr kid hgt hkid
  rename_i h l
  have hK:=fun st=>ZKy (.mk 0 (h+1) .zero [] (some l)) ⟨rfl,rfl,rfl,by simp[Tr.h],hh,h2,h4⟩ st
  simp only[Tr.h]at hkid
  refine Zj Y (fun A hA=>?_)
  have hkid':kid=true->((h+1:Nat):Int)=hgt:=fun q=>(hkid q).1
  simp only[Tr.av,Tr.avO,Tr.avL_map]at *
  have key:∀k Q (B:Blk) (hb0:B=.arr 7 0 [.agg [.int .u64 (0:Nat),.int .i64 ((h+1:Nat):Int),.int .i64 Mea.zero.b,.int .i64 Mea.zero.r,.int .i64 Mea.zero.l,.str [],.lit (l.map Tr.av)]]),
   (∀G,Rk (S Tb) k Q (.ex 0) [(0,.ptr lv ix 0 0 0),(5,.ptr A.length 0 0 0 0),(56,.lit (l.map Tr.av)),(57,.int .i64 l.length),(58,.int .i64 l.length),(59,.bool false)] ⟨A,false,B::G⟩) ->
   Ru (S Tb) (.loop ZLJ) k Q [(0,.ptr lv ix 0 0 0),(5,.ptr A.length 0 0 0 0),(56,.lit (l.map Tr.av)),(57,.int .i64 l.length),(58,.int .i64 0)] ⟨A,false,[B]⟩:=by
   rintro k Q B rfl hex
   refine Zc (α:=Nat × List Blk) (fun p=>[(0,.ptr lv ix 0 0 0),(5,.ptr A.length 0 0 0 0),(56,.lit (l.map Tr.av)),(57,.int .i64 l.length),(58,.int .i64 p.1)])
    (fun p=>⟨A,false,.arr 7 0 [.agg [.int .u64 (0:Nat),.int .i64 ((h+1:Nat):Int),.int .i64 Mea.zero.b,.int .i64 Mea.zero.r,.int .i64 Mea.zero.l,.str [],.lit (l.map Tr.av)]]::p.2⟩) (fun p=>p.1<=l.length) (fun p=>l.length-p.1) (0,[]) rfl rfl (by simp) ?_
   rintro⟨i,G⟩ hi
   simp only at hi ⊢
   repeat'(first|refine ruS Y ?_|refine isS Y ?_|refine ZB Y Y Y Y ?_|refine rkS Y ?_|(refine cm0 Y Y Y ?_ ?_<;>intro _<;>try omega)|refine QC Y Y (by omega) ?_|refine Za Y Y Y ?_|refine QY Y Y (by omega) ZQ (fun _ _=>?_)|refine Zk Y (ZG _) ?_|refine Z5 Y Y (ZG _) ?_|refine J5 Y Y Y (Zn _ _ _) (Zx _ _) Y ?_)
   ·rename_i t ht
    have ht2:l[i]?=some t:=ht;have htm:=jM ht2;have hth:=hl t htm
    have h5:=fun L=>ih t htm (hr.push hA (ro:=false) (L:=L)) true (((h+1:Nat):Int)-1) (fun _=>⟨by rw[hth];omega,fun q=>hb t htm (by omega)⟩)
    repeat'(first|refine ruS Y ?_|refine isS Y ?_|refine rkS Y ?_|(refine cm0 Y Y Y ?_ ?_<;>intro _<;>try omega)|refine ZL Y Y (by omega) ?_|refine ZA Y Y (by first|rfl|(simp only[List.nil_append,List.append_nil,List.cons_append,ZH,ZC,ZE];first|done|rfl)) (h5 _) ?_)
    exact⟨(i+1,G++[.arr 7 0 [t.av]]),⟨rfl,rfl⟩,by simp only;omega,by simp only;omega⟩
   ·have:i=l.length:=by omega
    subst this;exact hex G
  cases kid with
  | false =>
   repeat'(first|refine ruS Y ?_|refine isS Y ?_|refine ZB Y Y Y Y ?_|refine ZX ?_|refine Zi Y ?_|(refine cm0 Y Y Y ?_ ?_<;>intro _<;>try omega)|refine ZJ Y Y Y ?_|refine ZA Y Y Y (hK _) ?_)
   refine key _ _ _ Y (fun G=>?_)
   repeat'(first|refine ruS Y ?_|refine isS Y ?_|refine rkS Y ?_)
   refine ZO hA (by simp) Y Y Y Y ?_
   rfl
  | true =>
   have ha:=hkid' rfl
   repeat'(first|refine ruS Y ?_|refine isS Y ?_|refine ZB Y Y Y Y ?_|refine ZX ?_|refine Zi Y ?_|(refine cm0 Y Y Y ?_ ?_<;>intro _<;>try omega)|refine ZJ Y Y Y ?_|refine ZA Y Y Y (hK _) ?_)
   all_goals try omega
   refine key _ _ _ Y (fun G=>?_)
   repeat'(first|refine ruS Y ?_|refine isS Y ?_|refine rkS Y ?_)
   refine ZO hA (by simp) Y Y Y Y ?_
   rfl
theorem Val.kind{N:ZF}(hv:Val N t):IsKept t\/IsLeaf t\/IsInner t:=by
 cases hv with
 | kept h0 hx hok hh hm hk=>exact .inl ⟨h0,rfl,hk⟩
 | leaf h1 h2 hk=>exact .inr (.inl ⟨rfl,rfl,rfl,h1,h2,hk⟩)
 | inner hh h2 h4 hl hb hv=>exact .inr (.inr ⟨rfl,rfl,rfl,Nat.succ_le_succ (Nat.zero_le _),hh,h2,h4⟩)
theorem Zra{lv:Nat}{N:ZF}(hr:Rd st lv ix N)(hv:Val N t)(hb:t.bytes<=65536):S Tb Js [.ptr lv ix 0 0 0,t.av] st=some (.int .i64 0,st):=by
 have hB:=fun st=>X9 t hv.pos.1 (by omega) st
 have hK:∃k:Int,k≠1/\∀st,S Tb QQ [t.av] st=some (.int .i64 k,st):=by
  rcases hv.kind with h|h|h
  ·exact⟨2,by decide,fun st=>ZQ9 _ h st⟩
  ·exact⟨3,by decide,fun st=>ZRA _ h st⟩
  ·exact⟨4,by decide,fun st=>ZKy _ h st⟩
 obtain⟨k,hk1,hK⟩:=hK
 refine Zj Y (fun A hA=>?_)
 have hC:=fun L=>ZwE hv (hr.push hA (ro:=false) (L:=L)) false 0 (fun q=>by cases q)
 repeat'(first|refine ruS Y ?_|refine isS Y ?_|refine rkS Y ?_|(refine cm0 Y Y Y ?_ ?_<;>intro _<;>try omega)|(refine cm0 Y Y Y ?_ ?_<;>intro _<;>try omega)|(refine cm0 Y Y Y ?_ ?_<;>intro _<;>try omega)|refine QD Y Y Y Y ?_|refine Z5 Y Y (ZG _) ?_|refine Za Y (ZQ _) (Zg _) ?_|refine ZA Y Y (by first|rfl|(simp only[List.nil_append,List.append_nil,List.cons_append,ZH,ZC,ZE];first|done|rfl)) (hK _) ?_|refine ZA Y Y (by first|rfl|(simp only[List.nil_append,List.append_nil,List.cons_append,ZH,ZC,ZE];first|done|rfl)) (hC _) ?_|refine ZA Y Y (by first|rfl|(simp only[List.nil_append,List.append_nil,List.cons_append,ZH,ZC,ZE];first|done|rfl)) (hB _) ?_)
 all_goals try omega
 refine ZO hA (by simp) Y Y Y Y ?_
 rfl
theorem ZnH{lv:Nat}(ht:IsEmpty t):S Tb Js [.ptr lv ix 0 0 0,t.av] st=some (.int .i64 0,st):=by
 have hK:=fun st=>ZBK t ht st
 refine Zj Y (fun A hA=>?_)
 repeat'(first|refine ruS Y ?_|refine isS Y ?_|refine rkS Y ?_|(refine cm0 Y Y Y ?_ ?_<;>intro _<;>try omega)|refine QD Y Y Y Y ?_|refine Z5 Y Y (ZG _) ?_|refine Za Y (ZQ _) (Zg _) ?_|refine ZA Y Y (by first|rfl|(simp only[List.nil_append,List.append_nil,List.cons_append,ZH,ZC,ZE];first|done|rfl)) (hK _) ?_)
 refine ZO hA (by simp) Y Y Y Y ?_
 rfl
structure Ro where
 at_:Nat
 h:Nat
 m:Mea
deriving DecidableEq
def Ro.zero:Ro:=⟨0,0,.zero⟩
def Ro.av(r:Ro):AV:=.agg [.int .u64 r.at_,.int .i64 r.h,.int .i64 r.m.b,.int .i64 r.m.r,.int .i64 r.m.l]
def Tr.zero:Tr:=.mk 0 0 .zero [] none
def Tr.keep(r:Ro):Tr:=.mk r.at_ r.h r.m [] none
theorem eqv5(r:Ro):eqV [(0,0),(1,0),(2,0),(3,0),(4,0)] 0 r.av (.agg [.int .u64 0,.int .i64 0,.int .i64 0,.int .i64 0,.int .i64 0])=some (decide (r=.zero)):=by
 show (if decide ((r.at_:Int)=0)=true then (if decide ((r.h:Int)=0)=true then (if decide (r.m.b=0)=true then (if decide (r.m.r=0)=true then (if decide (r.m.l=0)=true then some true else some false) else some false) else some false) else some false) else some false)=_
 have:r=.zero↔((r.at_:Int)=0/\(r.h:Int)=0/\r.m.b=0/\r.m.r=0/\r.m.l=0):=by
  obtain⟨a,h,⟨b,c,d⟩⟩:=r
  simp[Ro.zero,Mea.zero]
 by_cases h1:(r.at_:Int)=0<;>by_cases h2:(r.h:Int)=0<;>by_cases h3:r.m.b=0<;>by_cases h4:r.m.r=0<;>by_cases h5:r.m.l=0<;>simp only[this,h1,h2,h3,h4,h5,decide_true,decide_false,if_true,if_false,and_true,and_false,jB]
theorem Ztm{lv:Nat}{N:ZF}(hr:Rd st lv ix N){r:Ro}{x:Nd}(hx:lk N r.at_=some x)(hok:NdOk x)(h0:r.at_≠0)(hh:x.h=r.h)(hm:x.mea=r.m):
 S Tb XQ [.ptr lv ix 0 0 0,r.av] st=some (.tup [(Tr.keep r).av,.int .i64 0],st):=by
 refine Zj Y (fun A hA=>?_)
 have hS:=fun L=>Ztl (hr.push hA (ro:=false) (L:=L)) hx hok r.h (by rw[hh]) r.m hm
 have hq:=eqv5 r
 unfold Ro.av at *
 repeat'(first|refine ruS Y ?_|refine isS Y ?_|refine ZB Y Y Y Y ?_|refine rkS Y ?_|(refine cm0 Y Y Y ?_ ?_<;>intro _<;>try omega)|refine ZZ Y Y Y ?_|refine QD Y Y Y Y ?_|refine ZJ Y Y Y ?_|refine Ze Y Y Y Y Y Y ?_|(refine ZIg Y Y hq (fun _=>?_) (fun _=>?_))|refine ZA Y Y Y (hS _) ?_)
 ·rename_i h
  rw[h]at h0;exact absurd Y h0
 ·refine JL hA (by simp) Y Y Y Y Y ?_
  rfl
theorem Zi2{lv:Nat}:S Tb XQ [.ptr lv ix 0 0 0,Ro.zero.av] st=some (.tup [Tr.zero.av,.int .i64 0],st):=by
 refine Zj Y (fun A hA=>?_)
 have hq:=eqv5 .zero
 unfold Ro.av at *
 repeat'(first|refine ruS Y ?_|refine isS Y ?_|refine ZB Y Y Y Y ?_|refine rkS Y ?_|refine ZZ Y Y Y ?_|refine QD Y Y Y Y ?_|refine ZJ Y Y Y ?_|refine Ze Y Y Y Y Y Y ?_)
 refine JL hA (by simp) Y Y Y Y Y ?_
 rfl
inductive Sl (st:St):AV->List Tr->Prop
 | lit (l:List Tr):Sl st (.lit (l.map Tr.av)) l
 | ref {lv ix ver s n:Nat} {l:List Tr} {es:LV} (hg:st.get lv ix=some (.arr 7 ver es)) (hn:n=l.length) (hl:s+n<=es.length) (he:(es.drop s).take n=l.map Tr.av):Sl st (.ref lv ix ver s n) l
theorem Sl.push{L:List Blk}{l:List Tr}(hA:A=st.A++[(st.ro,st.L)])(h:Sl st v l):Sl ⟨A,ro,L⟩ v l:=by
 cases h with
 | lit l=>exact .lit l
 | ref hg hn hl he=>exact .ref (ZS hA hg) hn hl he
theorem Sl.elems{l:List Tr}(h:Sl st v l):elems st v=some (l.map Tr.av):=by
 cases h with
 | lit l=>rfl
 | ref hg hn hl he=>simp only[QAbs.elems,hg,ZFG,true_and,if_pos hl,he]
theorem Sl.get{s:Nat}{l:List Tr}(hn:n=l.length)(he:(es.drop s).take n=l.map Tr.av)(ht:l[i]?=some t):es[s+i]?=some t.av:=by
 have hlt:i<l.length:=(List.getElem?_eq_some_iff.1 ht).1
 have h1:((es.drop s).take n)[i]?=some t.av:=by rw[he,jG,ht];rfl
 rw[List.getElem?_take,if_pos (by omega),List.getElem?_drop]at h1
 exact h1
theorem Sl.weak{l:List Tr}(h:Sl st v l):QAbs.weak v=v:=by cases h<;>rfl
def Tr.hs(l:List Tr):Nat:=match l with
 | []=>0
 | t::_=>t.h
def grp:List Tr->Tr
 | []=>.zero
 | [t]=>t
 | t::l=>.mk 0 (t.h+1) .zero [] (some (t::l))
theorem ZRB{l:List Tr}(h:2<=l.length):grp l=.mk 0 (Tr.hs l+1) .zero [] (some l):=by
 match l,h with
 | a::b::r,_=>rfl
theorem ZCz{L:List Blk}{b:Nat}(ht:JV e b=some (.ptr A.length ix ver 0 0))(hg:L[ix]?=some (.arr w ver [t.av])):ZCJ ⟨A,false,L⟩ e (.c b true 7)=some t.av:=by
 simp only[ZCJ,Z9 ht,loadP,St.get_cur,hg,vis,ZGp,if_true,List.getElem?_cons_zero,Option.bind_some,ZG]
theorem ZBL{L:List Blk}{x:Ex}{b:Nat}(hA:A=st.A++[(st.ro,st.L)])(hx:x=.norm\/x=.ret)(ht:JV e b=some (.ptr A.length ix ver 0 0))(hg:L[ix]?=some (.arr w ver [t.av]))(hu:t.av=u):Jp false [.c b true 7] (x,e,⟨A,false,L⟩)=some (u,st):=by
 subst hu;refine ZGP hA hx ?_ (Zn _ _ _) Y;simp only[Qo,ZC8,ZCz ht hg,Option.bind_some,Option.map_some,ZGq]
theorem ZCn{L:List Blk}{x:Ex}{b c:Nat}{k:IntKind}{n:Int}(hA:A=st.A++[(st.ro,st.L)])(hx:x=.norm\/x=.ret)(ht:JV e b=some (.ptr A.length ix ver 0 0))(hg:L[ix]?=some (.arr w ver [t.av]))(hc:JV e c=some (.int k n))(hu:.tup [t.av,.int k n]=u):Jp false [.c b true 7,.s c] (x,e,⟨A,false,L⟩)=some (u,st):=by
 subst hu;refine ZGP (v:=.tup [t.av,.int k n]) (ro:=false) (L':=L) hA hx ?_ ?_ Y
 ·simp only[Qo,ZC8,ZCz ht hg,Option.bind_some]
  simp only[ZCJ,Z9 hc,Option.bind_some,Option.map_some,ZGq]
 ·show (mapSt (Zb 5 A.length) _ _).bind ZcE=_
  rw[mapSt,XW 3];rfl
theorem ZcA{l:List Tr}(h:(l.length:Int)=1)(ht:l[0]?=some t):grp l=t:=by
 match l,h with
 | [a],_=>simpa [grp] using ht
theorem Ztn{l:List Tr}(ht:l[0]?=some t):Tr.hs l=t.h:=by
 match l with
 | a::r=>simp at ht;subst ht;rfl
theorem Qz(t:Tr):Jn t.av false 1 1=some (.int .i64 t.h):=by
 obtain⟨o,h,m,s,k⟩:=t
 cases k<;>rfl
section
variable {O:Orc}{k:List Fr}{Q:Qn}{e:Env}{A:List (Bool × List Blk)}{L:List Blk}{keep:List Nat}{is:List PI}{d:Nat}
theorem ZYt{st':St}{K:WK}{o:PO}(hv:Zs e st o K=some (v,st'))(h:Is O is keep k Q ((d,v)::e) st'):Is O (⟨some d,none,false,.w K o⟩::is) keep k Q e st :=
 Zq (v:=v) (st':=st') (by simp only[Zd];exact hv) h
theorem ZqV{s x:Opd}{l:List Tr}(hs:ZY e s=some .nils)(hx:ZY e x=some v)(hv:Sl ⟨A,false,L⟩ v l)(hl:l.length<4294967296):
 evalPO e ⟨A,false,L⟩ (.app 7 80 s x)=some (.ref A.length L.length 0 0 l.length,⟨A,false,L++[.arr 7 0 (l.map Tr.av)]⟩):=by
 have hw:=JB l
 simp only[evalPO,ZD hs,ZD hx,hv.elems,Option.bind_some,Q4,List.length_map,hw,and_true,if_pos (show l.length<4294967296/\80<=4096 by omega),St.new_cur,JO]
theorem ZYu{s x:Opd}{l:List Tr}(hs:ZY e s=some .nils)(hx:ZY e x=some v)(hv:Sl ⟨A,false,L⟩ v l)(hl:l.length<4294967296)(h:Is O is keep k Q ((d,.ref A.length L.length 0 0 l.length)::e) ⟨A,false,L++[.arr 7 0 (l.map Tr.av)]⟩):
 Is O (⟨some d,none,false,.app 7 80 s x⟩::is) keep k Q e ⟨A,false,L⟩ :=
 Zq (v:=.ref A.length L.length 0 0 l.length) (st':=⟨A,false,L++[Blk.arr 7 0 (l.map Tr.av)]⟩) (by simp only[Zd];exact ZqV hs hx hv hl) h
theorem ZFB{s x:Opd}{l:List Tr}(hs:ZY e s=some .nils)(hx:ZY e x=some v)(hv:Sl ⟨A,false,L⟩ v l)(hl:l.length<4294967296)(h:Is O is keep k Q ((d,.ref A.length L.length 0 0 l.length)::e) ⟨A,false,L++[.arr 7 0 (l.map Tr.av)]⟩):
 Is O (⟨some d,none,false,.w .app0 (.app 7 80 s x)⟩::is) keep k Q e ⟨A,false,L⟩ :=
 ZYt (by simp only[Zs,ZLC,ZD hs,Xo,if_true];exact ZqV hs hx hv hl) h
theorem ZBM{s x:Opd}{l m:List Tr}(hs:ZY e s=some (.ref A.length ix ver 0 n))(hg:L[ix]?=some (.arr 7 ver (m.map Tr.av)))(hn:n=m.length)(hx:ZY e x=some v)(hv:Sl ⟨A,false,L⟩ v l)(hl:m.length+l.length<4294967296)
 (h:Is O is keep k Q ((d,.ref A.length ix (ver+1) 0 (m++l).length)::e) ⟨A,false,L.set ix (.arr 7 (ver+1) ((m++l).map Tr.av))⟩):Is O (⟨some d,none,false,.app 7 80 s x⟩::is) keep k Q e ⟨A,false,L⟩:=by
 have hlt:ix<L.length:=by
  rw[List.getElem?_eq_some_iff]at hg;exact hg.1
 subst hn;refine Zq (v:=.ref A.length ix (ver+1) 0 (m++l).length) (st':=⟨A,false,L.set ix (.arr 7 (ver+1) ((m++l).map Tr.av))⟩) ?_ h
 simp only[Zd,evalPO,ZD hs,ZD hx,hv.elems,Option.bind_some,Q4,JB,if_true,ZWo,Zf4,St.get_cur,hg,vis,ZRL,true_and,List.length_map,if_pos (show 0+m.length<=m.length/\m.length+l.length<4294967296/\80<=4096 by omega),St.put,if_false,jB,if_pos hlt,List.drop_zero]
 rw[List.take_of_length_le (by simp),List.map_append,List.length_append]
end
theorem ZAA{l:List Tr}(hl:l.length<=65536)(hh:∀t∈l,t.h<=65536)(hv:Sl st v l):S Tb QJ [v] st=some ((grp l).av,st):=by
 refine Zj Y (fun A hA=>?_)
 have hv2:=fun L=>hv.push hA (ro:=false) (L:=L)
 have fin:∀ {L:List Blk} {e:Env} {h:Int} {u:Tr},l[0]?=some u->2<=l.length->h=u.h+1->JV e 2=some (.ptr A.length 0 0 0 0)->L=[.arr 7 0 [.agg [.int .u64 0,.int .i64 h,.int .i64 0,.int .i64 0,.int .i64 0,.str [],.ref A.length 1 0 0 l.length]],.arr 7 0 (l.map Tr.av)] ->
  Jp false [.c 2 true 7] (.ret,e,⟨A,false,L⟩)=some ((grp l).av,st):=by
  intro L e h u hu h2 hhu he hL;subst hL hhu
  have hval:=ZGP (e:=e) (res:=[.c 2 true 7]) (x:=.ret) (v:=.agg [.int .u64 0,.int .i64 ((u.h:Int)+1),.int .i64 0,.int .i64 0,.int .i64 0,.str [],.ref A.length 1 0 0 l.length]) hA (.inr rfl) (by
   simp only[Qo,ZC8,ZCJ,Z9 he,loadP,St.get_cur,List.getElem?_cons_zero,vis,ZGp,if_true,Option.bind_some]
   rfl) (ZfW (l:=l) (ix:=1) (L:=[.arr 7 0 [.agg [.int .u64 0,.int .i64 ((u.h:Int)+1),.int .i64 0,.int .i64 0,.int .i64 0,.str [],.ref A.length 1 0 0 l.length]],.arr 7 0 (l.map Tr.av)]) rfl rfl) rfl
  rw[hval,ZRB h2,Ztn hu,Tr.av,Tr.avO,Tr.avL_map];rfl
 cases hv with
 | lit =>
  have hvs:=fun L=>Sl.lit (st:=⟨A,false,L⟩) l
  repeat'(first|refine ruS Y ?_|refine isS Y ?_|refine rkS Y ?_|refine Zi Y ?_|(refine cm0 Y Y Y ?_ ?_<;>intro _<;>try omega)|refine ZZ Y Y Y ?_|refine ZJ Y Y Y ?_|refine Ze Y Y Y Y Y Y ?_|refine QY Y Y (by omega) ZQ (fun _ _=>?_)|refine Zk Y (ZG _) ?_|refine Ze Y Y Y (Zn _ _ _) (Zx _ _) Y ?_)
  ·rename_i h
   have:l=[]:=List.length_eq_zero_iff.1 (by omega)
   subst this
   refine JL hA (by simp) Y Y Y Y Y ?_
   rfl
  ·rename_i h1 t ht
   exact ZBL hA (.inr Y) Y Y (by rw[ZcA h1 ht])
  ·rename_i h0 h1 t ht
   have hth:=hh t (jM ht);refine Zk Y (Qz _) ?_
   repeat'(first|refine isS Y ?_|refine rkS Y ?_|refine ZL Y Y (by omega) ?_|refine ZZ Y Y Y ?_|refine Ze Y Y Y (ZFA _ (Nat.lt_succ_self _)) Y Y ?_|refine ZYt Y ?_|refine ZFB Y Y (hvs _) (by omega) ?_|refine Jq ?_)
   exact fin ht (by omega) Y Y Y
 | @ref lv ix ver s n _ es hg hn hlen he =>
  have hvs:=fun L=>hv2 L
  have hg2:=fun L=>ZS hA (ro:=false) (L:=L) hg
  have hget:=fun {i} {t}=>Sl.get (i:=i) (t:=t) hn he
  have hwi:∀L,wIs 7 ver (St.get ⟨A,false,L⟩ lv ix)=true:=fun L=>by rw[hg2];simp[wIs]
  repeat'(first|refine ruS Y ?_|refine isS Y ?_|refine rkS Y ?_|refine Zp Y ?_|(refine cm0 Y Y Y ?_ ?_<;>intro _<;>try omega)|refine ZZ Y Y Y ?_|refine ZJ Y Y Y ?_|refine Ze Y Y Y Y Y Y ?_|refine JA Y Y (by omega) (hwi _) ?_)
  ·rename_i h
   have:l=[]:=List.length_eq_zero_iff.1 (by omega)
   subst this
   refine JL hA (by simp) Y Y Y Y Y ?_
   rfl
  ·rename_i h1
   obtain⟨t,ht⟩:∃t,l[0]?=some t:=⟨l[0]'(by omega),by simp⟩
   refine Z1 Y (hg2 _) (hget ht) (ZG t) ?_
   repeat'(first|refine Yj Y ?_|refine rkS Y ?_|refine Ze Y Y Y (Zn _ _ _) (Zx _ _) Y ?_|refine Jq ?_)
   exact ZBL hA (.inr Y) Y Y (by rw[ZcA (by omega) ht])
  ·rename_i h0 h1
   have hnz:l.length≠0:=by omega
   obtain⟨t,ht⟩:∃t,l[0]?=some t:=⟨l[0]'(by omega),by simp⟩
   have hth:=hh t (jM ht)
   skip
   refine Z1 Y (hg2 _) (hget ht) (Qz t) ?_
   repeat'(first|refine isS Y ?_|refine rkS Y ?_|refine ZL Y Y (by omega) ?_|refine ZZ Y Y Y ?_|refine Ze Y Y Y (ZFA _ (Nat.lt_succ_self _)) Y Y ?_|refine ZYt Y ?_|refine ZFB Y Y (hvs _) (by omega) ?_|refine Jq ?_)
   exact fin ht (by omega) Y Y Y
def Ju(n g:Int)(i:Nat):Int:=n / g+if (i:Int)<n % g then 1 else 0
theorem Zrb(st:St)(lv ix jx:Nat)(i:Nat)(n g:Int)(hn:st.get lv ix=some (.arr 1 0 [.int .i64 n]))(hg:st.get lv jx=some (.arr 1 0 [.int .i64 g]))(h0:0<=n/\n<4294967296)(h1:0<g):
 S Tb J8 [.int .i64 i,.ptr lv ix 0 0 0,.ptr lv jx 0 0 0] st=some (.int .i64 (Ju n g i),st):=by
 have q1:n / g<=n:=Int.ediv_le_self g h0.1
 have q2:0<=n / g:=Int.ediv_nonneg h0.1 (by omega)
 refine Zj Y (fun A hA=>?_)
 repeat'(first|refine ruS Y ?_|refine isS Y ?_|refine rkS Y ?_|(refine cm0 Y Y Y ?_ ?_<;>intro _<;>try omega)|refine ZL Y Y (by omega) ?_|refine ZBS Y Y (by omega) ?_|refine Zjr Y Y (by omega) ?_|refine Z1 Y (ZS hA hn) Y Y ?_|refine Z1 Y (ZS hA hg) Y Y ?_)
 ·refine ZO hA (by simp) Y Y Y Y ?_
  unfold Ju;rw[if_pos (by assumption)]
 ·refine ZO hA (by simp) Y Y Y Y ?_
  unfold Ju;rw[if_neg (by omega),Int.add_zero]
theorem ZfX(A)(k Q)(n g:Int)(h0:0<=n/\n<4294967296)(h1:0<g/\g<4294967296)
 (hk:Rk (S Tb) k Q (.ex 0) [(6,.func (.func J8) [] [.ptr A.length 0 0 0 0,.ptr A.length 1 0 0 0]),(7,.ref A.length 2 0 0 g.toNat),(23,.int .i64 g),(24,.int .i64 g),(25,.bool false)]
  ⟨A,false,[.arr 1 0 [.int .i64 n],.arr 1 0 [.int .i64 g],.arr 1 0 ((List.range g.toNat).map fun (i:Nat)=>.int .i64 (Ju n g i))]⟩) :
 Ru (S Tb) (.loop ZH8) k Q [(6,.func (.func J8) [] [.ptr A.length 0 0 0 0,.ptr A.length 1 0 0 0]),(7,.ref A.length 2 0 0 g.toNat),(23,.int .i64 g),(24,.int .i64 0)]
  ⟨A,false,[.arr 1 0 [.int .i64 n],.arr 1 0 [.int .i64 g],.arr 1 0 (List.replicate g.toNat (.int .i64 0))]⟩:=by
 refine Zc (α:=Nat) (fun i=>[(6,.func (.func J8) [] [.ptr A.length 0 0 0 0,.ptr A.length 1 0 0 0]),(7,.ref A.length 2 0 0 g.toNat),(23,.int .i64 g),(24,.int .i64 i)])
  (fun i=>⟨A,false,[.arr 1 0 [.int .i64 n],.arr 1 0 [.int .i64 g],.arr 1 0 ((List.range g.toNat).map fun (j:Nat)=>.int .i64 (if j<i then Ju n g j else 0))]⟩)
  (fun i=>i<=g.toNat) (fun i=>g.toNat-i) 0 rfl ?_ (Nat.zero_le _) ?_
 ·simp only[Nat.not_lt_zero,if_false,List.map_const',List.length_range]
 intro i hi
 repeat'(first|refine ruS Y ?_|refine isS Y ?_|refine rkS Y ?_|(refine cm0 Y Y Y ?_ ?_<;>intro _<;>try omega))
 ·have hl:=Zrb ⟨A,false,[.arr 1 0 [.int .i64 n],.arr 1 0 [.int .i64 g],.arr 1 0 ((List.range g.toNat).map fun (j:Nat)=>.int .i64 (if j<i then Ju n g j else 0))]⟩ A.length 0 1 i n g (by rw[St.get_cur];rfl) (by rw[St.get_cur];rfl) h0 h1.1
  refine ZA Y Y Y hl ?_
  refine Xe Y Y (by omega) Y ?_
  refine ZtV (y:=.int .i64 0) Y Y Y ?_ Y Y Y ?_
  ·rw[jG,List.getElem?_range (by omega)];simp
  repeat'(first|refine Qp ?_|refine isS Y ?_|refine rkS Y ?_|refine ZL Y Y (by omega) ?_)
  refine⟨i+1,⟨rfl,?_⟩,by omega,by omega⟩
  congr 1
  congr 1
  congr 1
  congr 1
  congr 1
  apply List.ext_getElem
  ·simp
  ·intro j hj hj'
   simp only[List.getElem_set,List.getElem_map,List.getElem_range];simp only[Nat.zero_add,Int.toNat_natCast]
   by_cases q:i=j
   ·subst q;simp
   ·rw[if_neg q]
    have:j<i+1↔j<i:=by omega
    simp only[this]
 ·have e1:(i:Int)=g:=by omega
  have e2:i=g.toNat:=by omega
  have e3:((List.range g.toNat).map fun (j:Nat)=>AV.int .i64 (if j<i then Ju n g j else 0))=(List.range g.toNat).map fun (j:Nat)=>.int .i64 (Ju n g j):=by
   apply List.map_congr_left
   intro j hj;rw[List.mem_range]at hj
   rw[if_pos (by omega)]
  rw[e3,e1];exact hk
def ZW(n most:Int):Int:=(n-1) / most+1
def XA(n most:Int):List Int:=if n=0 then [] else (List.range (ZW n most).toNat).map fun i=>Ju n (ZW n most) i
def ZGI(l:List Int):AV:=.lit (l.map (.int .i64))
theorem Jv{n:Int}(h:1<=n)(h1:1<=most):1<=ZW n most/\ZW n most<=n:=by
 have q1:(n-1) / most<=n-1:=Int.ediv_le_self most (by omega)
 have q2:0<=(n-1) / most:=Int.ediv_nonneg (by omega) (by omega)
 unfold ZW;omega
theorem ZpN{n:Int}(h1:1<=most)(hr:0<n % most):n / most+1=ZW n most:=by
 unfold ZW;have e1:most*(n / most)+n % most=n:=Int.mul_ediv_add_emod n most
 have e2:n % most<most:=Int.emod_lt_of_pos n (by omega)
 have:(n-1) / most=n / most:=by
  rw[show n-1=(n % most-1)+most*(n / most) by omega,Int.add_mul_ediv_left _ _ (by omega),Int.ediv_eq_zero_of_lt (by omega) (by omega)];omega
 omega
theorem ZpO{n:Int}(h1:1<=most)(hr:n % most<=0):n / most=ZW n most:=by
 unfold ZW;have e1:most*(n / most)+n % most=n:=Int.mul_ediv_add_emod n most
 have e2:0<=n % most:=Int.emod_nonneg n (by omega)
 have:(n-1) / most=n / most-1:=by
  rw[show n-1=(most-1)+most*(n / most-1) by rw[Int.mul_sub];omega,Int.add_mul_ediv_left _ _ (by omega),Int.ediv_eq_zero_of_lt (by omega) (by omega)];omega
 omega
theorem ZqW(n most:Int)(st:St)(h0:0<=n/\n<2147483648)(h1:1<=most):S Tb ZBT [.int .i64 n,.int .i64 most] st=some (ZGI (XA n most),st):=by
 have q1:n / most<=n:=Int.ediv_le_self most h0.1
 have q2:0<=n / most:=Int.ediv_nonneg h0.1 (by omega)
 refine Zj Y (fun A hA=>?_)
 repeat'(first|refine ruS Y ?_|refine isS Y ?_|refine ZB Y Y Y Y ?_|refine rkS Y ?_|(refine cm0 Y Y Y ?_ ?_<;>intro _<;>try omega)|refine ZL Y Y (by omega) ?_|refine ZBS Y Y (by omega) ?_|refine Zjr Y Y (by omega) ?_|refine ZOL Y Y ?_|refine ZJ Y Y Y ?_|refine Ze Y Y Y Y Y Y ?_|refine ZTi Y Y (by omega) (by decide) Y ?_)
 ·refine ZO hA (by simp) Y Y Y Y ?_
  rename_i hz
  simp[XA,hz,ZGI]
 ·rename_i hz hr
  have hp:=Jv (show 1<=n by omega) h1
  rw[ZpN h1 hr]
  refine ZfX A _ _ n (ZW n most) (by omega) (by omega) ?_
  repeat'(first|refine ruS Y ?_|refine isS Y ?_|refine rkS Y ?_)
  refine Qu hA (by simp) Y Y (by simp) (by first|(simp[imm];done)|exact fun _ h=>absurd h (by simp)) ?_
  unfold ZGI XA
  rw[if_neg (by omega)]
  simp[Function.comp_def]
 ·rename_i hz hr
  have hp:=Jv (show 1<=n by omega) h1
  rw[ZpO h1 hr]
  refine ZfX A _ _ n (ZW n most) (by omega) (by omega) ?_
  repeat'(first|refine ruS Y ?_|refine isS Y ?_|refine rkS Y ?_)
  refine Qu hA (by simp) Y Y (by simp) (by first|(simp[imm];done)|exact fun _ h=>absurd h (by simp)) ?_
  unfold ZGI XA
  rw[if_neg (by omega)]
  simp[Function.comp_def]
theorem ZfY(n most:Int)(st:St)(h0:0<=n/\n<2147483648)(h1:1<=most):S Tb YP [.int .i64 n,.int .i64 most] st=some (ZGI (XA n most),st):=by
 refine Zj Y (fun A hA=>?_)
 by_cases hz:n=0
 ·subst hz
  repeat'(first|refine ruS Y ?_|refine isS Y ?_|refine rkS Y ?_|(refine cm0 Y Y Y ?_ ?_<;>intro _<;>try omega))
  refine ZO hA (by simp) Y Y Y Y ?_
  simp[XA,ZGI]
 ·have hp:=Jv (show 1<=n by omega) h1
  have q1:(n-1) / most<=n-1:=Int.ediv_le_self most (by omega)
  have q2:0<=(n-1) / most:=Int.ediv_nonneg (by omega) (by omega)
  repeat'(first|refine ruS Y ?_|refine isS Y ?_|refine ZX ?_|(refine cm0 Y Y Y ?_ ?_<;>intro _<;>try omega)|refine ZL Y Y (by omega) ?_|refine QC Y Y (by omega) ?_|refine ZBS Y Y (by omega) ?_|refine QN Y ?_)
  have hg:(n-1) / most+1=ZW n most:=rfl;rw[hg]
  generalize hG:ZW n most=g at *
  have q3:n / g<=n:=Int.ediv_le_self g h0.1
  have q4:0<=n / g:=Int.ediv_nonneg h0.1 (by omega)
  refine Zc (α:=Nat) (fun i=>[(0,.int .i64 n),(5,.int .i64 g),(6,.ref A.length 0 i 0 i),(7,.int .i64 i)])
   (fun i=>⟨A,false,[.arr 1 i ((List.range i).map fun (j:Nat)=>.int .i64 (Ju n g j))]⟩)
   (fun i=>i<=g.toNat) (fun i=>g.toNat-i) 0 rfl rfl (Nat.zero_le _) ?_
  intro i hi
  repeat'(first|refine ruS Y ?_|refine isS Y ?_|refine rkS Y ?_|(refine cm0 Y Y Y ?_ ?_<;>intro _<;>try omega)|refine ZL Y Y (by omega) ?_|refine ZBS Y Y (by omega) ?_|refine Zjr Y Y (by omega) ?_|refine Zz Y Y Y Y ?_|refine X5 Y Y Y (by first|rfl|(simp;done)|(simp;omega)) (by first|omega|(simp<;>omega)) (by decide) rfl rfl rfl ?_)
  ·refine⟨i+1,⟨rfl,?_⟩,by omega,by omega⟩
   rw[List.range_succ,List.map_append]
   have:n / g+1=Ju n g i:=by unfold Ju;rw[if_pos (by assumption)]
   rw[this];rfl
  ·refine⟨i+1,⟨rfl,?_⟩,by omega,by omega⟩
   rw[List.range_succ,List.map_append]
   have:n / g=Ju n g i:=by unfold Ju;rw[if_neg (by omega)];omega
   rw[this];rfl
  ·refine Qu hA (by simp) Y Y (by simp) (by first|(simp[imm];done)|exact fun _ h=>absurd h (by simp)) ?_
   unfold ZGI XA;rw[if_neg hz,hG]
   have:i=g.toNat:=by omega
   rw[this]
   simp[Function.comp_def]
theorem ZwF(n most:Int)(st:St)(h:0<=n/\n<=65536/\1<=most):S Tb ZIk [.int .i64 n,.int .i64 most] st=some (.tup [ZGI (XA n most),.int .i64 0],st):=by
 refine Zj Y (fun A hA=>?_)
 repeat'(first|refine ruS Y ?_|refine isS Y ?_|refine rkS Y ?_|(refine cm0 Y Y Y ?_ ?_<;>intro _<;>try omega)|refine ZA Y Y Y (ZqW n most _ (by omega) (by omega)) ?_)
 all_goals refine ZO hA (by simp) Y Y Y Y ?_
 all_goals rfl
def ZTR(l:List B8):AV:=.lit (l.map .str)
abbrev Xn(s:B8):Prop:=1<=s.length/\s.length<=16
theorem ZpP(s:B8)(st:St):S Tb ZAl [.str s] st=some (.bool (decide (Xn s)),st):=by
 refine Zj Y (fun A hA=>?_)
 repeat'(first|refine ruS Y ?_|refine isS Y ?_|refine rkS Y ?_|refine Qf Y ?_|(refine cm0 Y Y Y ?_ ?_<;>intro _<;>try omega))
 all_goals refine ZAd hA (by simp) Y Y ?_
 all_goals (simp;omega)
noncomputable def ZpQ(s:B8)(k:Int):AV :=
 open Classical in
 if Xn s then if k<0\/s.length<k then .tup [.str [],.str [],.int .i64 3] else .tup [.str (s.take k.toNat),.str (s.drop k.toNat),.int .i64 0]
 else .tup [.str [],.str [],.int .i64 2]
theorem ZqX{s:B8}{k:Int}(h:Xn s)(h1:0<=k/\k<=s.length):.tup [.str (s.take k.toNat),.str (s.drop k.toNat),.int .i64 0]=ZpQ s k:=by
 unfold ZpQ;rw[if_pos h,if_neg (by omega)]
theorem ZpR{s:B8}{k:Int}(h:Xn s)(h1:k<0\/s.length<k):.tup [.str [],.str [],.int .i64 3]=ZpQ s k:=by
 unfold ZpQ;rw[if_pos h,if_pos h1]
theorem Zto{s:B8}{k:Int}(h:¬ Xn s):.tup [.str [],.str [],.int .i64 2]=ZpQ s k:=by
 unfold ZpQ;rw[if_neg h]
theorem Zxv(s:B8)(k:Int)(st:St):S Tb ZOR [.str s,.int .i64 k] st=some (ZpQ s k,st):=by
 refine Zj Y (fun A hA=>?_)
 repeat'(first|refine ruS Y ?_|refine isS Y ?_|refine rkS Y ?_|refine Qf Y ?_|(refine cm0 Y Y Y ?_ ?_<;>intro _<;>try omega)|refine ZBF Y Y (by omega) ?_|refine ZBG Y Y (by omega) ?_|(refine ZON Y Y Y (ZpP s _) (fun _=>?_) (fun _=>?_)))
 all_goals refine ZO hA (by simp) Y Y Y Y ?_
 all_goals first|(exact ZqX (by assumption) (by omega))|(exact ZpR (by assumption) (by omega))|(exact Zto (by assumption))
noncomputable def XH(a b:B8):List B8 :=
 if a.length+b.length<=16 then [a++b]
 else if 8<=a.length/\8<=b.length then [a,b]
 else [(a++b).take ((a.length+b.length+1) / 2),(a++b).drop ((a.length+b.length+1) / 2)]
theorem Zi3{a b:B8}(h:a.length+b.length<=16):XH a b=[a++b]:=by unfold XH;rw[if_pos h]
theorem Zi4{a b:B8}(h:¬ a.length+b.length<=16)(h1:8<=a.length/\8<=b.length):XH a b=[a,b]:=by unfold XH;rw[if_neg h,if_pos h1]
theorem ZfZ{a b:B8}(h:¬ a.length+b.length<=16)(h1:¬ (8<=a.length/\8<=b.length)):XH a b=[(a++b).take ((a.length+b.length+1) / 2),(a++b).drop ((a.length+b.length+1) / 2)]:=by unfold XH;rw[if_neg h,if_neg h1]
theorem ZqY(a b:B8):((((a++b).length:Int)+1) / 2).toNat=(a.length+b.length+1) / 2:=by
 rw[List.length_append];omega
theorem ZwG(a b:B8)(st:St)(ha:Xn a)(hb:Xn b):S Tb ZIm [.str a,.str b] st=some (.tup [ZTR (XH a b),.int .i64 0],st):=by
 have hab:((a++b).length:Int)=a.length+b.length:=by rw[List.length_append];omega
 refine Zj Y (fun A hA=>?_)
 repeat'(first|refine ruS Y ?_|refine isS Y ?_|refine rkS Y ?_|refine Qf Y ?_|(refine cm0 Y Y Y ?_ ?_<;>intro _<;>try omega)|refine ZL Y Y (by omega) ?_|refine ZBS Y Y (by omega) ?_|refine Zon Y Y (by omega) ?_|refine ZBF Y Y (by omega) ?_|refine ZBG Y Y (by omega) ?_|refine Zz Y Y Y Y ?_|(refine ZON Y Y Y (ZpP a _) (fun _=>?_) (fun _=>?_))|(refine ZON Y Y Y (ZpP b _) (fun _=>?_) (fun _=>?_)))
 all_goals try contradiction
 all_goals refine ZO hA (by simp) Y Y Y Y ?_
 ·rw[Zi3 (by omega)];rfl
 ·rw[Zi4 (by omega) (by omega)];rfl
 all_goals rw[ZfZ (by omega) (by omega),ZqY];rfl
def ZAb(n g:Int)(i:Nat):Int:=(i:Int)*(n / g)+min (i:Int) (n % g)
theorem ZBN(n g:Int)(i:Nat):ZAb n g (i+1)=ZAb n g i+Ju n g i:=by
 unfold ZAb Ju
 have e:((i+1:Nat):Int)*(n / g)=(i:Int)*(n / g)+n / g:=by rw[Int.natCast_add,Int.add_mul];simp
 rw[e]
 split<;>omega
theorem ZC0(n g:Int)(h:0<g):ZAb n g 0=0:=by
 have:=Int.emod_nonneg n (show g≠0 by omega)
 unfold ZAb;simp;omega
theorem ZnI(n:Int)(g:Int)(h:0<g):ZAb n g g.toNat=n:=by
 have h1:=Int.emod_lt_of_pos n h;have h2:=Int.mul_ediv_add_emod n g;unfold ZAb
 rw[Int.toNat_of_nonneg (by omega)];omega
theorem Ys{n:Int}(h:0<=n)(h1:0<g)(i:Nat):0<=Ju n g i:=by
 have:=Int.ediv_nonneg h (show 0<=g by omega)
 unfold Ju;split<;>omega
theorem Zi5{n:Int}(h:0<=n)(h1:0<g)(hij:i<=j):ZAb n g i<=ZAb n g j:=by
 induction j with
 | zero=>rw[Nat.le_zero.1 hij];exact Int.le_refl _
 | succ j ih =>
  rcases Nat.lt_or_ge i (j+1) with q|q
  ·have:=ih (by omega)
   have:=Ys (n:=n) (g:=g) h h1 j
   rw[ZBN];omega
  ·rw[show i=j+1 by omega];exact Int.le_refl _
theorem XY{n:Int}(h:0<=n)(h1:0<g)(hi:i<=g.toNat):0<=ZAb n g i/\ZAb n g i<=n:=by
 have a:=Zi5 h h1 (Nat.zero_le i);have b:=Zi5 h h1 hi;rw[ZC0 n g h1]at a;rw[ZnI n g h1]at b;exact⟨a,b⟩
def ZKz(s:B8)(g:Int)(i:Nat):B8:=(s.drop (ZAb s.length g i).toNat).take (Ju s.length g i).toNat
def JC(s:B8):List B8:=if s.length=0 then [] else (List.range (ZW s.length 16).toNat).map (ZKz s (ZW s.length 16))
theorem ZK0{n m:Int}(hn:n≠0)(hi:i<(ZW n m).toNat):(XA n m)[i]?=some (Ju n (ZW n m) i):=by
 unfold XA;rw[if_neg hn,jG,List.getElem?_range hi];rfl
theorem ZK1{n m:Int}(hn:n≠0):(XA n m).length=(ZW n m).toNat:=by
 unfold XA;rw[if_neg hn];simp
theorem ZZU(m:Int):XA 0 m=[]:=by unfold XA;simp
theorem Ztp(s:B8)(st:St)(hs:s.length<2147483648):S Tb ZDL [.str s] st=some (ZTR (JC s),st):=by
 refine Zj Y (fun A hA=>?_)
 repeat'(first|refine ruS Y ?_|refine isS Y ?_|refine ZX ?_|refine Qf Y ?_|refine Zi Y ?_|refine QN Y ?_|refine ZA Y Y Y (ZqW s.length 16 _ (by omega) (by omega)) ?_)
 by_cases hz:s.length=0
 ·rw[show ((s.length:Int))=0 by omega]
  refine Zjq (fun _ e st=>e=[(0,.str s),(3,.ref A.length 0 0 0 0),(8,ZGI []),(9,.int .i64 0),(10,.int .i64 0)]/\st=⟨A,false,[.arr 1 0 []]⟩) 0 ?_ ?_
  ·rw[ZZU];exact⟨rfl,rfl⟩
  rintro n e st' ⟨rfl,rfl⟩
  repeat'(first|refine ruS Y ?_|refine isS Y ?_|refine rkS Y ?_|(refine cm0 Y Y Y ?_ ?_<;>intro _<;>try omega))
  refine Qu hA (by simp) Y Y (by simp) (by first|(simp[imm];done)|exact fun _ h=>absurd h (by simp)) ?_
  unfold JC;rw[if_pos hz];rfl
 have hp:=Jv (n:=s.length) (most:=16) (by omega) (by omega)
 have hlen:=ZK1 (n:=s.length) (m:=16) (by omega)
 have hget:=fun i hi=>ZK0 (n:=s.length) (m:=16) (by omega) (i:=i) hi
 have hpb:=fun (i:Nat) hi=>XY (n:=s.length) (g:=ZW s.length 16) (by omega) (by omega) (i:=i) hi
 have hps:=ZBN s.length (ZW s.length 16)
 have hsn:=Ys (n:=s.length) (g:=ZW s.length 16) (by omega) (by omega)
 have hp0:=ZC0 s.length (ZW s.length 16) (by omega)
 have hL:JC s=(List.range (ZW s.length 16).toNat).map (ZKz s (ZW s.length 16)):=by unfold JC;rw[if_neg hz]
 have hG:∀i,(s.drop (ZAb s.length (ZW s.length 16) i).toNat).take (Ju s.length (ZW s.length 16) i).toNat=ZKz s (ZW s.length 16) i:=fun _=>rfl
 rw[hlen,hL]
 generalize XA (s.length:Int) 16=l at *
 generalize ZW (s.length:Int) 16=g at *
 refine Zc (α:=Nat) (fun i=>[(0,.str (s.drop (ZAb s.length g i).toNat)),(3,.ref A.length 0 i 0 i),(8,ZGI l),(9,.int .i64 g.toNat),(10,.int .i64 i)])
  (fun i=>⟨A,false,[.arr 1 i ((List.range i).map fun j=>.str (ZKz s g j))]⟩)
  (fun i=>i<=g.toNat) (fun i=>g.toNat-i) 0 ?_ rfl (Nat.zero_le _) ?_
 ·rw[hp0];rfl
 intro i hi;have hb:=hpb i hi
 have hdl:(s.drop (ZAb s.length g i).toNat).length=s.length-(ZAb s.length g i).toNat:=List.length_drop ..
 repeat'(first|refine ruS Y ?_|refine isS Y ?_|refine rkS Y ?_|refine Zk Y Y ?_|refine QY Y Y (by omega) (fun _=>rfl) (fun _ _=>?_)|(refine cm0 Y Y Y ?_ ?_<;>intro _<;>try omega))
 ·rename_i hlt x hx
  rw[Int.toNat_natCast,hget i (by omega)]at hx
  have hx':=Option.some.inj hx;subst hx'
  have hb1:=hpb (i+1) (by omega)
  have hsi:=hsn i;rw[hps i]at hb1
  repeat'(first|refine Qp ?_|refine isS Y ?_|refine rkS Y ?_|refine ZL Y Y (by omega) ?_|refine ZBF Y Y (by omega) ?_|refine ZBG Y Y (by omega) ?_|refine Zz Y Y Y Y ?_|refine X5 Y Y Y (by first|rfl|(simp;done)|(simp;omega)) (by first|omega|(simp<;>omega)) (by decide) rfl rfl rfl ?_)
  refine⟨i+1,⟨?_,?_⟩,by omega,by omega⟩
  ·rw[hps i,Int.toNat_add hb.1 hsi,<- List.drop_drop];rfl
  ·rw[List.range_succ,List.map_append,hG];rfl
 ·have hi':i=g.toNat:=by omega
  rw[hi']
  refine Qu hA (by simp) Y Y (by simp) (by first|(simp[imm];done)|exact fun _ h=>absurd h (by simp)) ?_
  unfold ZTR;rw[List.map_map];rfl
theorem ZnJ(s:B8)(st:St)(hs:s.length<2147483648):S Tb XT [.str s] st=some (ZTR (JC s),st):=by
 refine Zj Y (fun A hA=>?_)
 repeat'(first|refine ruS Y ?_|refine isS Y ?_|refine ZX ?_|refine Qf Y ?_|refine QN Y ?_|refine ZA Y Y Y (ZfY s.length 16 _ (by omega) (by omega)) ?_)
 by_cases hz:s.length=0
 ·rw[show ((s.length:Int))=0 by omega]
  refine Zjq (fun _ e st=>e=[(0,.str s),(3,.ref A.length 0 0 0 0),(4,ZGI []),(5,.int .i64 0)]/\st=⟨A,false,[.arr 1 0 []]⟩) 0 ?_ ?_
  ·rw[ZZU];exact⟨rfl,rfl⟩
  rintro n e st' ⟨rfl,rfl⟩
  have hnil:(([]:List Int).length:Int)=0:=rfl
  repeat'(first|refine ruS Y ?_|refine isS Y ?_|refine rkS Y ?_|refine Qg Y Y ?_|(refine cm0 Y Y Y ?_ ?_<;>intro _<;>try omega))
  refine Qu hA (by simp) Y Y (by simp) (by first|(simp[imm];done)|exact fun _ h=>absurd h (by simp)) ?_
  unfold JC;rw[if_pos hz];rfl
 have hp:=Jv (n:=s.length) (most:=16) (by omega) (by omega)
 have hlen:=ZK1 (n:=s.length) (m:=16) (by omega)
 have hget:=fun i hi=>ZK0 (n:=s.length) (m:=16) (by omega) (i:=i) hi
 have hpb:=fun (i:Nat) hi=>XY (n:=s.length) (g:=ZW s.length 16) (by omega) (by omega) (i:=i) hi
 have hps:=ZBN s.length (ZW s.length 16)
 have hsn:=Ys (n:=s.length) (g:=ZW s.length 16) (by omega) (by omega)
 have hp0:=ZC0 s.length (ZW s.length 16) (by omega)
 have hL:JC s=(List.range (ZW s.length 16).toNat).map (ZKz s (ZW s.length 16)):=by unfold JC;rw[if_neg hz]
 have hG:∀i,(s.drop (ZAb s.length (ZW s.length 16) i).toNat).take (Ju s.length (ZW s.length 16) i).toNat=ZKz s (ZW s.length 16) i:=fun _=>rfl
 rw[hL]
 generalize XA (s.length:Int) 16=l at *
 generalize ZW (s.length:Int) 16=g at *
 refine Zc (α:=Nat) (fun i=>[(0,.str (s.drop (ZAb s.length g i).toNat)),(3,.ref A.length 0 i 0 i),(4,ZGI l),(5,.int .i64 i)])
  (fun i=>⟨A,false,[.arr 1 i ((List.range i).map fun j=>.str (ZKz s g j))]⟩)
  (fun i=>i<=g.toNat) (fun i=>g.toNat-i) 0 ?_ rfl (Nat.zero_le _) ?_
 ·rw[hp0];rfl
 intro i hi;have hb:=hpb i hi
 have hdl:(s.drop (ZAb s.length g i).toNat).length=s.length-(ZAb s.length g i).toNat:=List.length_drop ..
 repeat'(first|refine ruS Y ?_|refine isS Y ?_|refine rkS Y ?_|refine Zi Y ?_|refine Zk Y Y ?_|refine QY Y Y (by omega) (fun _=>rfl) (fun _ _=>?_)|(refine cm0 Y Y Y ?_ ?_<;>intro _<;>try omega))
 ·rename_i hlt x hx
  rw[Int.toNat_natCast,hget i (by omega)]at hx
  have hx':=Option.some.inj hx;subst hx'
  have hb1:=hpb (i+1) (by omega)
  have hsi:=hsn i;rw[hps i]at hb1
  repeat'(first|refine Qp ?_|refine isS Y ?_|refine ZX ?_|refine Zk Y Y ?_|refine QY Y Y (by omega) (fun _=>rfl) (fun _ _=>?_)|refine ZBF Y Y (by omega) ?_|refine Zz Y Y Y Y ?_|refine X5 Y Y Y (by first|rfl|(simp;done)|(simp;omega)) (by first|omega|(simp<;>omega)) (by decide) rfl rfl rfl ?_)
  rename_i y hy
  rw[Int.toNat_natCast,hget i (by omega)]at hy
  have hy':=Option.some.inj hy;subst hy'
  repeat'(first|refine Qp ?_|refine isS Y ?_|refine rkS Y ?_|refine ZL Y Y (by omega) ?_|refine ZBG Y Y (by omega) ?_)
  refine⟨i+1,⟨?_,?_⟩,by omega,by omega⟩
  ·rw[hps i,Int.toNat_add hb.1 hsi,<- List.drop_drop];rfl
  ·rw[List.range_succ,List.map_append,hG];rfl
 ·have hi':i=g.toNat:=by omega
  rw[hi']
  refine Qu hA (by simp) Y Y (by simp) (by first|(simp[imm];done)|exact fun _ h=>absurd h (by simp)) ?_
  unfold ZTR;rw[List.map_map];rfl
theorem ZYv(n:Nat)(t:Tr):imm (n+2) t.av=true:=by
 obtain⟨o,h,m,s,k⟩:=t
 cases k<;>rfl
theorem ZRC(l:List Tr):∀v,v∈l.map Tr.av->imm (n+2) v=true:=by
 intro v hv;obtain⟨t,_,rfl⟩:=List.mem_map.1 hv;exact ZYv n t
def QB(N:ZF):Tr->B8
 | .mk o _ _ s _=>if o=0 then s else ((lk N o).map Nd.text).getD []
def YD(h:Nat)(k:Kid):Tr:=.mk k.at_ h k.m [] none
def Zh(N:ZF):Tr->List Tr
 | .mk o _ _ _ k=>if o=0 then k.getD [] else match lk N o with
  | some x=>x.ks.map (YD (x.h-1))
  | none=>[]
theorem ZlN{lv:Nat}{N:ZF}(hr:Rd st lv ix N)(hv:Val N t):S Tb ZAT [.ptr lv ix 0 0 0,t.av] st=some (.tup [.str (QB N t),.int .i64 0],st):=by
 refine Zj Y (fun A hA=>?_)
 cases hv with
 | kept h0 hx hok hh hm hk =>
  rename_i o h m k x
  have hG:=fun L=>ZqU (hr.push hA (ro:=false) (L:=L)) hx hok.len
  have hl:QB N (.mk o h m [] k)=x.text:=by simp only[QB,if_neg h0,hx,Option.map_some,Option.getD_some]
  rw[hl];have hc:x.copy.text=x.text:=rfl;rw[<- hc]
  generalize x.copy=y at *
  obtain⟨yh,yt,yk⟩:=y
  cases k
  all_goals cases yk
  all_goals simp only[Tr.av,Tr.avO,Tr.avL_map,Nd.av,slV]at *
  all_goals repeat'(first|refine ruS Y ?_|refine isS Y ?_|refine ZB Y Y Y Y ?_|refine rkS Y ?_|(refine cm0 Y Y Y ?_ ?_<;>intro _<;>try omega)|refine ZJ Y Y Y ?_|refine Ze Y Y Y Y Y Y ?_|refine ZA Y Y (by first|rfl|(simp only[List.nil_append,List.append_nil,List.cons_append,ZH,ZC,ZE];first|done|rfl)) (hG _) ?_)
  all_goals try omega
  all_goals refine ZO hA (by simp) Y Y Y Y ?_
  all_goals rfl
 | leaf h1 h2 hk =>
  rename_i s k
  have hl:QB N (.mk 0 0 .zero s k)=s:=rfl;rw[hl]
  cases k
  all_goals simp only[Tr.av,Tr.avO,Tr.avL_map]at *
  all_goals repeat'(first|refine ruS Y ?_|refine isS Y ?_|refine ZB Y Y Y Y ?_|refine rkS Y ?_|(refine cm0 Y Y Y ?_ ?_<;>intro _<;>try omega)|refine ZJ Y Y Y ?_)
  all_goals try omega
  all_goals refine ZO hA (by simp) Y Y Y Y ?_
  all_goals rfl
 | inner hh h2 h4 hl hb hv =>
  rename_i h l
  have hl:QB N (.mk 0 (h+1) .zero [] (some l))=[]:=rfl;rw[hl]
  simp only[Tr.av,Tr.avO,Tr.avL_map]at *
  repeat'(first|refine ruS Y ?_|refine isS Y ?_|refine ZB Y Y Y Y ?_|refine rkS Y ?_|(refine cm0 Y Y Y ?_ ?_<;>intro _<;>try omega)|refine ZJ Y Y Y ?_)
  all_goals try omega
  all_goals refine ZO hA (by simp) Y Y Y Y ?_
  all_goals rfl
theorem ZBO{lv:Nat}{N:ZF}(hr:Rd st lv ix N)(hv:Val N t)(hge:1<=t.h):S Tb J7 [.ptr lv ix 0 0 0,t.av] st=some (.tup [.lit ((Zh N t).map Tr.av),.int .i64 0],st):=by
 refine Zj Y (fun A hA=>?_)
 cases hv with
 | kept h0 hx hok hh hm hk =>
  rename_i o h m k x
  have hin:∃n ks,InnerOk x n ks:=by
   rcases hok with q|q
   ·have:=q.h
    simp only[Tr.h]at hge;omega
   ·exact q
  obtain⟨n,ks,hin⟩:=hin;have hx0:=hin.eq;subst hx0
  have hG:=fun L=>ZqU (hr.push hA (ro:=false) (L:=L)) hx hok.len
  have hl:Zh N (.mk o h m [] k)=ks.map (YD n):=by simp only[Zh,if_neg h0,hx];rfl
  have hks:=hin.hi;have hks2:=hin.lo;have hn:=hin.n15;rw[hl];simp only[Nd.copy,Nd.ks,Option.getD,Nd.av,slV]at hG
  have key:∀k Q (B0 B1:Blk) (hb1:B1=.arr 3 0 [.agg [.int .i64 ((n+1:Nat):Int),.str [],.lit (ks.map Kid.av)]]),
   (∀G,Rk (S Tb) k Q (.ex 0) [(6,.ptr A.length 1 0 0 0),(8,.ref A.length 2 ks.length 0 ks.length),(27,.lit (ks.map Kid.av)),(28,.int .i64 ks.length),(29,.int .i64 ks.length),(30,.bool false)] ⟨A,false,B0::B1::.arr 7 ks.length ((ks.map (YD n)).map Tr.av)::G⟩) ->
   Ru (S Tb) (.loop ZEf) k Q [(6,.ptr A.length 1 0 0 0),(8,.ref A.length 2 0 0 0),(27,.lit (ks.map Kid.av)),(28,.int .i64 ks.length),(29,.int .i64 0)] ⟨A,false,[B0,B1,.arr 7 0 []]⟩:=by
   rintro k Q B0 B1 rfl hex
   refine Zc (α:=Nat × List Blk) (fun p=>[(6,.ptr A.length 1 0 0 0),(8,.ref A.length 2 p.1 0 p.1),(27,.lit (ks.map Kid.av)),(28,.int .i64 ks.length),(29,.int .i64 p.1)])
    (fun p=>⟨A,false,B0::.arr 3 0 [.agg [.int .i64 ((n+1:Nat):Int),.str [],.lit (ks.map Kid.av)]]::.arr 7 p.1 ((ks.take p.1).map fun k=>(YD n k).av)::p.2⟩) (fun p=>p.1<=ks.length) (fun p=>ks.length-p.1) (0,[]) rfl rfl (by simp) ?_
   rintro⟨i,G⟩ hi
   simp only at hi ⊢
   repeat'(first|refine ruS Y ?_|refine isS Y ?_|refine ZB Y Y Y Y ?_|refine rkS Y ?_|refine Z5 Y Y Y ?_|refine Zk Y Y ?_|refine QY Y Y (by omega) (fun _=>rfl) (fun _ _=>?_)|(refine cm0 Y Y Y ?_ ?_<;>intro _<;>try omega)|refine ZL Y Y (by omega) ?_|refine QC Y Y (by omega) ?_|refine ZZ Y Y Y ?_|refine Za Y Y Y ?_|refine J5 Y Y Y Y Y Y ?_|refine Zz Y Y Y Y ?_|refine ZDI Y Y Y (by first|rfl|(simp;done)|(simp;omega)) (by first|omega|(simp<;>omega)) (by decide) rfl rfl ?_)
   ·rename_i kd hkd
    have hk2:ks[i]?=some kd:=hkd
    refine⟨(i+1,G++[.arr 4 0 [kd.av]]),⟨rfl,?_⟩,by simp only;omega,by simp only;omega⟩
    simp only[ZU hk2,List.map_append,jC,List.map_nil]
    rw[show ((n+1:Nat):Int)-1=(n:Int) by omega]
    rfl
   ·have hi':i=ks.length:=by omega
    subst hi'
    have:=hex G
    rw[List.map_map]at this;rw[List.take_length];exact this
  cases k
  all_goals simp only[Tr.av,Tr.avO,Tr.avL_map]at *
  all_goals repeat'(first|refine ruS Y ?_|refine isS Y ?_|refine ZB Y Y Y Y ?_|refine ZX ?_|refine Zi Y ?_|(refine cm0 Y Y Y ?_ ?_<;>intro _<;>try omega)|(refine cm0 Y Y Y ?_ ?_<;>intro _<;>try omega)|refine ZJ Y Y Y ?_|refine Ze Y Y Y Y Y Y ?_|refine QN Y ?_|refine ZA Y Y (by first|rfl|(simp only[List.nil_append,List.append_nil,List.cons_append,ZH,ZC,ZE];first|done|rfl)) (hG _) ?_)
  all_goals try omega
  all_goals refine key _ _ _ _ Y (fun G=>?_)
  all_goals repeat'(first|refine ruS Y ?_|refine isS Y ?_|refine rkS Y ?_|refine Zp Y ?_|(refine cm0 Y Y Y ?_ ?_<;>intro _<;>try omega))
  all_goals refine ZdD hA (.inr Y) Y Y (by simp) (ZRC _) Y Y
 | leaf h1 h2 hk=>simp[Tr.h]at hge
 | inner hh h2 h4 hl hb hv =>
  rename_i h l
  have hl:Zh N (.mk 0 (h+1) .zero [] (some l))=l:=rfl;rw[hl]
  simp only[Tr.av,Tr.avO,Tr.avL_map]at *
  repeat'(first|refine ruS Y ?_|refine isS Y ?_|refine ZB Y Y Y Y ?_|refine rkS Y ?_|(refine cm0 Y Y Y ?_ ?_<;>intro _<;>try omega)|refine ZJ Y Y Y ?_)
  all_goals try omega
  all_goals refine ZO hA (by simp) Y Y Y Y ?_
  all_goals rfl
def Qk(s:B8):Tr:=.mk 0 0 .zero s none
noncomputable def ZCo(N:ZF)(x y:Tr):List Tr :=
 if 16<x.bytes+y.bytes/\8<=x.bytes/\8<=y.bytes then [x,y] else (XH (QB N x) (QB N y)).map Qk
theorem Val.line{N:ZF}(hv:Val N t)(h:t.h=0):((QB N t).length:Int)=t.bytes/\Xn (QB N t):=by
 cases hv with
 | kept h0 hx hok hh hm hk =>
  rename_i o h m k x
  simp only[Tr.h]at h;subst h
  rcases hok with q|⟨n,ks,q⟩
  ·have hl:QB N (.mk o 0 m [] k)=x.text:=by simp only[QB,if_neg h0,hx,Option.map_some,Option.getD_some]
   have h1:=q.lo;have h2:=q.hi;rw[hl,Tr.bytes,Tr.bytesO_getD,hk,<- hm];unfold Nd.mea;rw[if_pos hh];refine⟨?_,h1,h2⟩
   simp[ZAz,Tr.bytesL]
  ·have:=q.eq
   subst this
   simp at hh
 | leaf h1 h2 hk =>
  refine⟨?_,h1,h2⟩;rw[Tr.bytes,Tr.bytesO_getD,hk]
  simp[QB,Tr.bytesL,Mea.zero]
 | inner hh h2 h4 hl hb hv=>simp[Tr.h]at h
theorem Zi6(a b:B8):(XH a b).length<=2:=by
 unfold XH;split<;>(try split)<;>simp
section
variable {O:Orc}{k:List Fr}{Q:Qn}{e:Env}{A:List (Bool × List Blk)}{L:List Blk}{keep:List Nat}{is:List PI}{d:Nat}
abbrev trZ:AV:=.agg [.int .u64 0,.int .i64 0,.int .i64 0,.int .i64 0,.int .i64 0,.str [],.nils]
theorem Y4{x:Tr}(ha:ZY e a=some x.av)(h:Is O is keep k Q ((d,.lit ([x].map Tr.av))::e) st):Is O (⟨some d,none,false,.bslice false 7 [trZ] [(0,a)]⟩::is) keep k Q e st:=by
 refine Zjs (r:=(.lit ([x].map Tr.av),st)) (qs:=[(0,x.av)]) (es:=[x].map Tr.av) ?_ ?_ ?_ h
 ·simp only[JU,ZD ha]
 ·simp only[fillE,ZQ,List.length_singleton,Nat.lt_succ_self,and_self,if_true,List.set_cons_zero,jC,List.map_nil]
 ·show (mapSt (Zb QK 0) st ([x].map Tr.av)).bind ZjK=_
  rw[ZWo];rfl
theorem ZAY{b:Opd}{x y:Tr}(ha:ZY e a=some x.av)(hb:ZY e b=some y.av)(h:Is O is keep k Q ((d,.lit ([x,y].map Tr.av))::e) st):Is O (⟨some d,none,false,.bslice false 7 [trZ,trZ] [(0,a),(1,b)]⟩::is) keep k Q e st:=by
 refine Zjs (r:=(.lit ([x,y].map Tr.av),st)) (qs:=[(0,x.av),(1,y.av)]) (es:=[x,y].map Tr.av) ?_ ?_ ?_ h
 ·simp only[JU,ZD ha,ZD hb]
 ·simp only[fillE,ZQ,List.length_cons,List.length_nil,List.length_set,true_and]
  rfl
 ·show (mapSt (Zb QK 0) st ([x,y].map Tr.av)).bind ZjK=_
  rw[ZWo];rfl
end
theorem wk1(t:Tr):ZE (ZH ([]++[t.av]++[]))=some [t.av]:=by
 simp only[List.nil_append,List.append_nil,ZH,ZC,ZE]
theorem Ztq{lv:Nat}{N:ZF}(hr:Rd st lv ix N){x y:Tr}(hx:Val N x)(hy:Val N y)(h1:x.h=0)(h2:y.h=0):
 S Tb ZGS [.ptr lv ix 0 0 0,x.av,y.av] st=some (.tup [.lit ((ZCo N x y).map Tr.av),.int .i64 0],st):=by
 refine Zj Y (fun A hA=>?_)
 have hbx:=hx.bytes_h0 h1;have hby:=hy.bytes_h0 h2;have hpx:=hx.pos.2;have hpy:=hy.pos.2
 have hB1:=fun st=>X9 x hx.pos.1 (by omega) st
 have hB2:=fun st=>X9 y hy.pos.1 (by omega) st
 have hL1:=fun L=>ZlN (hr.push hA (ro:=false) (L:=L)) hx
 have hL2:=fun L=>ZlN (hr.push hA (ro:=false) (L:=L)) hy
 have hj:=fun st=>ZwG (QB N x) (QB N y) st (hx.line h1).2 (hy.line h2).2
 have hjl:=Zi6 (QB N x) (QB N y)
 have hm:ZCo N x y=if 16<x.bytes+y.bytes/\8<=x.bytes/\8<=y.bytes then [x,y] else (XH (QB N x) (QB N y)).map Qk:=rfl
 generalize ZCo N x y=r at *
 generalize XH (QB N x) (QB N y)=j at *
 unfold ZTR at hj
 have key:∀k Q (B0 B1:Blk),
  (∀G,Rk (S Tb) k Q (.ex 0) [(14,.ref A.length 2 j.length 0 j.length),(63,.lit (j.map .str)),(64,.int .i64 j.length),(65,.int .i64 j.length),(66,.bool false)] ⟨A,false,B0::B1::.arr 7 j.length ((j.map Qk).map Tr.av)::G⟩) ->
  Ru (S Tb) (.loop ZII) k Q [(14,.ref A.length 2 0 0 0),(63,.lit (j.map .str)),(64,.int .i64 j.length),(65,.int .i64 0)] ⟨A,false,[B0,B1,.arr 7 0 []]⟩:=by
  rintro k Q B0 B1 hex
  refine Zc (α:=Nat) (fun i=>[(14,.ref A.length 2 i 0 i),(63,.lit (j.map .str)),(64,.int .i64 j.length),(65,.int .i64 i)])
   (fun i=>⟨A,false,[B0,B1,.arr 7 i ((j.take i).map fun s=>(Qk s).av)]⟩) (fun i=>i<=j.length) (fun i=>j.length-i) 0 rfl rfl (by simp) ?_
  rintro i hi
  repeat'(first|refine ruS Y ?_|refine isS Y ?_|refine rkS Y ?_|refine Zk Y Y ?_|refine QY Y Y (by omega) (fun _=>rfl) (fun _ _=>?_)|(refine cm0 Y Y Y ?_ ?_<;>intro _<;>try omega)|refine ZL Y Y (by omega) ?_|refine ZZ Y Y Y ?_|refine Zz Y Y Y Y ?_|refine X5 Y Y Y (by first|rfl|(simp;done)|(simp;omega)) (by first|omega|(simp<;>omega)) (by decide) rfl rfl rfl ?_)
  ·rename_i s hs
   have hs2:j[i]?=some s:=hs
   refine⟨i+1,⟨rfl,?_⟩,by omega,by omega⟩
   simp only[ZU hs2,List.map_append,jC,List.map_nil];rfl
  ·have hi':i=j.length:=by omega
   subst hi'
   have:=hex []
   rw[List.map_map]at this;rw[List.take_length];exact this
 repeat'(first|refine ruS Y ?_|refine isS Y ?_|refine rkS Y ?_|refine Zi Y ?_|(refine cm0 Y Y Y ?_ ?_<;>intro _<;>try omega)|(refine cm0 Y Y Y ?_ ?_<;>intro _<;>try omega)|(refine cm0 Y Y Y ?_ ?_<;>intro _<;>try omega)|refine ZL Y Y (by omega) ?_|refine QN Y ?_|refine Z5 Y Y (ZG _) ?_|refine ZB Y Y Y (ZG _) ?_|refine Za Y (ZQ _) (Zg _) ?_|refine Zw Y Y (wk1 _) (hB1 _) ?_|refine ZA Y Y (by first|rfl|(simp only[List.nil_append,List.append_nil,List.cons_append,ZH,ZC,ZE];first|done|rfl)) (hB2 _) ?_|refine ZA Y Y (by first|rfl|(simp only[List.nil_append,List.append_nil,List.cons_append,ZH,ZC,ZE];first|done|rfl)) (hL1 _) ?_|refine ZA Y Y (by first|rfl|(simp only[List.nil_append,List.append_nil,List.cons_append,ZH,ZC,ZE];first|done|rfl)) (hL2 _) ?_|refine ZA Y Y (by first|rfl|(simp only[List.nil_append,List.append_nil,List.cons_append,ZH,ZC,ZE];first|done|rfl)) (hj _) ?_|refine ZAY Y Y ?_)
 ·refine ZO hA (by simp) Y Y Y Y ?_
  rw[hm,if_pos ⟨by omega,by omega,by omega⟩]
 all_goals refine key _ _ _ _ (fun G=>?_)
 all_goals repeat'(first|refine ruS Y ?_|refine isS Y ?_|refine rkS Y ?_)
 all_goals refine ZdD hA (.inr Y) Y Y (by simp) (ZRC _) Y ?_
 all_goals rw[hm,if_neg (by omega)]
def ZA6(l:List Tr):List Tr :=
 if l.length<=4 then [grp l] else [grp (l.take ((l.length+1) / 2)),grp (l.drop ((l.length+1) / 2))]
theorem Sl.allRo{l:List Tr}(h:Sl st v l):Sl st.allRo v l:=by
 cases h with
 | lit l=>exact .lit l
 | ref hg hn hl he =>
  refine .ref ?_ hn hl he
  rename_i lv ix ver s n es
  rw[<- hg];unfold St.allRo St.get;simp only[List.length_map]
  split
  ·rfl
  ·rw[jG]
   cases st.A[lv]?<;>rfl
theorem Ztr{l:List Tr}(hl:l.length<=8)(hh:∀t∈l,t.h<=65536)(hv:Sl st v l):S Tb ZF7 [v] st=some (.lit ((ZA6 l).map Tr.av),st):=by
 refine Zj Y (fun A hA=>?_)
 have hv2:=fun L=>hv.push hA (ro:=false) (L:=L)
 have hwv:=hv.weak
 have hG:=fun L=>ZAA (by omega) hh (hv2 L)
 have hk:(((l.length:Int)+1) / 2).toNat=(l.length+1) / 2:=by omega
 have h1:∀t∈l.take ((l.length+1) / 2),t.h<=65536:=fun t ht=>hh t (List.mem_of_mem_take ht)
 have h2:∀t∈l.drop ((l.length+1) / 2),t.h<=65536:=fun t ht=>hh t (List.mem_of_mem_drop ht)
 have hr:ZA6 l=if l.length<=4 then [grp l] else [grp (l.take ((l.length+1) / 2)),grp (l.drop ((l.length+1) / 2))]:=rfl
 generalize ZA6 l=r at *
 cases hv with
 | lit =>
  have hGa:=fun (L:List Blk)=>ZAA (l:=l.take ((l.length+1) / 2)) (v:=.lit ((l.map Tr.av).take (((l.length:Int)+1) / 2).toNat)) (by rw[List.length_take];omega) h1 (st:=St.allRo ⟨A,false,L⟩) (by rw[hk,<- List.map_take];exact .lit _)
  have hGb:=fun (L:List Blk)=>ZAA (l:=l.drop ((l.length+1) / 2)) (v:=.lit ((l.map Tr.av).drop (((l.length:Int)+1) / 2).toNat)) (by rw[List.length_drop];omega) h2 (st:=⟨A,false,L⟩) (by rw[hk,<- List.map_drop];exact .lit _)
  have hlm:(l.map Tr.av).length=l.length:=by simp
  repeat'(first|refine ruS Y ?_|refine isS Y ?_|refine rkS Y ?_|refine Zi Y ?_|(refine cm0 Y Y Y ?_ ?_<;>intro _<;>try omega)|refine ZL Y Y (by omega) ?_|refine ZBS Y Y (by omega) ?_|refine ZA Y Y (by first|rfl|(simp only[List.nil_append,List.append_nil,List.cons_append,ZH,ZC,ZE];first|done|rfl)) (hG _) ?_|refine Y4 Y ?_)
  ·refine ZO hA (by simp) Y Y Y Y ?_
   rw[hr,if_pos (by omega)]
  ·refine XP Y Y (by omega) (JB _) ?_
   refine Zw Y Y Y (hGa _) ?_
   repeat'(refine ZDH Y ?_)
   refine ZBH Y Y (by omega) (JB _) ?_
   repeat'(first|refine isS Y ?_|refine rkS Y ?_|refine ZA Y Y Y (hGb _) ?_|refine ZAY Y Y ?_|refine Jq ?_)
   refine ZO hA (by simp) Y Y Y Y ?_
   rw[hr,if_neg (by omega)]
 | @ref lv ix ver s n _ es hg hn hlen he =>
  subst hn
  have hg2:=fun L=>ZS hA (ro:=false) (L:=L) hg
  have hwi:∀L,wIs 7 ver (St.get ⟨A,false,L⟩ lv ix)=true:=fun L=>by rw[hg2];simp[wIs]
  have hSa:∀L,Sl ⟨A,false,L⟩ (.ref lv ix ver s (((l.length:Int)+1) / 2).toNat) (l.take ((l.length+1) / 2)):=by
   intro L
   refine .ref (hg2 L) ?_ (by omega) ?_
   ·rw[hk,List.length_take];omega
   ·rw[hk,List.map_take,<- he,List.take_take]
    congr 1;omega
  have hSb:∀L,Sl ⟨A,false,L⟩ (.ref lv ix ver (s+(((l.length:Int)+1) / 2).toNat) (l.length-(((l.length:Int)+1) / 2).toNat)) (l.drop ((l.length+1) / 2)):=by
   intro L
   refine .ref (hg2 L) ?_ (by omega) ?_
   ·rw[hk,List.length_drop]
   ·rw[hk,List.map_drop,<- he,<- List.drop_drop,List.drop_take]
  have hGa:=fun (L:List Blk)=>ZAA (by rw[List.length_take];omega) h1 (hSa L).allRo
  have hGb:=fun (L:List Blk)=>ZAA (by rw[List.length_drop];omega) h2 (hSb L)
  repeat'(first|refine ruS Y ?_|refine isS Y ?_|refine rkS Y ?_|refine Zp Y ?_|(refine cm0 Y Y Y ?_ ?_<;>intro _<;>try omega)|refine ZL Y Y (by omega) ?_|refine ZBS Y Y (by omega) ?_|refine ZA Y Y (by first|rfl|(simp only[List.nil_append,List.append_nil,List.cons_append,ZH,ZC,ZE];first|done|rfl)) (hG _) ?_|refine Y4 Y ?_)
  ·refine ZO hA (by simp) Y Y Y Y ?_
   rw[hr,if_pos (by omega)]
  ·refine ZAF Y Y (by omega) (hwi _) ?_
   refine Zw Y Y Y (hGa _) ?_
   repeat'(refine ZDH Y ?_)
   refine ZIh Y Y (by omega) (hwi _) ?_
   repeat'(first|refine isS Y ?_|refine rkS Y ?_|refine ZA Y Y Y (hGb _) ?_|refine ZAY Y Y ?_|refine Jq ?_)
   refine ZO hA (by simp) Y Y Y Y ?_
   rw[hr,if_neg (by omega)]
def GoodN(N:ZF):Prop:=∀o x,lk N o=some x->NdOk x/\∀k∈x.ks,k.at_≠0/\∃y,lk N k.at_=some y/\y.h+1=x.h/\y.mea=k.m
def Big(t:Tr):Prop:=t.h=0->8<=t.bytes
theorem QR{N:ZF}(hN:GoodN N)(hv:Val N t)(hh:1<=t.h):
 (∀c∈Zh N t,Val N c/\c.h+1=t.h/\Big c)/\2<=(Zh N t).length/\(Zh N t).length<=4/\Tr.bytesL (Zh N t)=t.bytes:=by
 cases hv with
 | kept h0 hx hok hh2 hm hk =>
  rename_i o h m k x
  simp only[Tr.h]at hh
  have hin:∃n ks,InnerOk x n ks:=by
   rcases hok with q|q
   ·have:=q.h;omega
   ·exact q
  obtain⟨n,ks,hin⟩:=hin;have hx0:=hin.eq;subst hx0
  have hl:Zh N (.mk o h m [] k)=ks.map (YD n):=by simp only[Zh,if_neg h0,hx];rfl
  have hg:=(hN o _ hx).2;rw[hl]
  have hb:∀l:List Kid,Tr.bytesL (l.map (YD n))=(QX (l.map Kid.m)).b:=by
   intro l
   induction l with
   | nil=>rfl
   | cons a l ih =>
    rw[jC,Tr.bytesL,ih,jC,QX]
    simp[YD,Tr.bytes,Tr.bytesO,Mea.add]
  refine⟨?_,by rw[List.length_map];exact hin.lo,by rw[List.length_map];exact hin.hi,?_⟩
  ·intro c hc
   obtain⟨kd,hkd,rfl⟩:=List.mem_map.1 hc;obtain⟨g1,y,g2,g3,g4⟩:=hg kd hkd;have hy:=(hN kd.at_ y g2).1
   refine⟨.kept g1 g2 hy (by simp only at g3;omega) g4 rfl,by simp only at hh2;simp only[YD,Tr.h];omega,?_⟩
   intro q
   have:=(hin.kid kd hkd).lo
   have h8:=(ZCy (h:=n) (by have:=hin.n15;omega)).1
   simp[YD,Tr.bytes,Tr.bytesO];omega
  ·rw[hb,Tr.bytes,Tr.bytesO_getD,hk,<- hm]
   simp[Tr.bytesL,Nd.mea,Nd.ks]
 | leaf h1 h2 hk=>simp[Tr.h]at hh
 | inner hh1 h2 h4 hl hb hv =>
  rename_i h l
  have he:Zh N (.mk 0 (h+1) .zero [] (some l))=l:=rfl;rw[he]
  refine⟨fun c hc=>⟨hv c hc,by rw[hl c hc];rfl,fun q=>hb c hc (by rw[<- hl c hc];exact q)⟩,h2,h4,?_⟩
  rw[Tr.bytes,Tr.bytesO];simp[Mea.zero]
theorem Val.size{N:ZF}(hN:GoodN N)(hv:Val N t):Big t->(leastB t.h:Int)<=t.bytes:=by
 induction hv with
 | kept h0 hx hok hh hm hk =>
  rename_i o h m k x
  intro hb
  rcases Nat.eq_zero_or_pos h with q|q
  ·have:=hb q
   simp only[Tr.h,q];exact this
  ·have hv:Val N (.mk o h m [] k):=.kept h0 hx hok hh hm hk
   rcases hok with w|⟨n,ks,w⟩
   ·have:=w.h;omega
   ·have:=w.eq
    subst this;rw[Tr.bytes,Tr.bytesO_getD,hk,<- hm];simp only[Tr.h]
    simp only at hh
    subst hh;have hms:Nd.mea ⟨n+1,[],some ks⟩=QX (ks.map Kid.m):=rfl;rw[hms,ZGH];have hkid:=w.kid
    match ks,w.lo,hkid with
    | k1::k2::l,_,hkid =>
     have a1:=(hkid k1 (by simp)).lo
     have a2:=(hkid k2 (by simp)).lo
     have a3:=(ZIJ (l:=l.map Kid.m) (fun m hm=>by obtain⟨k,hk1,rfl⟩:=List.mem_map.1 hm;exact (hkid k (by simp[hk1])).fit)).b0
     simp only[jC,QX,Mea.add,Tr.bytesL,List.length_nil];omega
 | leaf h1 h2 hk=>intro hb;exact hb Y
 | inner hh h2 h4 hl hb hv ih =>
  rename_i h l
  intro _;rw[Tr.bytes,Tr.bytesO];simp only[Tr.h];rw[ZGH]
  match l,h2,hl,hb,hv,ih with
  | t1::t2::r,_,hl,hb,hv,ih =>
   have a1:=ih t1 (by simp) (fun q=>hb t1 (by simp) (by rw[<- hl t1 (by simp)];exact q))
   have a2:=ih t2 (by simp) (fun q=>hb t2 (by simp) (by rw[<- hl t2 (by simp)];exact q))
   rw[hl t1 (by simp)]at a1
   rw[hl t2 (by simp)]at a2
   have a3:=Tr.bytesL_nonneg (l:=r) (fun u hu=>(hv u (by simp[hu])).pos.1.nonneg)
   simp only[Tr.bytesL,Mea.zero,List.length_nil];omega
theorem Val.height{N:ZF}(hN:GoodN N)(hv:Val N t)(hb:t.bytes<=65536):t.h<=13:=by
 rcases Nat.lt_or_ge 13 t.h with q|q
 ·have h1:=hv.size hN (fun w=>by omega)
  have h2:leastB 14<=leastB t.h:=by
   unfold leastB
   exact Nat.mul_le_mul_left 8 (Nat.pow_le_pow_right (by decide) q)
  have h3:leastB 14=131072:=by decide
  omega
 ·exact q
theorem Val.h16{N:ZF}(hv:Val N t):t.h<=16:=by
 cases hv with
 | kept h0 hx hok hh hm hk =>
  rcases hok with q|⟨n,ks,q⟩
  ·have:=q.h;simp only[Tr.h];omega
  ·have:=q.eq;subst this;have:=q.n15;simp only[Tr.h];simp only at hh;omega
 | leaf h1 h2 hk=>simp[Tr.h]
 | inner hh h2 h4 hl hb hv=>exact hh
theorem ZCp{N:ZF}{l:List Tr}{h:Nat}(h1:2<=l.length)(h2:l.length<=4)(hh:h+1<=16)(hl:∀t∈l,Val N t/\t.h=h/\Big t):Val N (grp l)/\(grp l).h=h+1/\(grp l).bytes=Tr.bytesL l:=by
 have he:Tr.hs l=h:=by
  match l,h1 with
  | a::r,_=>exact (hl a (by simp)).2.1
 rw[ZRB h1,he]
 refine⟨.inner hh h1 h2 (fun t ht=>(hl t ht).2.1) (fun t ht q=>(hl t ht).2.2 ((hl t ht).2.1.trans q)) (fun t ht=>(hl t ht).1),rfl,?_⟩
 rw[Tr.bytes,Tr.bytesO];simp[Mea.zero]
def ZWp(N:ZF):Nat->Nat->B8
 | 0,o=>((lk N o).map Nd.text).getD []
 | n+1,o=>(((lk N o).map Nd.ks).getD []).flatMap fun k=>ZWp N n k.at_
namespace Tr
mutual
def txt(N:ZF):Tr->B8
 | .mk o h _ s k=>(if o=0 then s else ZWp N h o)++txtO N k
def txtO(N:ZF):Option (List Tr)->B8
 | none=>[]
 | some l=>txtL N l
def txtL(N:ZF):List Tr->B8
 | []=>[]
 | t::l=>t.txt N++txtL N l
end
theorem txtL_append(N:ZF):∀a b,txtL N (a++b)=txtL N a++txtL N b
 | [],b=>rfl
 | t::a,b=>by rw[List.cons_append,txtL,txtL,txtL_append N a b,List.append_assoc]
theorem txtO_getD(N:ZF)(k:Option (List Tr)):txtO N k=txtL N (k.getD []):=by cases k<;>rfl
end Tr
theorem ZAv{N:ZF}{t:Tr}(hv:Val N t)(h:t.h=0):t.txt N=QB N t:=by
 cases hv with
 | kept h0 hx hok hh hm hk =>
  rename_i o h m k x
  simp only[Tr.h]at h;subst h;rw[Tr.txt,Tr.txtO_getD,hk,if_neg h0];simp only[Tr.txtL,List.append_nil,ZWp,QB,if_neg h0]
 | leaf h1 h2 hk=>rw[Tr.txt,Tr.txtO_getD,hk];simp[Tr.txtL,QB]
 | inner hh h2 h4 hl hb hv=>simp[Tr.h]at h
theorem ZAO{N:ZF}(hN:GoodN N){t:Tr}(hv:Val N t)(h:1<=t.h):t.txt N=Tr.txtL N (Zh N t):=by
 cases hv with
 | kept h0 hx hok hh hm hk =>
  rename_i o h' m k x
  simp only[Tr.h]at h
  obtain⟨n,rfl⟩:∃n,h'=n+1:=⟨h'-1,by omega⟩
  have hl:Zh N (.mk o (n+1) m [] k)=x.ks.map (YD n):=by simp only[Zh,if_neg h0,hx];rw[hh];rfl
  have hg:=fun k hk=>((hN o x hx).2 k hk).1
  rw[hl,Tr.txt,Tr.txtO_getD,hk,if_neg h0];simp only[Tr.txtL,List.append_nil,ZWp,hx,Option.map_some,Option.getD_some];generalize x.ks=l at hg
  induction l with
  | nil=>rfl
  | cons a l ih =>
   rw[List.flatMap_cons,jC,Tr.txtL,<- ih (fun k hk=>hg k (by simp[hk]))]
   congr 1
   rw[YD,Tr.txt,Tr.txtO,if_neg (hg a (by simp)),List.append_nil]
 | leaf h1 h2 hk=>simp[Tr.h]at h
 | inner hh h2 h4 hl hb hv =>
  rename_i h' l
  show _=Tr.txtL N l
  rw[Tr.txt,Tr.txtO];rfl
theorem Zi7{N:ZF}(hN:GoodN N):∀n o x,lk N o=some x->x.h=n->ZAz (ZWp N n o)=x.mea
 | 0,o,x,hx,hh=>by
  unfold Nd.mea;rw[if_pos hh,ZWp,hx];rfl
 | n+1,o,x,hx,hh=>by
  have hg:=(hN o x hx).2;unfold Nd.mea
  rw[if_neg (by omega),ZWp,hx]
  simp only[Option.map_some,Option.getD_some];generalize x.ks=l at hg
  induction l with
  | nil=>rfl
  | cons a l ih =>
   obtain⟨g1,y,g2,g3,g4⟩:=hg a (by simp)
   rw[List.flatMap_cons,ZnC,Zi7 hN n a.at_ y g2 (by omega),ih (fun k hk=>hg k (by simp[hk])),jC,QX,g4]
theorem ZK2{N:ZF}(hN:GoodN N){t:Tr}(hv:Val N t):((t.txt N).length:Int)=t.bytes:=by
 induction hv with
 | kept h0 hx hok hh hm hk =>
  rename_i o h m k x
  have h1:=Zi7 hN h o x hx hh;have h2:(ZAz (ZWp N h o)).b=((ZWp N h o).length:Int):=rfl;rw[Tr.txt,Tr.txtO_getD,hk,if_neg h0,Tr.bytes,Tr.bytesO_getD,hk,<- hm,<- h1];simp only[Tr.txtL,List.append_nil,Tr.bytesL,List.length_nil,h2];omega
 | leaf h1 h2 hk=>rw[Tr.txt,Tr.txtO_getD,hk,Tr.bytes,Tr.bytesO_getD,hk];simp[Tr.txtL,Tr.bytesL,Mea.zero]
 | inner hh h2 h4 hl hb hv ih =>
  rename_i h l
  rw[Tr.txt,Tr.txtO,Tr.bytes,Tr.bytesO];simp only[if_true,List.nil_append,Mea.zero,List.length_nil]
  have:∀l:List Tr,(∀t∈l,((t.txt N).length:Int)=t.bytes)->((Tr.txtL N l).length:Int)=Tr.bytesL l:=by
   intro l
   induction l with
   | nil=>intro _;rfl
   | cons a l ih2 =>
    intro h
    have h1:=h a (by simp)
    have h2:=ih2 (fun t ht=>h t (by simp[ht]))
    rw[Tr.txtL,Tr.bytesL,List.length_append];omega
  have:=this l ih
  omega
theorem ZIK{N:ZF}{s:B8}(h:Xn s):Val N (Qk s):=.leaf h.1 h.2 rfl
theorem XZ(s:B8):(Qk s).bytes=s.length:=by simp[Qk,Tr.bytes,Tr.bytesO,Mea.zero]
theorem ZWq(N:ZF)(s:B8):(Qk s).txt N=s:=by simp[Qk,Tr.txt,Tr.txtO]
structure MergeOk(N:ZF)(x y:Tr)(r:List Tr):Prop where
 val:∀t∈r,Val N t
 h:∀t∈r,t.h=max x.h y.h
 len:r.length=1\/r.length=2
 bytes:Tr.bytesL r=x.bytes+y.bytes
 txt:Tr.txtL N r=x.txt N++y.txt N
 two:r.length=2->∀t∈r,Big t
 big:Big x\/Big y->∀t∈r,Big t
theorem Zts{a b:B8}(ha:Xn a)(hb:Xn b):(∀s∈XH a b,Xn s)/\((XH a b).length=1\/(XH a b).length=2)/\(XH a b).flatten=a++b /\
 ((XH a b).length=2->∀s∈XH a b,8<=s.length)/\(8<=a.length\/8<=b.length->∀s∈XH a b,8<=s.length):=by
 unfold XH Xn at *
 split
 ·rename_i h
  refine⟨fun s hs=>?_,.inl Y,by simp,fun h=>by simp at h,fun q s hs=>?_⟩
  ·simp only[List.mem_singleton]at hs;subst hs;rw[List.length_append];omega
  ·simp only[List.mem_singleton]at hs;subst hs;rw[List.length_append];omega
 ·rename_i h
  split
  ·rename_i h2
   refine⟨fun s hs=>?_,.inr Y,by simp,fun _ s hs=>?_,fun q s hs=>?_⟩
   all_goals
    simp only[List.mem_cons,List.not_mem_nil,or_false]at hs
    rcases hs with rfl|rfl<;>omega
  ·rename_i h2
   refine⟨fun s hs=>?_,.inr Y,by simp,fun _ s hs=>?_,fun q s hs=>?_⟩
   all_goals
    simp only[List.mem_cons,List.not_mem_nil,or_false]at hs
    rcases hs with rfl|rfl
    ·rw[List.length_take,List.length_append];omega
    ·rw[List.length_drop,List.length_append];omega
theorem ZpS{N:ZF}{x y:Tr}(hx:Val N x)(hy:Val N y)(h1:x.h=0)(h2:y.h=0):MergeOk N x y (ZCo N x y):=by
 have hlx:=hx.line h1;have hly:=hy.line h2;unfold ZCo
 split
 ·rename_i h
  refine⟨?_,?_,.inr Y,by simp[Tr.bytesL],by simp[Tr.txtL],fun _=>?_,fun _=>?_⟩
  all_goals
   intro t ht;simp only[List.mem_cons,List.not_mem_nil,or_false]at ht
  ·rcases ht with rfl|rfl<;>assumption
  ·rcases ht with rfl|rfl<;>omega
  ·rcases ht with rfl|rfl<;>(intro _;omega)
  ·rcases ht with rfl|rfl<;>(intro _;omega)
 ·obtain⟨j1,j2,j3,j4,j5⟩:=Zts hlx.2 hly.2
  generalize XH (QB N x) (QB N y)=j at *
  have hf:∀l:List B8,Tr.bytesL (l.map Qk)=(l.flatten.length:Int)/\Tr.txtL N (l.map Qk)=l.flatten:=by
   intro l
   induction l with
   | nil=>exact⟨rfl,rfl⟩
   | cons a l ih =>
    rw[jC,Tr.bytesL,Tr.txtL,ih.1,ih.2,XZ,ZWq,List.flatten_cons,List.length_append]
    exact⟨by omega,rfl⟩
  refine⟨?_,?_,by simpa using j2,?_,?_,?_,?_⟩
  ·intro t ht
   obtain⟨s,hs,rfl⟩:=List.mem_map.1 ht;exact ZIK (j1 s hs)
  ·intro t ht
   obtain⟨s,hs,rfl⟩:=List.mem_map.1 ht;rw[h1,h2];rfl
  ·rw[(hf j).1,j3,List.length_append];omega
  ·rw[(hf j).2,j3,ZAv hx h1,ZAv hy h2]
  ·intro hl t ht
   obtain⟨s,hs,rfl⟩:=List.mem_map.1 ht
   have:=j4 (by simpa using hl) s hs
   intro _;rw[XZ];omega
  ·intro hb t ht
   obtain⟨s,hs,rfl⟩:=List.mem_map.1 ht
   have := j5 (by rcases hb with hb | hb
                  ·have:=hb h1;omega
                  ·have:=hb h2;omega) s hs
   intro _;rw[XZ];omega
noncomputable def QV(N:ZF):Nat->Tr->Tr->List Tr
 | 0,x,y=>ZCo N x y
 | n+1,x,y =>
  if x.h=y.h then (if (Zh N x).length+(Zh N y).length<=4 then [grp (Zh N x++Zh N y)] else [x,y])
  else if y.h<x.h then ZA6 ((Zh N x).take ((Zh N x).length-1)++QV N n ((Zh N x)[(Zh N x).length-1]?.getD .zero) y)
  else ZA6 (QV N n x ((Zh N y)[0]?.getD .zero)++(Zh N y).drop 1)
theorem ZK3(N:ZF){l:List Tr}(h:2<=l.length):(grp l).txt N=Tr.txtL N l:=by
 rw[ZRB h,Tr.txt,Tr.txtO];rfl
theorem ZnK{N:ZF}{l:List Tr}{h:Nat}(h1:2<=l.length)(h2:l.length<=8)(hh:h+1<=16)(hl:∀t∈l,Val N t/\t.h=h/\Big t):
 (∀t∈ZA6 l,Val N t/\t.h=h+1)/\((ZA6 l).length=1\/(ZA6 l).length=2)/\Tr.bytesL (ZA6 l)=Tr.bytesL l/\Tr.txtL N (ZA6 l)=Tr.txtL N l:=by
 unfold ZA6
 split
 ·rename_i h4
  obtain⟨a,b,c⟩:=ZCp h1 h4 hh hl
  refine⟨?_,.inl Y,by simp[Tr.bytesL,c],by simp[Tr.txtL,ZK3 N h1]⟩
  intro t ht;simp only[List.mem_singleton]at ht;subst ht;exact⟨a,b⟩
 ·rename_i h4
  have e1:(l.take ((l.length+1) / 2)).length=(l.length+1) / 2:=by rw[List.length_take];omega
  have e2:(l.drop ((l.length+1) / 2)).length=l.length-(l.length+1) / 2:=by rw[List.length_drop]
  obtain⟨a1,b1,c1⟩:=ZCp (l:=l.take ((l.length+1) / 2)) (by omega) (by omega) hh (fun t ht=>hl t (List.mem_of_mem_take ht))
  obtain⟨a2,b2,c2⟩:=ZCp (l:=l.drop ((l.length+1) / 2)) (by omega) (by omega) hh (fun t ht=>hl t (List.mem_of_mem_drop ht))
  refine⟨?_,.inr Y,?_,?_⟩
  ·intro t ht
   simp only[List.mem_cons,List.not_mem_nil,or_false]at ht
   rcases ht with rfl|rfl
   ·exact⟨a1,b1⟩
   ·exact⟨a2,b2⟩
  ·conv=>rhs;rw[<- List.take_append_drop ((l.length+1) / 2) l,Tr.bytesL_append]
   simp only[Tr.bytesL,c1,c2];omega
  ·conv=>rhs;rw[<- List.take_append_drop ((l.length+1) / 2) l,Tr.txtL_append]
   simp only[Tr.txtL,ZK3 N (show 2<=(l.take ((l.length+1) / 2)).length by omega),ZK3 N (show 2<=(l.drop ((l.length+1) / 2)).length by omega),List.append_nil]
theorem ZK4{α:Type}{l:List α}{z:α}(h:1<=l.length):l=l.take (l.length-1)++[l[l.length-1]?.getD z]:=by
 have hlt:l.length-1<l.length:=by omega
 have e:l[l.length-1]?.getD z=l[l.length-1]:=by rw[jE hlt];rfl
 rw[e]
 conv=>lhs;rw[<- List.take_append_drop (l.length-1) l]
 congr 1
 rw[List.drop_eq_getElem_cons hlt,List.drop_of_length_le (by omega)]
theorem ZpT{α:Type}{l:List α}{z:α}(h:1<=l.length):l=[l[0]?.getD z]++l.drop 1:=by
 match l,h with
 | a::r,_=>rfl
theorem Zfa{t:Tr}(h:1<=t.h):Big t:=fun q=>by omega
theorem Jd{N:ZF}(hN:GoodN N):∀n x y,Val N x->Val N y->n=x.h+y.h->MergeOk N x y (QV N n x y)
 | 0,x,y,hx,hy,hn=>ZpS hx hy (by omega) (by omega)
 | n+1,x,y,hx,hy,hn=>by
  have hx16:=hx.h16;have hy16:=hy.h16;rw[QV]
  split
  ·rename_i hxy
   obtain⟨cx1,cx2,cx3,cx4⟩:=QR hN hx (by omega)
   obtain⟨cy1,cy2,cy3,cy4⟩:=QR hN hy (by omega)
   split
   ·rename_i h4
    have hl:∀t∈Zh N x++Zh N y,Val N t/\t.h=x.h-1/\Big t:=by
     intro t ht
     rcases List.mem_append.1 ht with q|q
     ·obtain⟨a,b,c⟩:=cx1 t q;exact⟨a,by omega,c⟩
     ·obtain⟨a,b,c⟩:=cy1 t q;exact⟨a,by omega,c⟩
    obtain⟨a,b,c⟩:=ZCp (l:=Zh N x++Zh N y) (by rw[List.length_append];omega) (by rw[List.length_append];omega) (show x.h-1+1<=16 by omega) hl
    refine⟨?_,?_,.inl Y,?_,?_,fun q=>by simp at q,?_⟩
    ·intro t ht;simp only[List.mem_singleton]at ht;subst ht;exact a
    ·intro t ht;simp only[List.mem_singleton]at ht;subst ht;omega
    ·simp only[Tr.bytesL,c,Tr.bytesL_append,cx4,cy4];omega
    ·simp only[Tr.txtL,List.append_nil]
     rw[ZK3 N (by rw[List.length_append];omega),Tr.txtL_append,<- ZAO hN hx (by omega),<- ZAO hN hy (by omega)]
    ·intro _ t ht;simp only[List.mem_singleton]at ht;subst ht;exact Zfa (by omega)
   ·refine⟨?_,?_,.inr Y,by simp[Tr.bytesL],by simp[Tr.txtL],?_,?_⟩
    ·intro t ht
     simp only[List.mem_cons,List.not_mem_nil,or_false]at ht
     rcases ht with rfl|rfl<;>assumption
    ·intro t ht
     simp only[List.mem_cons,List.not_mem_nil,or_false]at ht
     rcases ht with rfl|rfl<;>omega
    ·intro _ t ht
     simp only[List.mem_cons,List.not_mem_nil,or_false]at ht
     rcases ht with rfl|rfl<;>exact Zfa (by omega)
    ·intro _ t ht
     simp only[List.mem_cons,List.not_mem_nil,or_false]at ht
     rcases ht with rfl|rfl<;>exact Zfa (by omega)
  ·split
   ·rename_i hxy hlt
    obtain⟨c1,c2,c3,c4⟩:=QR hN hx (by omega)
    have ht:=ZAO hN hx (by omega)
    generalize Zh N x=l at *
    have hs:=ZK4 (l:=l) (z:=Tr.zero) (by omega)
    generalize hu:l[l.length-1]?.getD Tr.zero=u at *
    have hum:u∈l:=by rw[hs];simp
    have hlt':(l.take (l.length-1)).length=l.length-1:=by rw[List.length_take];omega
    generalize hq:l.take (l.length-1)=q at *
    obtain⟨u1,u2,u3⟩:=c1 u hum
    have ih:=Jd hN n u y u1 hy (by omega)
    generalize QV N n u y=r at *
    have hr:r.length<=2/\1<=r.length:=by rcases ih.len with w|w<;>omega
    have hall:∀t∈q++r,Val N t/\t.h=x.h-1/\Big t:=by
     intro t ht
     rcases List.mem_append.1 ht with w|w
     ·obtain⟨a,b,c⟩:=c1 t (by rw[hs];simp[w]);exact⟨a,by omega,c⟩
     ·exact⟨ih.val t w,by rw[ih.h t w];omega,ih.big (.inl u3) t w⟩
    obtain⟨f1,f2,f3,f4⟩:=ZnK (l:=q++r) (by rw[List.length_append];omega) (by rw[List.length_append];omega) (show x.h-1+1<=16 by omega) hall
    refine⟨fun t ht=>(f1 t ht).1,fun t ht=>by rw[(f1 t ht).2];omega,f2,?_,?_,fun _ t ht=>Zfa (by rw[(f1 t ht).2];omega),fun _ t ht=>Zfa (by rw[(f1 t ht).2];omega)⟩
    ·rw[f3,Tr.bytesL_append,ih.bytes,<- c4]
     conv=>rhs;rw[hs,Tr.bytesL_append]
     simp only[Tr.bytesL];omega
    ·rw[f4,Tr.txtL_append,ih.txt,ht]
     conv=>rhs;rw[hs,Tr.txtL_append]
     simp only[Tr.txtL,List.append_nil,List.append_assoc]
   ·rename_i hxy hlt
    obtain⟨c1,c2,c3,c4⟩:=QR hN hy (by omega)
    have ht:=ZAO hN hy (by omega)
    generalize Zh N y=l at *
    have hs:=ZpT (l:=l) (z:=Tr.zero) (by omega)
    generalize hu:l[0]?.getD Tr.zero=u at *
    have hum:u∈l:=by rw[hs];simp
    have hlt':(l.drop 1).length=l.length-1:=by rw[List.length_drop]
    generalize hq:l.drop 1=q at *
    obtain⟨u1,u2,u3⟩:=c1 u hum
    have ih:=Jd hN n x u hx u1 (by omega)
    generalize QV N n x u=r at *
    have hr:r.length<=2/\1<=r.length:=by rcases ih.len with w|w<;>omega
    have hall:∀t∈r++q,Val N t/\t.h=y.h-1/\Big t:=by
     intro t ht
     rcases List.mem_append.1 ht with w|w
     ·exact⟨ih.val t w,by rw[ih.h t w];omega,ih.big (.inr u3) t w⟩
     ·obtain⟨a,b,c⟩:=c1 t (by rw[hs];simp[w]);exact⟨a,by omega,c⟩
    obtain⟨f1,f2,f3,f4⟩:=ZnK (l:=r++q) (by rw[List.length_append];omega) (by rw[List.length_append];omega) (show y.h-1+1<=16 by omega) hall
    refine⟨fun t ht=>(f1 t ht).1,fun t ht=>by rw[(f1 t ht).2];omega,f2,?_,?_,fun _ t ht=>Zfa (by rw[(f1 t ht).2];omega),fun _ t ht=>Zfa (by rw[(f1 t ht).2];omega)⟩
    ·rw[f3,Tr.bytesL_append,ih.bytes,<- c4]
     conv=>rhs;rw[hs,Tr.bytesL_append]
     simp only[Tr.bytesL];omega
    ·rw[f4,Tr.txtL_append,ih.txt,ht]
     conv=>rhs;rw[hs,Tr.txtL_append]
     simp only[Tr.txtL,List.append_nil,List.append_assoc]
theorem Sl.cur{L:List Blk}{l:List Tr}(hg:L[ix]?=some (.arr 7 ver (l.map Tr.av)))(hn:n=l.length):Sl ⟨A,ro,L⟩ (.ref A.length ix ver 0 n) l:=by
 refine .ref (es:=l.map Tr.av) (by rw[St.get_cur,hg];rfl) hn (by simp;omega) ?_
 rw[List.drop_zero,List.take_of_length_le (by simp;omega)]
section
variable {O:Orc}{k:List Fr}{Q:Qn}{e:Env}{A:List (Bool × List Blk)}{L:List Blk}{keep:List Nat}{is:List PI}{d:Nat}
theorem ZnL{x:Opd}{l:List Tr}(hx:ZY e x=some (.lit (l.map Tr.av)))(hl:1<=l.length)(h:Is O is keep k Q ((d,.lit ((l.drop 1).map Tr.av))::e) st):
 Is O (⟨some d,none,false,.w .blind (.slc 7 x (some (.v (.int .i64 1))) none)⟩::is) keep k Q e st:=by
 refine ZYt ?_ h
 have hlt:((1:Int)<=((l.map Tr.av).length:Nat)):=by simp;omega
 have ho:ZGo e (some (Opd.v (.int .i64 1)))=some (.int .i64 1):=rfl;have hn:ZGo e none=none:=rfl
 simp only[Zs,PO.reads,if_true,evalPO,ZD hx,ho,hn,slcV,Jy,Option.bind_some,if_pos (show (0:Int)<=1/\(1:Int)<=((l.map Tr.av).length:Nat) from ⟨by decide,hlt⟩),JB,Qe,Z8,Int.toNat_one,List.map_drop]
 rw[List.take_of_length_le (by simp)]
end
theorem wk3(a:AV)(x y:Tr)(ha:weak a=a):ZE (ZH ([]++[a,x.av,y.av]++[]))=some [a,x.av,y.av]:=by
 simp only[List.nil_append,List.append_nil,List.cons_append,ZH,ZC,ha,ZE]
theorem ZqZ{N:ZF}(hN:GoodN N):∀(n:Nat) {st:St} {lv ix:Nat} (hr:Rd st lv ix N) {x y:Tr} (hx:Val N x) (hy:Val N y) (hn:n=x.h+y.h),
 S Tb Xf [.ptr lv ix 0 0 0,x.av,y.av] st=some (.tup [.lit ((QV N n x y).map Tr.av),.int .i64 0],st):=by
 intro n
 induction n with
 | zero =>
  intro st lv ix hr x y hx hy hn
  have h1:x.h=0:=by omega
  have h2:y.h=0:=by omega
  refine Zj Y (fun A hA=>?_)
  have hLv:=fun L=>Ztq (hr.push hA (ro:=false) (L:=L)) hx hy h1 h2
  rw[QV]
  generalize ZCo N x y=r at *
  repeat'(first|refine ruS Y ?_|refine isS Y ?_|refine rkS Y ?_|(refine cm0 Y Y Y ?_ ?_<;>intro _<;>try omega)|refine Z5 Y Y (ZG _) ?_|refine ZB Y Y Y (ZG _) ?_|refine Za Y (ZQ _) (Zg _) ?_|refine ZB Y Y Y (Qz _) ?_|refine ZA Y Y (by first|rfl|(simp only[List.nil_append,List.append_nil,List.cons_append,ZH,ZC,ZE];first|done|rfl)) (hLv _) ?_)
  all_goals try omega
  all_goals refine ZO hA (by simp) Y Y Y Y ?_
  all_goals rfl
 | succ n ih =>
  intro st lv ix hr x y hx hy hn;have hx16:=hx.h16;have hy16:=hy.h16
  refine Zj Y (fun A hA=>?_)
  rw[QV]
  have hrp:=fun L=>hr.push hA (ro:=false) (L:=L)
  rcases Nat.lt_trichotomy x.h y.h with hlt|heq|hgt
  ·rw[if_neg (by omega),if_neg (by omega)]
   obtain⟨c1,c2,c3,c4⟩:=QR hN hy (by omega)
   have hC:=fun L=>ZBO (hrp L) hy (by omega)
   generalize Zh N y=l at *
   have hlt':(l.drop 1).length=l.length-1:=by rw[List.length_drop]
   have hlm:(l.map Tr.av).length=l.length:=by simp
   repeat'(first|refine ruS Y ?_|refine isS Y ?_|refine rkS Y ?_|(refine cm0 Y Y Y ?_ ?_<;>intro _<;>try omega)|(refine cm0 Y Y Y ?_ ?_<;>intro _<;>try omega)|(refine cm0 Y Y Y ?_ ?_<;>intro _<;>try omega)|(refine cm0 Y Y Y ?_ ?_<;>intro _<;>try omega)|refine QY Y Y (by omega) ZQ (fun _ _=>?_)|refine Zk Y (ZG _) ?_|refine Z5 Y Y (ZG _) ?_|refine ZB Y Y Y (ZG _) ?_|refine Za Y (ZQ _) (Zg _) ?_|refine ZB Y Y Y (Qz _) ?_|refine ZA Y Y (by first|rfl|(simp only[List.nil_append,List.append_nil,List.cons_append,ZH,ZC,ZE];first|done|rfl)) (hC _) ?_)
   all_goals try omega
   all_goals
    rename_i u hu
    have hu2:l[0]?=some u:=hu;rw[hu2];obtain⟨u1,u2,u3⟩:=c1 u (jM hu2)
    have hM:=fun L=>ih (hrp L) hx u1 (show n=x.h+u.h by omega)
    have hMo:=Jd hN n x u hx u1 (by omega)
    simp only[Option.getD_some]at hMo ⊢
    generalize QV N n x u=r at *
    have hr2:r.length<=2:=by rcases hMo.len with w|w<;>omega
    have hh:∀t∈r++l.drop 1,t.h<=65536:=by
     intro t ht
     rcases List.mem_append.1 ht with q|q
     ·have:=hMo.h t q;omega
     ·have:=(c1 t (List.mem_of_mem_drop q)).2.1;omega
    have hF:=fun {v:AV} {st:St} (hv:Sl st v (r++l.drop 1))=>Ztr (by rw[List.length_append];omega) hh hv
    repeat'(first|refine ruS Y ?_|refine isS Y ?_|refine rkS Y ?_|(refine cm0 Y Y Y ?_ ?_<;>intro _<;>try omega)|refine ZA Y Y (by first|rfl|(simp only[List.nil_append,List.append_nil,List.cons_append,ZH,ZC,ZE];first|done|rfl)) (hM _) ?_|refine ZnL Y (by omega) ?_|refine ZYt Y ?_|refine ZFB Y Y (.lit _) (by omega) ?_|refine ZBM Y Y Y Y (.lit _) (by omega) ?_|refine ZA Y Y (by first|rfl|(simp only[List.nil_append,List.append_nil,List.cons_append,ZH,ZC,ZE];first|done|rfl)) (hF (Sl.cur rfl rfl)) ?_)
    all_goals try omega
    all_goals refine ZO hA (by simp) Y Y Y Y ?_
    all_goals rfl
  ·rw[if_pos heq]
   obtain⟨cx1,cx2,cx3,cx4⟩:=QR hN hx (by omega)
   obtain⟨cy1,cy2,cy3,cy4⟩:=QR hN hy (by omega)
   have hCx:=fun L=>ZBO (hrp L) hx (by omega)
   have hCy:=fun L=>ZBO (hrp L) hy (by omega)
   have hhx:∀t∈Zh N x++Zh N y,t.h<=65536:=by
    intro t ht
    rcases List.mem_append.1 ht with q|q
    ·have:=(cx1 t q).2.1;omega
    ·have:=(cy1 t q).2.1;omega
   generalize Zh N x=kx at *
   generalize Zh N y=ky at *
   have hGr:=fun {v:AV} {st:St} (hv:Sl st v (kx++ky))=>ZAA (by rw[List.length_append];omega) hhx hv
   repeat'(first|refine ruS Y ?_|refine isS Y ?_|refine rkS Y ?_|refine Zi Y ?_|(refine cm0 Y Y Y ?_ ?_<;>intro _<;>try omega)|(refine cm0 Y Y Y ?_ ?_<;>intro _<;>try omega)|(refine cm0 Y Y Y ?_ ?_<;>intro _<;>try omega)|(refine cm0 Y Y Y ?_ ?_<;>intro _<;>try omega)|refine ZL Y Y (by omega) ?_|refine Zz Y Y Y Y ?_|refine Z5 Y Y (ZG _) ?_|refine ZB Y Y Y (ZG _) ?_|refine Za Y (ZQ _) (Zg _) ?_|refine ZB Y Y Y (Qz _) ?_|refine ZA Y Y (by first|rfl|(simp only[List.nil_append,List.append_nil,List.cons_append,ZH,ZC,ZE];first|done|rfl)) (hCx _) ?_|refine ZA Y Y (by first|rfl|(simp only[List.nil_append,List.append_nil,List.cons_append,ZH,ZC,ZE];first|done|rfl)) (hCy _) ?_|refine ZYu Y Y (.lit _) (by omega) ?_|refine ZBM Y Y Y Y (.lit _) (by omega) ?_|refine ZA Y Y (by first|rfl|(simp only[List.nil_append,List.append_nil,List.cons_append,ZH,ZC,ZE];first|done|rfl)) (hGr (Sl.cur rfl rfl)) ?_|refine Y4 Y ?_|refine ZAY Y Y ?_)
   all_goals try omega
   all_goals refine ZO hA (by simp) Y Y Y Y ?_
   ·rw[if_pos (by omega)]
   ·rw[if_neg (by omega)]
  ·rw[if_neg (by omega),if_pos hgt]
   obtain⟨c1,c2,c3,c4⟩:=QR hN hx (by omega)
   have hC:=fun L=>ZBO (hrp L) hx (by omega)
   generalize Zh N x=l at *
   have hs:=ZK4 (l:=l) (z:=Tr.zero) (by omega)
   have hlt':(l.take (l.length-1)).length=l.length-1:=by rw[List.length_take];omega
   have hSl:∀L,Sl ⟨A,false,L⟩ (.lit ((l.map Tr.av).take (((l.length:Nat):Int)-1).toNat)) (l.take (l.length-1)):=by
    intro L
    rw[show (((l.length:Nat):Int)-1).toNat=l.length-1 by omega,<- List.map_take]
    exact .lit _
   have hlm:(l.map Tr.av).length=l.length:=by simp
   repeat'(first|refine ruS Y ?_|refine isS Y ?_|refine ZX ?_|refine Zi Y ?_|(refine cm0 Y Y Y ?_ ?_<;>intro _<;>try omega)|(refine cm0 Y Y Y ?_ ?_<;>intro _<;>try omega)|(refine cm0 Y Y Y ?_ ?_<;>intro _<;>try omega)|(refine cm0 Y Y Y ?_ ?_<;>intro _<;>try omega)|refine QC Y Y (by omega) ?_|refine QY Y Y (by omega) ZQ (fun _ _=>?_)|refine Zk Y (ZG _) ?_|refine Z5 Y Y (ZG _) ?_|refine ZB Y Y Y (ZG _) ?_|refine Za Y (ZQ _) (Zg _) ?_|refine ZB Y Y Y (Qz _) ?_|refine ZA Y Y (by first|rfl|(simp only[List.nil_append,List.append_nil,List.cons_append,ZH,ZC,ZE];first|done|rfl)) (hC _) ?_)
   all_goals try omega
   rename_i u hu
   have hu2:l[l.length-1]?=some u:=by rw[show l.length-1=(((l.length:Nat):Int)-1).toNat by omega];exact hu
   rw[hu2];obtain⟨u1,u2,u3⟩:=c1 u (jM hu2)
   have hM:=fun L=>ih (hrp L) u1 hy (show n=u.h+y.h by omega)
   have hMo:=Jd hN n u y u1 hy (by omega)
   simp only[Option.getD_some]at hMo ⊢
   generalize QV N n u y=r at *
   have hr2:r.length<=2:=by rcases hMo.len with w|w<;>omega
   have hh:∀t∈l.take (l.length-1)++r,t.h<=65536:=by
    intro t ht
    rcases List.mem_append.1 ht with q|q
    ·have:=(c1 t (List.mem_of_mem_take q)).2.1;omega
    ·have:=hMo.h t q;omega
   have hF:=fun {v:AV} {st:St} (hv:Sl st v (l.take (l.length-1)++r))=>Ztr (by rw[List.length_append];omega) hh hv
   repeat'(first|refine ruS Y ?_|refine isS Y ?_|refine rkS Y ?_|(refine cm0 Y Y Y ?_ ?_<;>intro _<;>try omega)|refine Zz Y Y Y Y ?_|refine ZA Y Y (by first|rfl|(simp only[List.nil_append,List.append_nil,List.cons_append,ZH,ZC,ZE];first|done|rfl)) (hM _) ?_|refine XP Y Y (by omega) (JB _) ?_|refine ZYu Y Y (hSl _) (by omega) ?_|refine ZBM Y Y Y Y (.lit _) (by omega) ?_|refine ZA Y Y (by first|rfl|(simp only[List.nil_append,List.append_nil,List.cons_append,ZH,ZC,ZE];first|done|rfl)) (hF (Sl.cur rfl rfl)) ?_)
   all_goals try omega
   all_goals refine ZO hA (by simp) Y Y Y Y ?_
   all_goals rfl
def VE(N:ZF)(t:Tr):Prop:=IsEmpty t\/Val N t
theorem IsEmpty.bytes(h:IsEmpty t):t.bytes=0:=by
 obtain⟨o,h',m,s,k⟩:=t;obtain⟨h1,h2,h3,h4,h5⟩:=h
 simp only[Tr.old,Tr.h,Tr.m,Tr.text,Tr.ks]at *
 subst h3 h4;rw[Tr.bytes,Tr.bytesO_getD,h5];rfl
theorem IsEmpty.txt(N:ZF)(h:IsEmpty t):t.txt N=[]:=by
 obtain⟨o,h',m,s,k⟩:=t;obtain⟨h1,h2,h3,h4,h5⟩:=h
 simp only[Tr.old,Tr.h,Tr.m,Tr.text,Tr.ks]at *
 subst h1 h4;rw[Tr.txt,Tr.txtO_getD,h5];rfl
theorem zero_empty:IsEmpty Tr.zero:=⟨rfl,rfl,rfl,rfl,rfl⟩
theorem VE.pos{N:ZF}(h:VE N t):t.Pos/\0<=t.bytes:=by
 rcases h with h|h
 ·refine⟨?_,by rw[h.bytes];omega⟩
  obtain⟨o,h',m,s,k⟩:=t;obtain⟨h1,h2,h3,h4,h5⟩:=h
  simp only[Tr.old,Tr.h,Tr.m,Tr.text,Tr.ks]at *
  subst h3
  exact⟨by decide,by rw[h5];decide,by rw[h5];intro t ht;simp at ht⟩
 ·exact⟨h.pos.1,by have:=h.pos.2;omega⟩
theorem VE.val{N:ZF}(h:VE N t)(hb:t.bytes≠0):Val N t:=by
 rcases h with h|h
 ·exact absurd h.bytes hb
 ·exact h
theorem VE.empty{N:ZF}(h:VE N t)(hb:t.bytes=0):IsEmpty t:=by
 rcases h with h|h
 ·exact h
 ·have:=h.pos.2;omega
theorem VE.len{N:ZF}(hN:GoodN N)(h:VE N t):((t.txt N).length:Int)=t.bytes:=by
 rcases h with h|h
 ·rw[h.txt,h.bytes];rfl
 ·exact ZK2 hN h
noncomputable def JY(N:ZF)(x y:Tr):Tr :=
 if x.bytes=0 then y else if y.bytes=0 then x else grp (QV N (x.h+y.h) x y)
structure ConcOk(N:ZF)(x y t:Tr):Prop where
 ve:VE N t
 bytes:t.bytes=x.bytes+y.bytes
 txt:t.txt N=x.txt N++y.txt N
 h:t.h<=max x.h y.h+1
theorem X1{N:ZF}(hN:GoodN N){x y:Tr}(hx:VE N x)(hy:VE N y)(hb:x.bytes+y.bytes<=65536):ConcOk N x y (JY N x y):=by
 unfold JY
 split
 ·rename_i h
  exact⟨hy,by omega,by rw[(hx.empty h).txt];rfl,by omega⟩
 ·rename_i h
  split
  ·rename_i h2
   exact⟨hx,by omega,by rw[(hy.empty h2).txt,List.append_nil],by omega⟩
  ·rename_i h2
   have vx:=hx.val h;have vy:=hy.val h2;have hm:=Jd hN _ x y vx vy rfl
   generalize QV N (x.h+y.h) x y=r at *
   have hx0:=hx.pos.2;have hy0:=hy.pos.2
   match r,hm.len,hm with
   | [t],_,hm =>
    have a:=hm.bytes;have b:=hm.txt;simp only[Tr.bytesL,Tr.txtL,List.append_nil,Int.add_zero]at a b
    exact⟨.inr (hm.val t (by simp)),a,b,by have:=hm.h t (by simp);simp only[grp];omega⟩
   | [t,u],_,hm =>
    have a:=hm.bytes;have b:=hm.txt
    have ht:=hm.h t (by simp)
    have hu:=hm.h u (by simp)
    have hpt:=(hm.val t (by simp)).pos.2
    have hpu:=(hm.val u (by simp)).pos.2
    simp only[Tr.bytesL,Int.add_zero]at a
    have h13:=(hm.val t (by simp)).height hN (by omega)
    obtain⟨g1,g2,g3⟩:=ZCp (l:=[t,u]) (h:=max x.h y.h) (by simp) (by simp) (by omega) (fun w hw=>⟨hm.val w hw,hm.h w hw,hm.two rfl w hw⟩)
    exact⟨.inr g1,by rw[g3];simp only[Tr.bytesL];omega,by rw[ZK3 N (by simp)];exact b,by omega⟩
   | [],h,_=>simp at h
   | _::_::_::_,h,_=>simp at h
def QZ:List Tr->Int->Nat × Int
 | [],a=>(0,a)
 | [_],a=>(0,a)
 | t::u::l,a=>if t.bytes<=a then ((QZ (u::l) (a-t.bytes)).1+1,(QZ (u::l) (a-t.bytes)).2) else (0,a)
theorem ZWr:∀(l:List Tr) (a:Int),1<=l.length->(∀t∈l,0<=t.bytes)->0<=a->a<Tr.bytesL l->(QZ l a).1<l.length/\0<=(QZ l a).2/\(QZ l a).2=a-Tr.bytesL (l.take (QZ l a).1)/\∀t,l[(QZ l a).1]?=some t->(QZ l a).2<t.bytes
 | [],a,h,_,_,_=>by simp at h
 | [t],a,_,h,h0,h1=>by
  simp only[Tr.bytesL]at h1;simp only[QZ,List.take_zero,Tr.bytesL,List.length_singleton,List.getElem?_cons_zero,Option.some.injEq]
  refine⟨by omega,h0,by omega,fun u hu=>by subst hu;omega⟩
 | t::u::l,a,_,h,h0,h1=>by
  rw[QZ]
  split
  ·rename_i hle
   rw[Tr.bytesL]at h1
   obtain⟨i1,i2,i3,i4⟩:=ZWr (u::l) (a-t.bytes) (by simp) (fun w hw=>h w (by simp[List.mem_cons.1 hw])) (by omega) (by omega)
   refine⟨by simp only[List.length_cons]at *;omega,i2,?_,?_⟩
   ·simp only[List.take_succ_cons,Tr.bytesL];omega
   ·intro w hw;exact i4 w (by simpa using hw)
  ·rename_i hlt
   have:=h t (by simp)
   refine⟨by simp,h0,by simp[Tr.bytesL],fun w hw=>?_⟩
   simp at hw;subst hw;omega
noncomputable def Jg(N:ZF):Nat->Tr->Int->Tr × Tr
 | 0,t,a =>
  if a=0 then (.zero,t) else if a=t.bytes then (t,.zero)
  else (Qk ((QB N t).take a.toNat),Qk ((QB N t).drop a.toNat))
 | n+1,t,a =>
  if a=0 then (.zero,t) else if a=t.bytes then (t,.zero)
  else if (QZ (Zh N t) a).2=0 then (grp ((Zh N t).take (QZ (Zh N t) a).1),grp ((Zh N t).drop (QZ (Zh N t) a).1))
  else (JY N (grp ((Zh N t).take (QZ (Zh N t) a).1)) (Jg N n ((Zh N t)[(QZ (Zh N t) a).1]?.getD .zero) (QZ (Zh N t) a).2).1,
   JY N (Jg N n ((Zh N t)[(QZ (Zh N t) a).1]?.getD .zero) (QZ (Zh N t) a).2).2 (grp ((Zh N t).drop ((QZ (Zh N t) a).1+1))))
theorem ZK5{N:ZF}{l:List Tr}{h:Nat}(h2:l.length<=4)(hh:h+1<=16)(hl:∀t∈l,Val N t/\t.h=h/\Big t):VE N (grp l)/\(grp l).h<=h+1/\(grp l).bytes=Tr.bytesL l/\(grp l).txt N=Tr.txtL N l/\(l.length<=1->(grp l).h<=h):=by
 match l,h2,hl with
 | [],_,_=>exact⟨.inl zero_empty,by simp[grp,Tr.zero,Tr.h],rfl,rfl,fun _=>by simp[grp,Tr.zero,Tr.h]⟩
 | [t],_,hl=>exact⟨.inr (hl t (by simp)).1,by have:=(hl t (by simp)).2.1;simp only[grp];omega,by simp[grp,Tr.bytesL],by simp[grp,Tr.txtL],fun _=>by have:=(hl t (by simp)).2.1;simp only[grp];omega⟩
 | t::u::r,h2,hl =>
  obtain⟨a,b,c⟩:=ZCp (l:=t::u::r) (by simp) h2 hh hl
  exact⟨.inr a,by omega,c,ZK3 N (by simp),fun q=>by simp at q⟩
structure CutOk(N:ZF)(t:Tr)(a:Int)(q:Tr × Tr):Prop where
 l:VE N q.1
 r:VE N q.2
 lb:q.1.bytes=a
 rb:q.2.bytes=t.bytes-a
 lt:q.1.txt N=(t.txt N).take a.toNat
 rt:q.2.txt N=(t.txt N).drop a.toNat
 lh:q.1.h<=t.h
 rh:q.2.h<=t.h
theorem ZnM{N:ZF}(hN:GoodN N){x y:Tr}(hx:Val N x)(hy:Val N y)(h:y.h<x.h)(hc:(Zh N x).length<=3):(QV N (x.h+y.h) x y).length=1:=by
 obtain⟨n,hn⟩:∃n,x.h+y.h=n+1:=⟨x.h+y.h-1,by omega⟩
 rw[hn,QV,if_neg (by omega),if_pos h]
 obtain⟨c1,c2,c3,c4⟩:=QR hN hx (by omega)
 generalize Zh N x=l at *
 have hs:=ZK4 (l:=l) (z:=Tr.zero) (by omega)
 have hum:l[l.length-1]?.getD Tr.zero∈l:=by rw[jE (by omega)];simp
 generalize l[l.length-1]?.getD Tr.zero=u at *
 obtain⟨u1,u2,u3⟩:=c1 u hum
 have hm:=Jd hN n u y u1 hy (by omega)
 generalize QV N n u y=r at *
 have hr:r.length<=2:=by rcases hm.len with w|w<;>omega
 unfold ZA6
 rw[if_pos (by rw[List.length_append,List.length_take];omega)]
 rfl
theorem ZlO{N:ZF}(hN:GoodN N){x y:Tr}(hx:Val N x)(hy:Val N y)(h:x.h<y.h)(hc:(Zh N y).length<=3):(QV N (x.h+y.h) x y).length=1:=by
 obtain⟨n,hn⟩:∃n,x.h+y.h=n+1:=⟨x.h+y.h-1,by omega⟩
 rw[hn,QV,if_neg (by omega),if_neg (by omega)]
 obtain⟨c1,c2,c3,c4⟩:=QR hN hy (by omega)
 generalize Zh N y=l at *
 have hum:l[0]?.getD Tr.zero∈l:=by rw[jE (by omega)];simp
 generalize l[0]?.getD Tr.zero=u at *
 obtain⟨u1,u2,u3⟩:=c1 u hum
 have hm:=Jd hN n x u hx u1 (by omega)
 generalize QV N n x u=r at *
 have hr:r.length<=2:=by rcases hm.len with w|w<;>omega
 unfold ZA6
 rw[if_pos (by rw[List.length_append,List.length_drop];omega)]
 rfl
theorem Zfb(N:ZF){l:List Tr}(h:2<=l.length):Zh N (grp l)=l:=by
 rw[ZRB h];rfl
theorem ZZV{N:ZF}(hN:GoodN N){x y:Tr}(hx:Val N x)(hy:Val N y)(h:(QV N (x.h+y.h) x y).length=1):(grp (QV N (x.h+y.h) x y)).h=max x.h y.h:=by
 have hm:=Jd hN _ x y hx hy rfl
 match QV N (x.h+y.h) x y,h,hm with
 | [t],_,hm=>exact hm.h t (by simp)
theorem Zrc{N:ZF}(hN:GoodN N){l:List Tr}{y:Tr}{h:Nat}(h3:l.length<=3)(hh:h+1<=16)(hl:∀t∈l,Val N t/\t.h=h/\Big t)(hy:VE N y)(hyh:y.h<=h)(hb:(grp l).bytes+y.bytes<=65536):(JY N (grp l) y).h<=h+1:=by
 obtain⟨g1,g2,g3,g4,g5⟩:=ZK5 (by omega) hh hl
 rcases Nat.lt_or_ge 1 l.length with q|q
 ·unfold JY
  split
  ·omega
  ·split
   ·exact g2
   ·rename_i a b
    have vg:=g1.val a;have vy:=hy.val b
    have hgh:(grp l).h=h+1:=(ZCp (by omega) (by omega) hh hl).2.1
    have h1:=ZnM hN vg vy (by omega) (by rw[Zfb N (by omega)];exact h3)
    rw[ZZV hN vg vy h1];omega
 ·have:=g5 q
  have:=(X1 hN g1 hy hb).h
  omega
theorem ZpU{N:ZF}(hN:GoodN N){l:List Tr}{x:Tr}{h:Nat}(h3:l.length<=3)(hh:h+1<=16)(hl:∀t∈l,Val N t/\t.h=h/\Big t)(hx:VE N x)(hxh:x.h<=h)(hb:x.bytes+(grp l).bytes<=65536):(JY N x (grp l)).h<=h+1:=by
 obtain⟨g1,g2,g3,g4,g5⟩:=ZK5 (by omega) hh hl
 rcases Nat.lt_or_ge 1 l.length with q|q
 ·unfold JY
  split
  ·exact g2
  ·split
   ·omega
   ·rename_i a b
    have vg:=g1.val b;have vx:=hx.val a
    have hgh:(grp l).h=h+1:=(ZCp (by omega) (by omega) hh hl).2.1
    have h1:=ZlO hN vx vg (by omega) (by rw[Zfb N (by omega)];exact h3)
    rw[ZZV hN vx vg h1];omega
 ·have:=g5 q
  have:=(X1 hN hx g1 hb).h
  omega
theorem ZK6{N:ZF}(hN:GoodN N):∀ {l:List Tr},(∀t∈l,Val N t)->((Tr.txtL N l).length:Int)=Tr.bytesL l
 | [],_=>rfl
 | t::l,h=>by
  have h1:=ZK2 hN (h t (by simp))
  have h2:=ZK6 hN (l:=l) (fun u hu=>h u (by simp[hu]))
  rw[Tr.txtL,Tr.bytesL,List.length_append];omega
theorem ZBU{N:ZF}(hN:GoodN N):∀n t a,VE N t->t.h=n->0<=a->a<=t.bytes->t.bytes<=65536->CutOk N t a (Jg N n t a):=by
 intro n
 induction n with
 | zero =>
  intro t a ht hh h0 h1 hb;have htl:=ht.len hN;rw[Jg]
  split
  ·rename_i h;subst h
   exact⟨.inl zero_empty,ht,rfl,by simp,rfl,rfl,by simp[Tr.zero,Tr.h],Nat.le_refl _⟩
  ·split
   ·rename_i h;subst h
    refine⟨ht,.inl zero_empty,rfl,by simp[zero_empty.bytes],?_,?_,Nat.le_refl _,by simp[Tr.zero,Tr.h]⟩
    ·rw[List.take_of_length_le (by omega)]
    ·rw[List.drop_of_length_le (by omega)];rfl
   ·rename_i q1 q2
    have vt:=ht.val (by omega)
    obtain⟨l1,l2⟩:=vt.line hh
    have e1:((QB N t).take a.toNat).length=a.toNat:=by rw[List.length_take];omega
    have e2:((QB N t).drop a.toNat).length=(QB N t).length-a.toNat:=by rw[List.length_drop]
    unfold Xn at l2
    refine⟨.inr (ZIK ⟨by omega,by omega⟩),.inr (ZIK ⟨by omega,by omega⟩),?_,?_,?_,?_,by simp[Qk,Tr.h],by simp[Qk,Tr.h]⟩
    ·simp only[XZ];omega
    ·simp only[XZ];omega
    ·simp only[ZWq,ZAv vt hh]
    ·simp only[ZWq,ZAv vt hh]
 | succ n ih =>
  intro t a ht hh h0 h1 hb;have htl:=ht.len hN;rw[Jg]
  split
  ·rename_i h;subst h
   exact⟨.inl zero_empty,ht,rfl,by simp,rfl,rfl,by simp[Tr.zero,Tr.h],Nat.le_refl _⟩
  ·split
   ·rename_i h;subst h
    refine⟨ht,.inl zero_empty,rfl,by simp[zero_empty.bytes],?_,?_,Nat.le_refl _,by simp[Tr.zero,Tr.h]⟩
    ·rw[List.take_of_length_le (by omega)]
    ·rw[List.drop_of_length_le (by omega)];rfl
   ·rename_i q1 q2
    have vt:=ht.val (by omega)
    have h16:=vt.h16
    obtain⟨c1,c2,c3,c4⟩:=QR hN vt (by omega)
    have htx:=ZAO hN vt (by omega)
    generalize Zh N t=l at *
    obtain⟨s1,s2,s3,s4⟩:=ZWr l a (by omega) (fun u hu=>by have:=(c1 u hu).1.pos.2;omega) h0 (by omega)
    generalize hk:(QZ l a).1=k at *
    generalize hb2:(QZ l a).2=b at *
    have hl:∀u∈l,Val N u/\u.h=n/\Big u:=fun u hu=>⟨(c1 u hu).1,by have:=(c1 u hu).2.1;omega,(c1 u hu).2.2⟩
    have ltk:(l.take k).length=k:=by rw[List.length_take];omega
    have ldk:(l.drop k).length=l.length-k:=by rw[List.length_drop]
    obtain⟨a1,a2,a3,a4,a5⟩:=ZK5 (l:=l.take k) (by omega) (show n+1<=16 by omega) (fun u hu=>hl u (List.mem_of_mem_take hu))
    obtain⟨b1,b2,b3,b4,b5⟩:=ZK5 (l:=l.drop k) (by omega) (show n+1<=16 by omega) (fun u hu=>hl u (List.mem_of_mem_drop hu))
    have hsum:Tr.bytesL l=Tr.bytesL (l.take k)+Tr.bytesL (l.drop k):=by rw[<- Tr.bytesL_append,List.take_append_drop]
    have htt:Tr.txtL N l=Tr.txtL N (l.take k)++Tr.txtL N (l.drop k):=by rw[<- Tr.txtL_append,List.take_append_drop]
    have hlt:=ZK6 hN (l:=l.take k) (fun u hu=>(hl u (List.mem_of_mem_take hu)).1)
    split
    ·rename_i hz
     refine⟨a1,b1,by simp only[a3];omega,by simp only[b3];omega,?_,?_,by simp only;omega,by simp only;omega⟩
     ·simp only[a4]
      rw[htx,htt,List.take_append_of_le_length (by omega),List.take_of_length_le (l:=Tr.txtL N (l.take k)) (by omega)]
     ·simp only[b4]
      rw[htx,htt,List.drop_append_of_le_length (by omega),List.drop_of_length_le (l:=Tr.txtL N (l.take k)) (by omega)];rfl
    ·rename_i hz
     obtain⟨u,hu⟩:∃u,l[k]?=some u:=⟨l[k],by simp[s1]⟩
     rw[hu];simp only[Option.getD_some];obtain⟨u1,u2,u3⟩:=hl u (jM hu);have hub:=s4 u hu
     have ldk1:(l.drop (k+1)).length=l.length-(k+1):=by rw[List.length_drop]
     have hdk:l.drop k=u::l.drop (k+1):=by
      have hlt:k<l.length:=s1;rw[List.drop_eq_getElem_cons hlt]
      congr 1
      rw[jE hlt]at hu;exact Option.some.inj hu
     rw[hdk]at hsum htt;rw[Tr.bytesL]at hsum;rw[Tr.txtL]at htt
     obtain⟨d1,d2,d3,d4,d5⟩:=ZK5 (l:=l.drop (k+1)) (by omega) (show n+1<=16 by omega) (fun w hw=>hl w (List.mem_of_mem_drop hw))
     have p1:=Tr.bytesL_nonneg (l:=l.take k) (fun w hw=>by have:=(hl w (List.mem_of_mem_take hw)).1.pos.2;omega)
     have p2:=Tr.bytesL_nonneg (l:=l.drop (k+1)) (fun w hw=>by have:=(hl w (List.mem_of_mem_drop hw)).1.pos.2;omega)
     have hc:=ih u b (.inr u1) u2 s2 (by omega) (by omega)
     generalize Jg N n u b=r at *
     have hut:=ZK2 hN u1
     have k1:=X1 hN a1 hc.l (by rw[hc.lb,a3];omega)
     have k2:=X1 hN hc.r d1 (by rw[hc.rb,d3];omega)
     refine⟨k1.ve,k2.ve,by rw[k1.bytes,hc.lb,a3];omega,by rw[k2.bytes,hc.rb,d3];omega,?_,?_,?_,?_⟩
     ·rw[k1.txt,a4,hc.lt,htx,htt,List.take_append,List.take_of_length_le (l:=Tr.txtL N (l.take k)) (by omega),List.take_append_of_le_length (by omega)]
      congr 2;omega
     ·rw[k2.txt,d4,hc.rt,htx,htt,List.drop_append,List.drop_of_length_le (l:=Tr.txtL N (l.take k)) (by omega),List.drop_append_of_le_length (by omega)]
      simp only[List.nil_append]
      congr 2;omega
     ·have:=Zrc hN (l:=l.take k) (by omega) (show n+1<=16 by omega) (fun w hw=>hl w (List.mem_of_mem_take hw)) hc.l (by have:=hc.lh;omega) (by rw[hc.lb,a3];omega)
      simp only;omega
     ·have:=ZpU hN (l:=l.drop (k+1)) (by omega) (show n+1<=16 by omega) (fun w hw=>hl w (List.mem_of_mem_drop hw)) hc.r (by have:=hc.rh;omega) (by rw[hc.rb,d3];omega)
      simp only;omega
theorem Val.kindNe{N:ZF}(hv:Val N t):∃k:Int,k≠1/\∀st,S Tb QQ [t.av] st=some (.int .i64 k,st):=by
 rcases hv.kind with h|h|h
 ·exact⟨2,by decide,fun st=>ZQ9 _ h st⟩
 ·exact⟨3,by decide,fun st=>ZRA _ h st⟩
 ·exact⟨4,by decide,fun st=>ZKy _ h st⟩
theorem ZQs{N:ZF}(hN:GoodN N){lv:Nat}(hr:Rd st lv ix N){x y:Tr}(hx:VE N x)(hy:VE N y):
 S Tb YI [.ptr lv ix 0 0 0,x.av,y.av] st=some (.tup [(JY N x y).av,.int .i64 0],st):=by
 refine Zj Y (fun A hA=>?_)
 have hrp:=fun L=>hr.push hA (ro:=false) (L:=L)
 unfold JY
 rcases hx with hx|hx
 ·rw[if_pos hx.bytes]
  have hK:=fun st=>ZBK x hx st
  repeat'(first|refine ruS Y ?_|refine isS Y ?_|refine rkS Y ?_|(refine cm0 Y Y Y ?_ ?_<;>intro _<;>try omega)|refine ZJ Y Y Y ?_|refine ZB Y Y Y (ZG _) ?_|refine Ze Y Y Y (Zn _ _ _) (Zx _ _) Y ?_|refine Za Y (ZQ _) (Zg _) ?_|refine ZA Y Y (by first|rfl|(simp only[List.nil_append,List.append_nil,List.cons_append,ZH,ZC,ZE];first|done|rfl)) (hK _) ?_)
  all_goals try omega
  exact ZCn hA (.inr Y) Y Y Y Y
 ·rw[if_neg (by have:=hx.pos.2;omega)]
  obtain⟨k,hk1,hK⟩:=hx.kindNe
  rcases hy with hy|hy
  ·rw[if_pos hy.bytes]
   have hK2:=fun st=>ZBK y hy st
   repeat'(first|refine ruS Y ?_|refine isS Y ?_|refine rkS Y ?_|(refine cm0 Y Y Y ?_ ?_<;>intro _<;>try omega)|refine ZJ Y Y Y ?_|refine ZB Y Y Y (ZG _) ?_|refine Ze Y Y Y (Zn _ _ _) (Zx _ _) Y ?_|refine Za Y (ZQ _) (Zg _) ?_|refine ZA Y Y (by first|rfl|(simp only[List.nil_append,List.append_nil,List.cons_append,ZH,ZC,ZE];first|done|rfl)) (hK _) ?_|refine ZA Y Y (by first|rfl|(simp only[List.nil_append,List.append_nil,List.cons_append,ZH,ZC,ZE];first|done|rfl)) (hK2 _) ?_)
   all_goals try omega
   exact ZCn hA (.inr Y) Y Y Y Y
  ·rw[if_neg (by have:=hy.pos.2;omega)]
   obtain⟨k2,hk2,hK2⟩:=hy.kindNe
   have hM:=fun L=>ZqZ hN (x.h+y.h) (hrp L) hx hy rfl
   have hMo:=Jd hN _ x y hx hy rfl
   generalize QV N (x.h+y.h) x y=r at *
   have hG:=fun st=>ZAA (v:=.lit (r.map Tr.av)) (l:=r) (st:=st) (by rcases hMo.len with w|w<;>omega) (fun t ht=>by have:=hMo.h t ht;have:=hx.h16;have:=hy.h16;omega) (.lit _)
   repeat'(first|refine ruS Y ?_|refine isS Y ?_|refine rkS Y ?_|(refine cm0 Y Y Y ?_ ?_<;>intro _<;>try omega)|(refine cm0 Y Y Y ?_ ?_<;>intro _<;>try omega)|refine ZJ Y Y Y ?_|refine ZB Y Y Y (ZG _) ?_|refine Ze Y Y Y (Zn _ _ _) (Zx _ _) Y ?_|refine Za Y (ZQ _) (Zg _) ?_|refine ZA Y Y (by first|rfl|(simp only[List.nil_append,List.append_nil,List.cons_append,ZH,ZC,ZE];first|done|rfl)) (hK _) ?_|refine ZA Y Y (by first|rfl|(simp only[List.nil_append,List.append_nil,List.cons_append,ZH,ZC,ZE];first|done|rfl)) (hK2 _) ?_|refine ZA Y Y (by first|rfl|(simp only[List.nil_append,List.append_nil,List.cons_append,ZH,ZC,ZE];first|done|rfl)) (hM _) ?_|refine ZA Y Y (by first|rfl|(simp only[List.nil_append,List.append_nil,List.cons_append,ZH,ZC,ZE];first|done|rfl)) (hG _) ?_)
   all_goals try omega
   exact ZCn hA (.inr Y) Y Y Y Y
section
variable {O:Orc}{k:List Fr}{Q:Qn}{e:Env}{A:List (Bool × List Blk)}{L:List Blk}{keep:List Nat}{is:List PI}{d:Nat}
theorem ZC1{b:Opd}{agg:Bool}{o jx vb ib ob:Nat}{x:AV}(ha:ZY e a=some (.ptr A.length ix ver i o))(hb:ZY e b=some (.ptr A.length jx vb ib ob))(hne:Nat.beq ix jx=false)
 (hg:L[ix]?=some (Blk.arr w ver es)) (hx:es[i]?=some x) (hv:Jn x agg o n=some v) (h:Is O is keep k Q ((d,v)::e) ⟨A,false,L⟩):Is O (⟨some d,none,false,.w (.hide [b]) (.ld agg n a)⟩::is) keep k Q e ⟨A,false,L⟩:=by
 refine ZYt ?_ h
 have hp:ZAc (Xu e [b]) A.length ix=false:=by
  have hxy:ix≠jx:=fun q=>by subst q;simp at hne
  simp[ZAc,Xu,ZD hb,YQ,hxy]
 have hgt:(St.hide (ZAc (Xu e [b])) ⟨A,false,L⟩).get A.length ix=some (Blk.arr w ver es):=by
  rw[XO,hp,St.get_cur,hg];rfl
 simp only[Zs,PO.reads,if_true,evalPO,ZD ha,loadP,hgt,ZGp,hx,hv,Option.bind_some,Qe,Z8]
theorem ZFC{x:Opd}{o:Nat}{v' y:AV}(hg:L[ix]?=some (Blk.arr w ver es))(ha:ZY e a=some (.ptr A.length ix ver i o))(hx:ZY e x=some v)(hy:es[i]?=some y)(him:imm 6 v=true)
 (hs:Zb QK (A.length+1) ⟨A,false,L⟩ v=some (v,⟨A,false,L⟩)) (hv:(Q7 w y o n v).bind YS=some v') (h:Is O is keep k Q e ⟨A,false,L.set ix (Blk.arr w ver (es.set i v'))⟩):Is O (⟨none,none,false,.w (.plain a) (.st n a x)⟩::is) keep k Q e ⟨A,false,L⟩:=by
 have hlt:ix<L.length:=by
  rw[List.getElem?_eq_some_iff]at hg;exact hg.1
 have hv':Q7 w y o n v=some v':=by
  simp only[Option.bind_eq_some_iff]at hv;obtain⟨u,h1,h2⟩:=hv;rw[h1,Yc h2]
 refine Zq (od:=none) (v:=.undef) (st':=⟨A,false,L.set ix (Blk.arr w ver (es.set i v'))⟩) ?_ h
 have hsb:ZIU (.ptr A.length ix ver i o) (.ptr A.length ix ver i o)=true:=by simp[ZIU]
 simp only[Zd,Zs,ZTU,ZD ha,ZD hx,hsb,him,and_self,if_true];simp only[evalPO,ZD ha,ZD hx,ZA7,hs,Option.bind_some,ZGM,St.get_cur,hg,vis,Xp,if_true,hy,hv',St.put,if_false,jB,if_pos hlt,ZCI]
end
theorem ZGJ{L:List Blk}{x:Ex}{b b2 c ix2 ver2 w2:Nat}{t2:Tr}{k:IntKind}{n:Int}(hA:A=st.A++[(st.ro,st.L)])(hx:x=.norm\/x=.ret)(ht:JV e b=some (.ptr A.length ix ver 0 0))(hg:L[ix]?=some (.arr w ver [t.av]))
 (ht2:JV e b2=some (.ptr A.length ix2 ver2 0 0)) (hg2:L[ix2]?=some (.arr w2 ver2 [t2.av])) (hc:JV e c=some (.int k n)) (hu:.tup [t.av,t2.av,.int k n]=u):Jp false [.c b true 7,.c b2 true 7,.s c] (x,e,⟨A,false,L⟩)=some (u,st):=by
 subst hu;refine ZGP (v:=.tup [t.av,t2.av,.int k n]) (ro:=false) (L':=L) hA hx ?_ ?_ Y
 ·simp only[Qo,ZC8,ZCz ht hg,ZCz ht2 hg2,Option.bind_some]
  simp only[ZCJ,Z9 hc,Option.bind_some,Option.map_some,ZGq]
 ·show (mapSt (Zb 5 A.length) _ _).bind ZcE=_
  rw[mapSt,XW 3,Option.bind_some,mapSt,XW 3];rfl
theorem Ztt{N:ZF}(hN:GoodN N):∀(n:Nat) {st:St} {lv ix:Nat} (hr:Rd st lv ix N) {t:Tr} (ht:VE N t) (hn:t.h=n) (a:Int) (h0:0<=a) (h1:a<=t.bytes) (hb:t.bytes<=65536),
 S Tb ZAK [.ptr lv ix 0 0 0,t.av,.int .i64 a] st=some (.tup [(Jg N n t a).1.av,(Jg N n t a).2.av,.int .i64 0],st):=by
 intro n
 induction n with
 | zero =>
  intro st lv ix hr t ht hn a h0 h1 hb
  refine Zj Y (fun A hA=>?_)
  have hrp:=fun L=>hr.push hA (ro:=false) (L:=L)
  have hB:=fun st=>X9 t ht.pos.1 (by omega) st
  rw[Jg]
  by_cases ha:a=0
  ·rw[if_pos ha]
   repeat'(first|refine ruS Y ?_|refine isS Y ?_|refine rkS Y ?_|(refine cm0 Y Y Y ?_ ?_<;>intro _<;>try omega)|refine ZZ Y Y Y ?_|refine ZJ Y Y Y ?_|refine Ze Y Y Y (Zn _ _ _) (Zx _ _) Y ?_|refine Za Y (ZQ _) (Zg _) ?_|refine ZC1 Y Y Y Y Y (ZG _) ?_|refine ZFC Y Y Y Y Y Y Y ?_)
   all_goals try omega
   exact ZGJ (t:=.zero) hA (.inr Y) Y Y Y Y Y Y
  ·rw[if_neg ha]
   by_cases ha2:a=t.bytes
   ·rw[if_pos ha2]
    repeat'(first|refine ruS Y ?_|refine isS Y ?_|refine rkS Y ?_|(refine cm0 Y Y Y ?_ ?_<;>intro _<;>try omega)|refine ZZ Y Y Y ?_|refine ZJ Y Y Y ?_|refine Ze Y Y Y Y Y Y ?_|refine ZB Y Y Y (ZG _) ?_|refine Ze Y Y Y (Zn _ _ _) (Zx _ _) Y ?_|refine Za Y (ZQ _) (Zg _) ?_|refine ZA Y Y (by first|rfl|(simp only[List.nil_append,List.append_nil,List.cons_append,ZH,ZC,ZE];first|done|rfl)) (hB _) ?_)
    all_goals try omega
    exact ZGJ (t2:=.zero) hA (.inr Y) Y Y Y Y Y Y
   ·rw[if_neg ha2]
    have hv:=ht.val (by omega)
    have hl:=hv.line hn
    have hL:=fun L=>ZlN (hrp L) hv
    have hC:=fun st=>Zxv (QB N t) a st
    rw[<- ZqX hl.2 (by omega)]at hC
    generalize QB N t=s at *
    repeat'(first|refine ruS Y ?_|refine isS Y ?_|refine rkS Y ?_|(refine cm0 Y Y Y ?_ ?_<;>intro _<;>try omega)|(refine cm0 Y Y Y ?_ ?_<;>intro _<;>try omega)|refine ZZ Y Y Y ?_|refine ZJ Y Y Y ?_|refine Ze Y Y Y Y Y Y ?_|refine ZB Y Y Y (ZG _) ?_|refine Za Y (ZQ _) (Zg _) ?_|refine ZB Y Y Y (Qz _) ?_|refine ZA Y Y (by first|rfl|(simp only[List.nil_append,List.append_nil,List.cons_append,ZH,ZC,ZE];first|done|rfl)) (hB _) ?_|refine ZA Y Y (by first|rfl|(simp only[List.nil_append,List.append_nil,List.cons_append,ZH,ZC,ZE];first|done|rfl)) (hL _) ?_|refine ZA Y Y (by first|rfl|(simp only[List.nil_append,List.append_nil,List.cons_append,ZH,ZC,ZE];first|done|rfl)) (hC _) ?_)
    all_goals try omega
    exact ZGJ (t:=Qk (s.take a.toNat)) (t2:=Qk (s.drop a.toNat)) hA (.inr Y) Y Y Y Y Y Y
 | succ n ih =>
  intro st lv ix hr t ht hn a h0 h1 hb
  refine Zj Y (fun A hA=>?_)
  have hrp:=fun L=>hr.push hA (ro:=false) (L:=L)
  have hB:=fun st=>X9 t ht.pos.1 (by omega) st
  rw[Jg]
  by_cases ha:a=0
  ·rw[if_pos ha]
   repeat'(first|refine ruS Y ?_|refine isS Y ?_|refine rkS Y ?_|(refine cm0 Y Y Y ?_ ?_<;>intro _<;>try omega)|refine ZZ Y Y Y ?_|refine ZJ Y Y Y ?_|refine Ze Y Y Y (Zn _ _ _) (Zx _ _) Y ?_|refine Za Y (ZQ _) (Zg _) ?_|refine ZC1 Y Y Y Y Y (ZG _) ?_|refine ZFC Y Y Y Y Y Y Y ?_)
   all_goals try omega
   exact ZGJ (t:=.zero) hA (.inr Y) Y Y Y Y Y Y
  ·rw[if_neg ha]
   by_cases ha2:a=t.bytes
   ·rw[if_pos ha2]
    repeat'(first|refine ruS Y ?_|refine isS Y ?_|refine rkS Y ?_|(refine cm0 Y Y Y ?_ ?_<;>intro _<;>try omega)|refine ZZ Y Y Y ?_|refine ZJ Y Y Y ?_|refine Ze Y Y Y Y Y Y ?_|refine ZB Y Y Y (ZG _) ?_|refine Ze Y Y Y (Zn _ _ _) (Zx _ _) Y ?_|refine Za Y (ZQ _) (Zg _) ?_|refine ZA Y Y (by first|rfl|(simp only[List.nil_append,List.append_nil,List.cons_append,ZH,ZC,ZE];first|done|rfl)) (hB _) ?_)
    all_goals try omega
    exact ZGJ (t2:=.zero) hA (.inr Y) Y Y Y Y Y Y
   ·rw[if_neg ha2]
    have vt:=ht.val (by omega)
    have h16:=vt.h16
    obtain⟨c1,c2,c3,c4⟩:=QR hN vt (by omega)
    have hC:=fun L=>ZBO (hrp L) vt (by omega)
    generalize Zh N t=l at *
    have hl:∀u∈l,Val N u/\u.h=n/\Big u:=fun u hu=>⟨(c1 u hu).1,by have:=(c1 u hu).2.1;omega,(c1 u hu).2.2⟩
    have hpos:∀u∈l,0<=u.bytes:=fun u hu=>by have:=(hl u hu).1.pos.2;omega
    obtain⟨s1,s2,s3,s4⟩:=ZWr l a (by omega) hpos h0 (by omega)
    have key:∀k Q p6 p7 L,
     (Rk (S Tb) k Q (.ex 0) [(0,.ptr lv ix 0 0 0),(2,.int .i64 (QZ l a).2),(6,.ptr A.length p6 0 0 0),(7,.ptr A.length p7 0 0 0),(13,.lit (l.map Tr.av)),(14,.int .i64 (QZ l a).1),(77,.bool false)] ⟨A,false,L⟩) ->
     Ru (S Tb) (.loop ZTK) k Q [(0,.ptr lv ix 0 0 0),(2,.int .i64 a),(6,.ptr A.length p6 0 0 0),(7,.ptr A.length p7 0 0 0),(13,.lit (l.map Tr.av)),(14,.int .i64 0)] ⟨A,false,L⟩:=by
     intro k Q p6 p7 L hex
     refine Zc (α:=Nat × Int) (fun p=>[(0,.ptr lv ix 0 0 0),(2,.int .i64 p.2),(6,.ptr A.length p6 0 0 0),(7,.ptr A.length p7 0 0 0),(13,.lit (l.map Tr.av)),(14,.int .i64 p.1)]) (fun p=>⟨A,false,L⟩)
      (fun p=>p.1<l.length/\0<=p.2/\p.2<=a/\(QZ l a).1=p.1+(QZ (l.drop p.1) p.2).1/\(QZ l a).2=(QZ (l.drop p.1) p.2).2) (fun p=>l.length-p.1) (0,a) rfl rfl ⟨by simp only;omega,h0,Int.le_refl _,by simp,by simp⟩ ?_
     rintro⟨i,b⟩ ⟨i1,i2,i3,i4,i5⟩
     simp only at i1 i2 i3 i4 i5 ⊢
     have hu:l[i]?=some l[i]:=by simp[i1]
     generalize l[i]=u at hu;have hum:=jM hu;have hub:=hpos u hum
     have hu16:u.bytes<=65536:=by
      have e:=hu
      have e2:Tr.bytesL l=Tr.bytesL (l.take i)+(u.bytes+Tr.bytesL (l.drop (i+1))):=by
       conv=>lhs;rw[<- List.take_append_drop (i+1) l,ZU hu,Tr.bytesL_append,Tr.bytesL_append]
       simp[Tr.bytesL];omega
      have:=Tr.bytesL_nonneg (l:=l.take i) (fun w hw=>hpos w (List.mem_of_mem_take hw))
      have:=Tr.bytesL_nonneg (l:=l.drop (i+1)) (fun w hw=>hpos w (List.mem_of_mem_drop hw))
      omega
     have hBu:∀w,l[((i:Nat):Int).toNat]?=some w->∀st,S Tb QU [w.av] st=some (.int .i64 u.bytes,st):=by
      intro w hw st;have hw2:l[i]?=some w:=hw;rw[hu]at hw2
      have:=Option.some.inj hw2
      subst this
      exact X9 u (hl u hum).1.pos.1 (by omega) st
     have hd:l.drop i=u::l.drop (i+1):=by
      rw[List.drop_eq_getElem_cons i1]
      congr 1
      rw[jE i1]at hu;exact Option.some.inj hu
     repeat'(first|refine ruS Y ?_|refine isS Y ?_|refine rkS Y ?_|refine Zi Y ?_|(refine cm0 Y Y Y ?_ ?_<;>intro _<;>try omega)|(refine cm0 Y Y Y ?_ ?_<;>intro _<;>try omega)|refine ZL Y Y (by omega) ?_|refine QC Y Y (by omega) ?_|refine QY Y Y (by omega) ZQ (fun _ _=>?_)|refine Zk Y (ZG _) ?_|refine ZA Y Y (by first|rfl|(simp only[List.nil_append,List.append_nil,List.cons_append,ZH,ZC,ZE];first|done|rfl)) (hBu _ (by assumption) _) ?_)
     all_goals try omega
     ·rename_i g1 g2 g3 g4 g5 g6
      have hne:l.drop (i+1)≠[]:=by
       intro q
       have:=congrArg List.length q
       rw[List.length_drop]at this
       simp at this;omega
      have hsk:QZ (l.drop i) b=((QZ (l.drop (i+1)) (b-u.bytes)).1+1,(QZ (l.drop (i+1)) (b-u.bytes)).2):=by
       rw[hd]
       cases hq:l.drop (i+1) with
       | nil=>exact absurd hq hne
       | cons v r=>rw[QZ,if_pos (by omega)]
      refine⟨(i+1,b-u.bytes),⟨rfl,rfl⟩,⟨by simp only;omega,by simp only;omega,by simp only;omega,?_,?_⟩,by simp only;omega⟩
      ·simp only[i4,hsk];omega
      ·simp only[i5,hsk]
     ·have hsk : QZ (l.drop i) b = (0, b) := by
       rw[hd]
       cases hq:l.drop (i+1) with
       | nil=>rfl
       | cons v r=>rw[QZ,if_neg (by omega)]
      rw[i4,i5,hsk]at hex;exact hex
     ·have hq:l.drop (i+1)=[]:=List.drop_of_length_le (by omega)
      have hsk:QZ (l.drop i) b=(0,b):=by rw[hd,hq];rfl
      rw[i4,i5,hsk]at hex;exact hex
    repeat'(first|refine ruS Y ?_|refine isS Y ?_|refine ZX ?_|(refine cm0 Y Y Y ?_ ?_<;>intro _<;>try omega)|(refine cm0 Y Y Y ?_ ?_<;>intro _<;>try omega)|refine ZJ Y Y Y ?_|refine ZB Y Y Y (ZG _) ?_|refine Za Y (ZQ _) (Zg _) ?_|refine ZB Y Y Y (Qz _) ?_|refine ZA Y Y (by first|rfl|(simp only[List.nil_append,List.append_nil,List.cons_append,ZH,ZC,ZE];first|done|rfl)) (hB _) ?_|refine ZA Y Y (by first|rfl|(simp only[List.nil_append,List.append_nil,List.cons_append,ZH,ZC,ZE];first|done|rfl)) (hC _) ?_)
    all_goals try omega
    refine key _ _ _ _ _ ?_
    generalize hk:(QZ l a).1=k at *
    generalize hb2:(QZ l a).2=b at *
    have hlm:(l.map Tr.av).length=l.length:=by simp
    have hh1:∀u∈l.take k,u.h<=65536:=fun u hu=>by have:=(hl u (List.mem_of_mem_take hu)).2.1;omega
    have hh2:∀u∈l.drop k,u.h<=65536:=fun u hu=>by have:=(hl u (List.mem_of_mem_drop hu)).2.1;omega
    have hh3:∀u∈l.drop (k+1),u.h<=65536:=fun u hu=>by have:=(hl u (List.mem_of_mem_drop hu)).2.1;omega
    have hG1:∀st,S Tb QJ [.lit ((l.map Tr.av).take ((k:Nat):Int).toNat)] st=some ((grp (l.take k)).av,st):=fun st=>ZAA (by rw[List.length_take];omega) hh1 (by rw[Int.toNat_natCast,<- List.map_take];exact .lit _)
    have hG2:∀st,S Tb QJ [.lit ((l.map Tr.av).drop ((k:Nat):Int).toNat)] st=some ((grp (l.drop k)).av,st):=fun st=>ZAA (by rw[List.length_drop];omega) hh2 (by rw[Int.toNat_natCast,<- List.map_drop];exact .lit _)
    have hG3:∀st,S Tb QJ [.lit ((l.map Tr.av).drop (((k:Nat):Int)+1).toNat)] st=some ((grp (l.drop (k+1))).av,st):=fun st=>ZAA (by rw[List.length_drop];omega) hh3 (by rw[show (((k:Nat):Int)+1).toNat=k+1 by omega,<- List.map_drop];exact .lit _)
    by_cases hz:b=0
    ·rw[if_pos hz]
     generalize grp (l.take k)=g1 at *
     generalize grp (l.drop k)=g2 at *
     repeat'(first|refine ruS Y ?_|refine isS Y ?_|refine rkS Y ?_|(refine cm0 Y Y Y ?_ ?_<;>intro _<;>try omega)|refine Ze Y Y Y (Zn _ _ _) (Zx _ _) Y ?_|refine XP Y Y (by omega) (JB _) ?_|refine ZBH Y Y (by omega) (JB _) ?_|refine Zw Y Y Y (hG1 _) ?_|refine ZA Y Y (by first|rfl|(simp only[List.nil_append,List.append_nil,List.cons_append,ZH,ZC,ZE];first|done|rfl)) (hG2 _) ?_)
     all_goals try omega
     exact ZGJ hA (.inr Y) Y Y Y Y Y Y
    ·rw[if_neg hz]
     obtain⟨u,hu⟩:∃u,l[k]?=some u:=⟨l[k],by simp[s1]⟩
     rw[hu];simp only[Option.getD_some];obtain⟨u1,u2,u3⟩:=hl u (jM hu);have hub:=s4 u hu
     have hsum:Tr.bytesL l=Tr.bytesL (l.take k)+(u.bytes+Tr.bytesL (l.drop (k+1))):=by
      conv=>lhs;rw[<- List.take_append_drop (k+1) l,ZU hu,Tr.bytesL_append,Tr.bytesL_append]
      simp[Tr.bytesL];omega
     have p1:=Tr.bytesL_nonneg (l:=l.take k) (fun w hw=>hpos w (List.mem_of_mem_take hw))
     have p2:=Tr.bytesL_nonneg (l:=l.drop (k+1)) (fun w hw=>hpos w (List.mem_of_mem_drop hw))
     have hc:=ZBU hN n u b (.inr u1) u2 s2 (by omega) (by omega)
     have hcut:∀w,l[((k:Nat):Int).toNat]?=some w->∀L,S Tb ZAK [.ptr lv ix 0 0 0,w.av,.int .i64 b] ⟨A,false,L⟩=some (.tup [(Jg N n u b).1.av,(Jg N n u b).2.av,.int .i64 0],⟨A,false,L⟩):=by
      intro w hw L;have hw2:l[k]?=some w:=hw;rw[hu]at hw2
      have:=Option.some.inj hw2
      subst this
      exact ih (hrp L) (.inr u1) u2 b s2 (by omega) (by omega)
     have a1:=(ZK5 (N:=N) (l:=l.take k) (by rw[List.length_take];omega) (show n+1<=16 by omega) (fun u hu=>hl u (List.mem_of_mem_take hu))).1
     have d1:=(ZK5 (N:=N) (l:=l.drop (k+1)) (by rw[List.length_drop];omega) (show n+1<=16 by omega) (fun u hu=>hl u (List.mem_of_mem_drop hu))).1
     have hcl:=hc.l;have hcr:=hc.r
     have hK1:=fun L=>ZQs hN (hrp L) a1 hcl
     have hK2:=fun L=>ZQs hN (hrp L) hcr d1
     generalize Jg N n u b=r at *
     obtain⟨r1,r2⟩:=r
     simp only at *
     generalize grp (l.take k)=g1 at *
     generalize grp (l.drop (k+1))=g3 at *
     generalize JY N g1 r1=z1 at *
     generalize JY N r2 g3=z2 at *
     repeat'(first|refine ruS Y ?_|refine isS Y ?_|refine rkS Y ?_|(refine cm0 Y Y Y ?_ ?_<;>intro _<;>try omega)|(refine cm0 Y Y Y ?_ ?_<;>intro _<;>try omega)|refine ZL Y Y (by omega) ?_|refine ZJ Y Y Y ?_|refine QY Y Y (by omega) ZQ (fun _ _=>?_)|refine Zk Y (ZG _) ?_|refine ZB Y Y Y (ZG _) ?_|refine Ze Y Y Y (Zn _ _ _) (Zx _ _) Y ?_|refine XP Y Y (by omega) (JB _) ?_|refine ZBH Y Y (by omega) (JB _) ?_|refine Zw Y Y Y (hG1 _) ?_|refine Zw Y Y Y (hG3 _) ?_|refine ZA Y Y (by first|rfl|(simp only[List.nil_append,List.append_nil,List.cons_append,ZH,ZC,ZE];first|done|rfl)) (hcut _ (by assumption) _) ?_|refine ZA Y Y (by first|rfl|(simp only[List.nil_append,List.append_nil,List.cons_append,ZH,ZC,ZE];first|done|rfl)) (hK1 _) ?_|refine ZA Y Y (by first|rfl|(simp only[List.nil_append,List.append_nil,List.cons_append,ZH,ZC,ZE];first|done|rfl)) (hK2 _) ?_|refine ZC1 Y Y Y Y Y (ZG _) ?_|refine ZFC Y Y Y Y (ZYv 4 _) (Zn _ _ _) (Zx _ _) ?_)
     all_goals try omega
     exact ZGJ hA (.inr Y) Y Y Y Y Y Y
end Go.Q15
