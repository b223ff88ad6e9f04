/- A part of the proof: CUo, CVa, CVb, CVc, CVd, CVe, CVf, CVg, CVh, CVi, FY, SHJ, TZa, TZw, FYi, FYc, TZc. No condition. -/
import Derived.SliceStrings
import Derived.Deep.Slices
import Derived.Carry
import Derived.Shelf.Strings.OnBuilder
import Derived.Test.YtleajkoecgbnlaaGreatProg
import Derived.ChangeSlices
import Derived.Test.YtleajkoecgbnlaaGreatCaT9
set_option linter.unusedSectionVars false
set_option linter.unusedVariables false
set_option linter.unusedSimpArgs false
set_option maxHeartbeats 32000000
set_option maxRecDepth 100000
namespace Go.Q15
open Go Go.QAbs
variable {f:FuncId}{A:List (Bool × List Blk)}{args:LV}{l s:B8}{a k la:Nat}
theorem ZsM{st:St}{b:Nat}{N:ZO}(hN:GoodN N)(hR:Rd st la (b+5) N){r:Ro}(h:Rt N r s){k:Int}(hk:r.m.l<k)(hk2:k<1000000):
 S Tb Jy [.ptr la (b+5) 0 0 0,r.av,.int .i64 k] st=some (.tup [.int .i64 0,.int .i64 3],st):=by
 have hm:=h.m hN
 have hmr:r.m.l=s.countP QB:=by rw[hm];rfl
 refine QA Y (fun A hA=>?_)
 have hC:=fun L=>ZDx (hR.push hA (ro:=false) (L:=L)) h.rt
 unfold Ro.av at *
 repeat'(first|refine ZE ?_|refine ZD ?_|refine ZG Y ?_|refine ZI Y Y ?_|refine ZQ Y Y Y Y ?_|refine Z9 Y ?_|refine Zi Y Y Y Y ?_|refine ZB Y ?_|refine ZC ?_|(refine cm0 Y Y Y ?_ ?_<;>intro _<;>try omega)|refine ZU Y ?_|refine ZF Y ?_|refine Zc Y Y Y ?_|refine ZA Y Y Y (hC _) ?_|refine ZH ?_|refine ZP ?_|refine ZL ?_|refine ZW ?_)
 all_goals try first|contradiction|omega
 all_goals refine ZX hA (by simp) Y Y Y Y ?_
 all_goals rfl
section
variable {st:St}{lv ic li ver la b:Nat}{r:Ro}{es:LV}{vis:Int}{N:ZO}{s:B8}{a:Nat}
theorem Zm4(H:CurN st lv ic li la b r N s a vis ver es)(hla:la<=lv)(hR:RdO st la (b+5) N [(lv,ic),(lv,li)])(hN:GoodN N)(h:Rt N r s)(h0:r.at_≠0)(hs:s.length<=100000)(ha:a<=s.length)(hv:0<=vis/\vis<700000000)(x:Nat)(hx:x<=s.length)
 (hL:∀ {st:St},Rd st la (b+5) N->S Tb Jy [.ptr la (b+5) 0 0 0,r.av,.int .i64 ((((s.take a).countP QB:Nat):Int)+1)] st=some (.tup [.int .i64 x,.int .i64 0],st)) :
 ∃ver2 es2 vis2,S Tb Qq [.ptr lv ic 0 0 0] st=some (.int .i64 0,Zv st [(lv,ic),(lv,li)] (Qx (.ptr la (b+5) 0 0 0) r lv li ver2 (r.h+1) es2 vis2 x)) /\
  CurN (Zv st [(lv,ic),(lv,li)] (Qx (.ptr la (b+5) 0 0 0) r lv li ver2 (r.h+1) es2 vis2 x)) lv ic li la b r N s x vis2 ver2 es2/\vis2=vis+((r.h+1-cmL N (min (a:Int) (s.length-1)) (min (x:Int) (s.length-1)) r.h (QM r):Nat):Int):=by
 obtain⟨A,hA⟩:∃A,A=st.ps:=⟨_,rfl⟩;have hlt:∀k∈[(lv,ic),(lv,li)],k.1<=st.A.length:=H.cl.le;have hmb:r.m.b=s.length:=(h.b hN).2;have H1:CurN ⟨A,false,[]⟩ lv ic li la b r N s a vis ver es:=⟨H.cl.push hA,H.le,H.es⟩;have hR1:=hR.push (L:=[]) hA;obtain⟨ver2,es2,vis2,hJ,hC,hvis⟩:=ZjH H1 hla hR1 hN h h0 hs ha hv x hx;refine⟨ver2,es2,vis2,?_,⟨H.cl.put Y Y,hC.le,hC.es⟩,hvis⟩;rw[J4 hA hlt]at hJ;have hg:=H1.cl.get 0 lv ic _ rfl rfl;have hRe:=Yq hN h hg hR1.rd
 have hLO:=Zcj hN hR1.rd h (a:=(a:Int)) (by omega) (by omega) hs
 have hcl:=List.countP_le_length (p:=QB) (l:=s.take a)
 have htl:(s.take a).length<=s.length:=by simp;omega
 rw[show ((a:Nat):Int).toNat=a by omega]at hLO
 have hLi:=hL hR1.rd
 generalize (s.take a).countP QB=n at *
 refine Jz Y (fun A' hA'=>?_)
 obtain rfl:A'=A:=hA'.trans hA.symm;obtain⟨B,hB⟩:∃B,B=(Zv st [(lv,ic),(lv,li)] (Qx (.ptr la (b+5) 0 0 0) r lv li ver2 (r.h+1) es2 vis2 x)).ps:=⟨_,rfl⟩;rw[<- hB]at hJ;unfold Qz at hg;unfold Ro.av at hLO hLi
 repeat'(first|refine Zt Y hg Y Y ?_|refine ZE ?_|refine ZD ?_|refine ZG Y ?_|refine ZI Y Y ?_|refine Zp Y Y ?_|refine ZB Y ?_|refine ZC ?_|refine Ze Y Y ?_|(refine cm0 Y Y Y ?_ ?_<;>intro _<;>try omega)|refine ZF Y ?_|refine Zr Y Y (by omega) ?_|refine ZA Y Y Y (hRe) ?_|refine ZA Y Y Y (hJ) ?_|refine ZA Y Y Y (hLO) ?_|refine ZA Y Y Y (hLi) ?_|refine ZH ?_|refine ZP ?_|refine ZL ?_)
 all_goals try first|contradiction|omega
 exact ZX hB (.inr Y) Y Y Y Y Y
theorem Zm5(H:CurN st lv ic li la b r N s a vis ver es)(hla:la<=lv)(hR:RdO st la (b+5) N [(lv,ic),(lv,li)])(hN:GoodN N)(h:Rt N r s)(h0:r.at_≠0)(hs:s.length<=100000)(ha:a<=s.length)(ha0:0<a)(hv:0<=vis/\vis<700000000)(x:Nat)(hx:x<=s.length)
 (hL:∀ {st:St},Rd st la (b+5) N->S Tb Jy [.ptr la (b+5) 0 0 0,r.av,.int .i64 (((s.take (a-1)).countP QB:Nat):Int)] st=some (.tup [.int .i64 x,.int .i64 0],st)) :
 ∃ver2 es2 vis2,S Tb Qr [.ptr lv ic 0 0 0] st=some (.int .i64 0,Zv st [(lv,ic),(lv,li)] (Qx (.ptr la (b+5) 0 0 0) r lv li ver2 (r.h+1) es2 vis2 x)) /\
  CurN (Zv st [(lv,ic),(lv,li)] (Qx (.ptr la (b+5) 0 0 0) r lv li ver2 (r.h+1) es2 vis2 x)) lv ic li la b r N s x vis2 ver2 es2/\vis2=vis+((r.h+1-cmL N (min (a:Int) (s.length-1)) (min (x:Int) (s.length-1)) r.h (QM r):Nat):Int):=by
 obtain⟨A,hA⟩:∃A,A=st.ps:=⟨_,rfl⟩;have hlt:∀k∈[(lv,ic),(lv,li)],k.1<=st.A.length:=H.cl.le;have H1:CurN ⟨A,false,[]⟩ lv ic li la b r N s a vis ver es:=⟨H.cl.push hA,H.le,H.es⟩;have hR1:=hR.push (L:=[]) hA;obtain⟨ver2,es2,vis2,hJ,hC,hvis⟩:=ZjH H1 hla hR1 hN h h0 hs ha hv x hx;refine⟨ver2,es2,vis2,?_,⟨H.cl.put Y Y,hC.le,hC.es⟩,hvis⟩;rw[J4 hA hlt]at hJ;have hg:=H1.cl.get 0 lv ic _ rfl rfl;have hRe:=Yq hN h hg hR1.rd
 have hLO:=Zcj hN hR1.rd h (a:=(a:Int)-1) (by omega) (by omega) hs
 rw[show ((a:Int)-1).toNat=a-1 by omega]at hLO
 have hLi:=hL hR1.rd
 generalize (s.take (a-1)).countP QB=n at *
 have hai:((a:Nat):Int)≠0:=by omega
 refine Jz Y (fun A' hA'=>?_)
 obtain rfl:A'=A:=hA'.trans hA.symm;obtain⟨B,hB⟩:∃B,B=(Zv st [(lv,ic),(lv,li)] (Qx (.ptr la (b+5) 0 0 0) r lv li ver2 (r.h+1) es2 vis2 x)).ps:=⟨_,rfl⟩;rw[<- hB]at hJ;unfold Qz at hg;unfold Ro.av at hLO hLi
 repeat'(first|refine Zt Y hg Y Y ?_|refine ZE ?_|refine ZD ?_|refine ZG Y ?_|refine ZI Y Y ?_|refine Zp Y Y ?_|refine ZB Y ?_|refine ZC ?_|refine Ze Y Y ?_|(refine cm0 Y Y Y ?_ ?_<;>intro _<;>try omega)|refine ZF Y ?_|refine Qe Y Y (by omega) ?_|refine ZA Y Y Y (hRe) ?_|refine ZA Y Y Y (hJ) ?_|refine ZA Y Y Y (hLO) ?_|refine ZA Y Y Y (hLi) ?_|refine ZH ?_|refine ZP ?_|refine ZL ?_)
 all_goals try first|contradiction|omega
 exact ZX hB (.inr Y) Y Y Y Y Y
theorem ZQR{lev:AV}(hg0:st.get lv ic=some (Qz (.ptr la (b+5) 0 0 0) r lev vis a))(hR:Rd st la (b+5) N)(hN:GoodN N)(h:Rt N r s)(hs:s.length<=100000)(ha:a<=s.length)(he:r.m.l<((s.take a).countP QB:Nat)+1):
 S Tb Qq [.ptr lv ic 0 0 0] st=some (.int .i64 3,st):=by
 refine QA Y (fun A hA=>?_)
 have hg:=ZV hA (ro:=false) (L:=[]) hg0;have hR1:=hR.push hA (ro:=false) (L:=[]);have hRe:=Yq hN h hg hR1
 have hLO:=Zcj hN hR1 h (a:=(a:Int)) (by omega) (by omega) hs
 have hcl:=List.countP_le_length (p:=QB) (l:=s.take a)
 have htl:(s.take a).length<=s.length:=by simp;omega
 rw[show ((a:Nat):Int).toNat=a by omega]at hLO
 have hLi:=ZsM hN hR1 h he (by omega)
 generalize (s.take a).countP QB=n at *
 unfold Qz at hg;unfold Ro.av at hLO hLi
 repeat'(first|refine Zt Y hg Y Y ?_|refine ZE ?_|refine ZD ?_|refine ZG Y ?_|refine ZI Y Y ?_|refine Zp Y Y ?_|refine ZB Y ?_|refine ZC ?_|refine Ze Y Y ?_|(refine cm0 Y Y Y ?_ ?_<;>intro _<;>try omega)|refine ZU Y ?_|refine ZF Y ?_|refine Zr Y Y (by omega) ?_|refine ZA Y Y Y (hRe) ?_|refine ZA Y Y Y (hLO) ?_|refine ZA Y Y Y (hLi) ?_|refine ZH ?_|refine ZP ?_|refine ZL ?_|refine ZW ?_)
 all_goals try first|contradiction|omega
 all_goals refine ZX hA (by simp) Y Y Y Y ?_
 all_goals rfl
theorem Zcp{lev:AV}(hg0:st.get lv ic=some (Qz (.ptr la (b+5) 0 0 0) r lev vis 0))(hR:Rd st la (b+5) N)(hN:GoodN N)(h:Rt N r s):S Tb Qr [.ptr lv ic 0 0 0] st=some (.int .i64 3,st):=by
 refine QA Y (fun A hA=>?_)
 have hg:=ZV hA (ro:=false) (L:=[]) hg0;have hR1:=hR.push hA (ro:=false) (L:=[]);have hRe:=Yq hN h hg hR1;unfold Qz at hg
 repeat'(first|refine Zt Y hg Y Y ?_|refine ZE ?_|refine ZD ?_|refine ZG Y ?_|refine ZI Y Y ?_|refine ZB Y ?_|refine ZC ?_|refine Ze Y Y ?_|(refine cm0 Y Y Y ?_ ?_<;>intro _<;>try omega)|refine ZU Y ?_|refine ZF Y ?_|refine ZA Y Y Y (hRe) ?_|refine ZH ?_|refine ZP ?_|refine ZL ?_|refine ZW ?_)
 all_goals try first|contradiction|omega
 all_goals refine ZX hA (by simp) Y Y Y Y ?_
 all_goals rfl
theorem ZsN(hg0:st.get lv ic=some (Qz (.ptr la (b+5) 0 0 0) .zero .nils 0 0))(hw:st.wr lv)(hR:Rd st la (b+5) N)(hN:GoodN N):S Tb QE [.ptr lv ic 0 0 0,.int .i64 0] st=some (.int .i64 0,st):=by
 have hJ:∀st:St,st.get lv ic=some (Qz (.ptr la (b+5) 0 0 0) .zero .nils 0 0)->st.wr lv->S Tb QV [.ptr lv ic 0 0 0,.int .i64 0] st=some (.int .i64 0,st):=by
  intro st hg0 hw
  refine Jz Y (fun A hA=>?_)
  have hg:=ZV hA (ro:=false) (L:=[]) hg0;have hle:=St.get_le hg0;unfold Qz Ro.zero at hg hg0
  repeat'(first|refine ZE ?_|refine ZD ?_|refine ZG Y ?_|refine ZI Y Y ?_|refine ZB Y ?_|refine ZC ?_|refine Ze Y Y ?_)
  refine ZJc hA Y Y hw hg0 Y Y Y (fun A' hA'=>?_)
  have e:=updS hg0
  have hA2:A'=st.A++[(st.ro,st.L)]:=by
   rw[hA'];exact congrArg St.ps e
  have hg2:=ZV hA2 (ro:=false) (L:=[]) hg0
  repeat'(first|refine Zt Y hg2 Y Y ?_|refine ZE ?_|refine ZD ?_|refine ZG Y ?_|refine ZI Y Y ?_|refine ZB Y ?_|refine ZC ?_|refine Ze Y Y ?_|(refine cm0 Y Y Y ?_ ?_<;>intro _<;>try omega)|refine ZU Y ?_|refine ZF Y ?_|refine ZH ?_|refine ZP ?_|refine ZL ?_|refine ZW ?_)
  all_goals try first|contradiction|omega
  all_goals exact ZX hA2 (.inr Y) Y Y Y Y Y
 refine QA Y (fun A hA=>?_)
 have hle:=St.get_le hg0;have hg:=ZV hA (ro:=false) (L:=[]) hg0;have hRe:=Yq hN (Rt.zero N) hg (hR.push hA (ro:=false) (L:=[]));have hJ1:=hJ ⟨A,false,[]⟩ hg (XL hA hle hw);unfold Qz Ro.zero at hg
 repeat'(first|refine Zt Y hg Y Y ?_|refine ZE ?_|refine ZD ?_|refine ZG Y ?_|refine ZI Y Y ?_|refine Z9 Y ?_|refine Zi Y Y Y Y ?_|refine ZB Y ?_|refine ZC ?_|refine Ze Y Y ?_|(refine cm0 Y Y Y ?_ ?_<;>intro _<;>try omega)|refine ZU Y ?_|refine ZF Y ?_|refine ZA Y Y Y (hRe) ?_|refine ZA Y Y Y (hJ1) ?_|refine ZH ?_|refine ZP ?_|refine ZL ?_|refine ZW ?_)
 all_goals try first|contradiction|omega
 all_goals refine ZX hA (by simp) Y Y Y Y ?_
 all_goals rfl
end
structure CurA(A:List (Bool × List Blk))(X:List Blk)(ic li la b im:Nat)(r:Ro)(N:ZO)(s:B8)(a:Nat)(vis:Int):Prop where
 ex:(r=.zero/\a=0/\vis=0/\X[ic]?=some (Qz (.ptr la (b+5) 0 0 0) r .nils 0 0))\/(r.at_≠0/\CurL A X ic li la b im r N s a vis)
 rd:RdM ⟨A,false,X⟩ la (b+5) im N
section
variable {A:List (Bool × List Blk)}{X:List Blk}{ic li la b im:Nat}{r:Ro}{N:ZO}{s:B8}{a:Nat}{vis:Int}
theorem CurA.get(hc:CurA A X ic li la b im r N s a vis):∃lev,St.get ⟨A,false,X⟩ A.length ic=some (Qz (.ptr la (b+5) 0 0 0) r lev vis a):=by
 rcases hc.ex with⟨rfl,rfl,rfl,h⟩|⟨_,h⟩
 ·exact⟨_,by rw[St.get_cur,h];rfl⟩
 ·obtain⟨ver,es,w⟩:=h.ex
  exact⟨_,w.cl.get 0 _ _ _ Y Y⟩
theorem CurA.at_c(hc:CurA A X ic li la b im r N s a vis):S Tb Qm [.ptr A.length ic 0 0 0] ⟨A,false,X⟩=some (.int .i64 a,⟨A,false,X⟩):=by
 obtain⟨lev,w⟩:=hc.get;exact Go.Q15.at_c w
end
def ZNT:B8->Nat
 | []=>0
 | b::l=>1+if Zgx b=true then ZNT l else 0
theorem ZjI:∀l:B8,ZNT l<=l.length
 | []=>Nat.le_refl _
 | b::l=>by
  have:=ZjI l
  rw[ZNT,List.length_cons]
  split<;>omega
def ZTg(N:ZO)(r:Ro)(n a:Nat):Nat:=r.h+1-cmL N (min (a:Int) ((n:Int)-1)) ((a:Int)-1) r.h (QM r)
def bkV(N:ZO)(r:Ro)(n a:Nat):Nat->Nat
 | 0=>0
 | k+1=>bkV N r n a k+ZTg N r n (a-k)
theorem ZoL{N:ZO}{r:Ro}{n:Nat}(h:r.h<=13):ZTg N r n a<=13:=by
 have:=Zcg N (min (a:Int) ((n:Int)-1)) ((a:Int)-1) r.h (QM r)
 unfold ZTg;omega
theorem Zm6{N:ZO}{r:Ro}{n a:Nat}(h:r.h<=13):∀k,bkV N r n a k<=13*k
 | 0=>Nat.le_refl _
 | k+1=>by
  have:=Zm6 h k (N:=N) (n:=n) (a:=a)
  have:=ZoL h (N:=N) (n:=n) (a:=a-k)
  rw[bkV];omega
theorem ZoM{N:ZO}(hN:GoodN N){s:B8}{p a:Int}:∀(n:Nat) (l lf:CLv),l.n=n->CLvOk N s l->l.f<=p->p<l.t->(QR N p n l)[n]?=some lf->lf.f<=a->a<lf.t->cmL N p a n l=n+1
 | 0,l,lf,_,_,_,_,_,_,_=>rfl
 | n+1,l,lf,hn,h,p0,p1,hf,a0,a1=>by
  obtain⟨d1,d2,d3,d4,d5,_⟩:=h.down hN hn p0 p1
  have dn:(l.down N p).n=n:=by show l.n-1=n;omega
  rw[QR,List.getElem?_cons_succ]at hf;obtain⟨_,_,_,_,e5,e6⟩:=ZAm hN n _ dn d1 d2 d3 n lf hf
  have e:=h.same hN hn p0 p1 (a:=a) (by omega) (by omega)
  have i1:=ZoM hN n _ lf dn d1 d2 d3 hf a0 a1;rw[cmL,if_pos e,<- e,i1];omega
theorem Zuj{T:List Blk}{v:Nat}(hl:l.length<4000000000)(c:UInt8):
 S Tb QW [.int .u8 c.toNat,.ptr A.length 1 0 0 0] ⟨A,false,.arr 1 v (Za l)::.arr 1 0 [.ref A.length 0 v 0 l.length]::T⟩ =
  some (.tup [],⟨A,false,.arr 1 (v+1) (Za (l++[c]))::.arr 1 0 [.ref A.length 0 (v+1) 0 (l.length+1)]::T⟩):=by
 have H:Cl ⟨A,false,.arr 1 v (Za l)::.arr 1 0 [.ref A.length 0 v 0 l.length]::T⟩ [(A.length,0),(A.length,1)] [.arr 1 v (Za l),.arr 1 0 [.ref A.length 0 v 0 l.length]]:=by
  refine⟨by simp,rfl,fun k hk=>?_,fun j lv ix b q1 q2=>?_⟩
  ·simp only[List.mem_cons,List.not_mem_nil,or_false]at hk
   rcases hk with rfl|rfl<;>simp[St.wr]
  ·match j,q1,q2 with
   | 0,q1,q2=>obtain⟨rfl,rfl⟩:=Prod.mk.inj (Option.some.inj q1);obtain rfl:=Option.some.inj q2;rw[St.get_cur];rfl
   | 1,q1,q2=>obtain⟨rfl,rfl⟩:=Prod.mk.inj (Option.some.inj q1);obtain rfl:=Option.some.inj q2;rw[St.get_cur];rfl
   | n+2,q1,q2=>simp at q1
 have hlen:(Za l).length=l.length:=by simp[Za]
 have hfin:Zv ⟨A,false,.arr 1 v (Za l)::.arr 1 0 [.ref A.length 0 v 0 l.length]::T⟩ [(A.length,0),(A.length,1)] [.arr 1 (v+1) (Za (l++[c])),.arr 1 0 [.ref A.length 0 (v+1) 0 (l.length+1)]]=⟨A,false,.arr 1 (v+1) (Za (l++[c]))::.arr 1 0 [.ref A.length 0 (v+1) 0 (l.length+1)]::T⟩:=by
  simp[Zv,St.upd]
 rw[<- hfin];have h0:=H.get 1 _ _ _ rfl rfl;rw[ZQQ]
 generalize hst:(⟨A,false,.arr 1 v (Za l)::.arr 1 0 [.ref A.length 0 v 0 l.length]::T⟩:St)=st at *
 generalize hn:A.length=nA at *
 have hnA:st.A.length=nA:=by rw[<- hst];exact hn
 refine Jz Y (fun B hB=>?_)
 have g0:=fun L=>ZV hB (ro:=false) (L:=L) h0
 have hs0:B=(Zv st [(nA,0),(nA,1)] [.arr 1 v (Za l),.arr 1 0 [.ref nA 0 v 0 l.length]]).ps:=by rw[H.same];exact hB
 rw[<- hlen]at g0
 repeat'(first|refine Zt Y (g0 _) Y Y ?_|refine ZD ?_|refine ZG Y ?_|refine Q2 Y Y Y Y ?_)
 refine ZXo (j:=0) H hs0 Y Y Y Y Y Y Y Y Y (by rw[hlen];simp;omega) (by decide) (fun B1 hB1 e1=>?_)
 refine ZH5 (j:=1) H hB1 Y Y Y Y Y Y Y (Qu _ (Nat.lt_succ_self _)) Y (fun B2 hB2 e2=>?_)
 rw[hlen]at hB2
 repeat'(first|refine ZB Y ?_|refine ZL ?_)
 exact ZX hB2 (.inl Y) Y Y Y Y Y
def ZKh(l:B8)(k:Nat):B8:=List.replicate (l.length-k) 0++(l.take k).reverse
theorem ZsO(l:B8)(hk:k<=l.length):(ZKh l k).length=l.length:=by
 simp[ZKh];omega
theorem ZsP{c:UInt8}(hk:l[k]?=some c):(ZKh l k).set (l.length-1-k) c=ZKh l (k+1):=by
 have hlt:=(List.getElem?_eq_some_iff.1 hk).1;unfold ZKh
 rw[ZGF hk,List.reverse_append,List.set_append_left _ _ (by simp;omega),show l.length-k=(l.length-(k+1))+1 by omega,List.replicate_succ',List.set_append_right _ _ (by simp;omega)]
 simp only[List.length_replicate,show l.length-1-k-(l.length-(k+1))=0 by omega,List.set_cons_zero,List.append_assoc,List.reverse_singleton,List.singleton_append]
theorem ZlX(l:B8)(i:Nat)(c:UInt8):(Za l).set i (.int .u8 c.toNat)=Za (l.set i c):=by
 simp[Za,List.map_set]
theorem ZUF{i:Nat}{c:UInt8}(h:l[i]?=some c):(Za l)[i]?=some (.int .u8 c.toNat):=by
 simp[Za,jG,h]
theorem Zpd{B:List (Bool × List Blk)}{T:List Blk}{v m:Nat}(hm:m=l.length)(hl:l.length<1000000){c0 f mo bo:AV}{kf:List Fr}{Q:Jh}
 (hQ:∀L2,Rk (S Tb) kf Q .ret [(2,.str l.reverse),(3,.int .i64 0)] ⟨B,false,L2⟩) :
 Ru (S Tb) (.seq ZAD (.seq (.seq ZAE (.block 2 (.loop ZAF))) (.seq ZAG .ret))) kf Q [(0,c0),(5,.ptr B.length 1 0 0 0),(6,f),(7,mo),(34,bo)] ⟨B,false,.arr 1 v (Za l)::.arr 1 0 [.ref B.length 0 v 0 m]::T⟩:=by
 subst hm
 repeat'(first|refine ZGT Y Y (by omega) (by decide) (ZAI _) ?_|refine ZE ?_|refine ZD ?_|refine ZG Y ?_|refine ZQ Y Y Y Y ?_|refine ZB Y ?_|refine ZC ?_|refine JI Y ?_|refine ZS ?_)
 refine Z2 (α:=Nat) (fun k=>[(5,.ptr B.length 1 0 0 0),(13,.ref B.length (Blk.arr 1 v (Za l)::Blk.arr 1 0 [.ref B.length 0 v 0 l.length]::T).length 0 0 l.length),(95,.ref B.length 0 v 0 l.length),(96,.int .i64 l.length),(97,.int .i64 k)])
  (fun k=>⟨B,false,(Blk.arr 1 v (Za l)::Blk.arr 1 0 [.ref B.length 0 v 0 l.length]::T)++[.arr 1 0 (Za (ZKh l k))]⟩) (fun k=>k<=l.length) (fun k=>l.length-k) 0 rfl ?_ (Nat.zero_le _) ?_
 ·have:Za (ZKh l 0)=List.replicate l.length (.int .u8 0):=by simp[ZKh,Za]
  rw[this];rfl
 intro k hk;have hk:k<=l.length:=hk;have hbl:=ZsO l hk
 have hgX:∀es:LV,(((Blk.arr 1 v (Za l)::Blk.arr 1 0 [.ref B.length 0 v 0 l.length]::T)++[Blk.arr 1 0 es]):List Blk)[(Blk.arr 1 v (Za l)::Blk.arr 1 0 [.ref B.length 0 v 0 l.length]::T).length]?=some (.arr 1 0 es):=fun es=>by
  rw[List.getElem?_append_right (Nat.le_refl _),Nat.sub_self];rfl
 rcases Nat.eq_or_lt_of_le hk with hend|hlt
 ·have hb : ZKh l k = l.reverse := by
   subst hend
   simp[ZKh]
  have hel:∀es:LV,es.length=l.length->elems ⟨B,false,(Blk.arr 1 v (Za l)::Blk.arr 1 0 [.ref B.length 0 v 0 l.length]::T)++[Blk.arr 1 0 es]⟩ (.ref B.length (Blk.arr 1 v (Za l)::Blk.arr 1 0 [.ref B.length 0 v 0 l.length]::T).length 0 0 l.length)=some es:=by
   intro es he;simp only[elems,St.get_cur,hgX,vis,ZBh,true_and,Nat.zero_add]
   rw[if_pos (by omega),List.drop_zero,List.take_of_length_le (by omega)]
  have hb2:b2sV ⟨B,false,(Blk.arr 1 v (Za l)::Blk.arr 1 0 [.ref B.length 0 v 0 l.length]::T)++[Blk.arr 1 0 (Za (ZKh l k))]⟩ (.ref B.length (Blk.arr 1 v (Za l)::Blk.arr 1 0 [.ref B.length 0 v 0 l.length]::T).length 0 0 l.length)=some (.str l.reverse):=by
   rw[hb]
   simp only[b2sV,hel (Za l.reverse) (by simp[Za]),oS,ZDv]
  have hnl:¬ ((k:Nat):Int)<(l.length:Int):=by omega
  repeat'(first|refine ZYh Y hb2 ?_|refine ZE ?_|refine ZD ?_|refine ZG Y ?_|refine ZB Y ?_|refine ZC ?_|(refine cm0 Y Y Y ?_ ?_<;>intro _<;>try omega)|refine ZF Y ?_|refine ZP ?_|refine Zz ?_|refine Zk ?_|refine Zh Y ?_|refine Zx ?_)
  all_goals try first|contradiction|omega
  exact hQ _
 ·obtain⟨c,hc⟩:∃c,l[k]?=some c:=⟨_,jE hlt⟩
  have hix:(Za l)[0+((k:Nat):Int).toNat]?=some (.int .u8 c.toNat):=by
   rw[show 0+((k:Nat):Int).toNat=k by omega];exact ZUF hc
  obtain⟨d,hd⟩:∃d,(ZKh l k)[l.length-1-k]?=some d:=⟨_,jE (by omega)⟩
  have hy:(Za (ZKh l k))[0+((l.length:Int)-1-(k:Nat)).toNat]?=some (.int .u8 d.toNat):=by
   rw[show 0+((l.length:Int)-1-(k:Nat)).toNat=l.length-1-k by omega];exact ZUF hd
  have hset:(Za (ZKh l k)).set (0+((l.length:Int)-1-(k:Nat)).toNat) (.int .u8 c.toNat)=Za (ZKh l (k+1)):=by
   rw[show 0+((l.length:Int)-1-(k:Nat)).toNat=l.length-1-k by omega,ZlX,ZsP hc]
  have hnext:∃c_1:Nat,([(5,AV.ptr B.length 1 0 0 0),(13,.ref B.length (Blk.arr 1 v (Za l)::Blk.arr 1 0 [.ref B.length 0 v 0 l.length]::T).length 0 0 l.length),(95,.ref B.length 0 v 0 l.length),(96,.int .i64 l.length),(97,.int .i64 ((k:Int)+1))]=[(5,AV.ptr B.length 1 0 0 0),(13,.ref B.length (Blk.arr 1 v (Za l)::Blk.arr 1 0 [.ref B.length 0 v 0 l.length]::T).length 0 0 l.length),(95,.ref B.length 0 v 0 l.length),(96,.int .i64 l.length),(97,.int .i64 c_1)] /\
   (⟨B,false,(Blk.arr 1 v (Za l)::Blk.arr 1 0 [.ref B.length 0 v 0 l.length]::T)++[.arr 1 0 ((Za (ZKh l k)).set (0+((l.length:Int)-1-(k:Nat)).toNat) (.int .u8 c.toNat))]⟩:St)=⟨B,false,(Blk.arr 1 v (Za l)::Blk.arr 1 0 [.ref B.length 0 v 0 l.length]::T)++[.arr 1 0 (Za (ZKh l c_1))]⟩)/\c_1<=l.length/\l.length-c_1<l.length-k :=
   ⟨k+1,⟨rfl,by rw[hset]⟩,by omega,by omega⟩
  repeat'(first|exact hnext|refine ZQ Y Y hix Y ?_|refine ZKr Y Y (by omega) (hgX _) ?_|refine ZKr Y Y (by omega) Y ?_|refine Q1 Y Y hy Y Y (ZKd _) ?_|refine ZE ?_|refine ZD ?_|refine ZG Y ?_|refine ZQ Y Y Y Y ?_|refine ZB Y ?_|refine ZC ?_|refine JI Y ?_|(refine cm0 Y Y Y ?_ ?_<;>intro _<;>try omega)|refine ZU Y ?_|refine Zr Y Y (by omega) ?_|refine Qe Y Y (by omega) ?_|refine ZH ?_|refine ZS ?_|refine Z5 ?_|refine QJ ?_)
  all_goals try first|contradiction|omega
structure PvS where
 i:Nat
 p:Int
 more:Bool
 ver:Nat
 es:LV
 vis:Int
 B:List (Bool × List Blk)
 v:Nat
 T:List Blk
 xs:Env
structure PvI(st:St)(lv ic li la b:Nat)(r:Ro)(N:ZO)(s:B8)(a0:Nat)(vis0:Int)(q:PvS):Prop where
 hB:q.B=(Zv st [(lv,ic),(lv,li)] (Qx (.ptr la (b+5) 0 0 0) r lv li q.ver (r.h+1) q.es q.vis ((a0:Int)-q.i))).ps
 le:r.h+1<=q.es.length
 es:q.es.take (r.h+1)=(QR N q.p r.h (QM r)).map (CLv.av N)
 ai:q.i<=a0
 p1:0<=q.p/\q.p<s.length
 pa:q.p=(a0:Int)-q.i\/q.p+1=(a0:Int)-q.i
 mo:q.more=false->q.p=(a0:Int)-q.i
 bw:ZNT (s.take a0).reverse=q.i+if q.more=true then ZNT ((s.take a0).reverse.drop q.i) else 0
 vs:q.vis=vis0+(bkV N r s.length a0 q.i:Int)+if q.p+1=(a0:Int)-q.i then (ZTg N r s.length (a0-q.i):Int) else 0
theorem Zvu{st:St}{lv ic li ver b:Nat}{r:Ro}{es:LV}{vis0:Int}{N:ZO}{a0:Nat}(HC:CurN st lv ic li la b r N s a0 vis0 ver es)
 (hla:la<=lv) (hR:RdO st la (b+5) N [(lv,ic),(lv,li)]) (hN:GoodN N) (h:Rt N r s) (h0:r.at_≠0) (hs:s.length<=100000) (ha:a0<=s.length) (hap:0<a0) (hv:0<=vis0/\vis0<700000000) :
 ∃ver2 es2 k,k=ZNT (s.take a0).reverse/\k<=a0/\S Tb Qi [.ptr lv ic 0 0 0] st=some (.tup [.str ((s.take a0).drop (a0-k)),.int .i64 0],Zv st [(lv,ic),(lv,li)] (Qx (.ptr la (b+5) 0 0 0) r lv li ver2 (r.h+1) es2 (vis0+(bkV N r s.length a0 k:Int)) ((a0-k:Nat):Int))) /\
  CurN (Zv st [(lv,ic),(lv,li)] (Qx (.ptr la (b+5) 0 0 0) r lv li ver2 (r.h+1) es2 (vis0+(bkV N r s.length a0 k:Int)) ((a0-k:Nat):Int))) lv ic li la b r N s (a0-k) (vis0+(bkV N r s.length a0 k:Int)) ver2 es2:=by
 have H:=HC.cl;obtain⟨hlv,ht,hpos⟩:=h.lv hN h0;have h13:=h.rt.h13 hN;have hmb:r.m.b=s.length:=(h.b hN).2;have hrf:(QM r).f=0:=rfl;have hrn:(QM r).n=r.h:=rfl
 have hRl:(s.take a0).reverse.length=a0:=by simp;omega
 have hfl:=ZjI (s.take a0).reverse;rw[hRl]at hfl
 have hleaf:∀p:Int,0<=p->p<s.length->∃lf,(QR N p r.h (QM r))[r.h]?=some lf/\CLvOk N s lf/\lf.n=0/\lf.f<=p/\p<lf.t/\lf.t<=s.length/\0<=lf.f:=by
  intro p p0 p1
  obtain⟨lf,hlf⟩:∃lf,(QR N p r.h (QM r))[r.h]?=some lf:=⟨_,jE (by rw[ZCr];omega)⟩
  obtain⟨e1,e2,e3,e4,e5,e6⟩:=ZAm hN r.h (QM r) rfl hlv (by omega) (by omega) r.h lf hlf
  exact⟨lf,hlf,e1,by omega,e3,e4,by omega,by omega⟩
 suffices hmain:Sp Tb Qi [.ptr lv ic 0 0 0] st (fun w st'=>∃q:PvS,q.i=ZNT (s.take a0).reverse/\q.p=(a0:Int)-q.i/\PvI st lv ic li la b r N s a0 vis0 q /\
  w=.tup [.str ((s.take a0).reverse.take q.i).reverse,.int .i64 0]/\st'=Zv st [(lv,ic),(lv,li)] (Qx (.ptr la (b+5) 0 0 0) r lv li q.ver (r.h+1) q.es q.vis ((a0:Int)-q.i))) by
  obtain⟨w,st',hS,q,q1,q2,qI,rfl,rfl⟩:=hmain
  have e1:((a0-q.i:Nat):Int)=(a0:Int)-q.i:=by have:=qI.ai;omega
  have e2:q.vis=vis0+(bkV N r s.length a0 q.i:Int):=by
   have:=qI.vs
   rw[if_neg (by omega)]at this
   omega
  have e3:((s.take a0).reverse.take q.i).reverse=(s.take a0).drop (a0-q.i):=by
   rw[List.take_reverse,List.reverse_reverse,List.length_take,Nat.min_eq_left ha]
  have hsl:=qI.p1;refine⟨q.ver,q.es,q.i,q1,qI.ai,?_,⟨?_,qI.le,?_⟩⟩
  ·rw[hS,e1,<- e2,e3]
  ·rw[e1,<- e2];exact H.put Y Y
  ·rw[qI.es,q2]
   congr 2
   omega
 refine Zng (rfl:Tb Qi=some (.pf XF)) ?_;obtain⟨B0,hB0⟩:∃B0,B0=st.ps:=⟨_,rfl⟩
 show Ru _ _ _ _ _ ⟨st.ps,false,[]⟩
 rw[<- hB0];have hRe:=Yq hN h ((H.push hB0 (ro:=false) (L:=[])).get 0 lv ic _ rfl rfl) (hR.push hB0 (L:=[])).rd;have hg0:=(H.push hB0 (ro:=false) (L:=[])).get 0 lv ic _ rfl rfl;unfold Qz at hg0
 have hane:((a0:Nat):Int)≠0:=by omega
 repeat'(first|refine Zt Y hg0 Y Y ?_|refine ZE ?_|refine ZD ?_|refine ZG Y ?_|refine ZI Y Y ?_|refine ZB Y ?_|refine ZC ?_|refine Ze Y Y ?_|(refine cm0 Y Y Y ?_ ?_<;>intro _<;>try omega)|refine ZF Y ?_|refine YN Y Y ?_|refine ZCm Y ?_|refine ZA Y Y Y (hRe) ?_|refine ZH ?_|refine ZS ?_)
 all_goals try first|contradiction|omega
 refine Z2 (α:=PvS) (fun q=>(0,.ptr lv ic 0 0 0)::(5,.ptr q.B.length 1 0 0 0)::(6,.func (.func QW) [] [.ptr q.B.length 1 0 0 0])::(7,.bool q.more)::q.xs)
  (fun q=>⟨q.B,false,.arr 1 q.v (Za ((s.take a0).reverse.take q.i))::.arr 1 0 [.ref q.B.length 0 q.v 0 q.i]::q.T⟩) (PvI st lv ic li la b r N s a0 vis0)
  (fun q=>2*(a0-q.i)+(if q.p=(a0:Int)-q.i then 1 else 0)) ⟨0,min (a0:Int) (s.length-1),true,ver,es,vis0,B0,0,[],[]⟩ rfl rfl ?_ ?_
 ·refine⟨by simp only;rw[hB0];simp only[Int.sub_zero,Int.natCast_zero];rw[H.same],HC.le,HC.es,by simp only;omega,by simp only;omega,by simp only;omega,by simp,by simp,?_⟩
  simp only[bkV,Nat.sub_zero]
  split
  ·rename_i hq
   have e:min (a0:Int) ((s.length:Int)-1)=(a0:Int)-1:=by omega
   unfold ZTg;rw[e,ZlL];omega
  ·omega
 rintro⟨i,p,more,ver,es,vis,B,v,T,xs⟩ hI
 obtain⟨hB,hle,hes,hai,⟨p0,p1⟩,pa,mo,bw,vs⟩:=id hI
 simp only at hB hle hes hai p0 p1 pa mo bw vs ⊢
 obtain⟨lf,g1,g2,g3,g4,g5,g6,g7⟩:=hleaf p p0 p1;obtain⟨x1,x2⟩:=ZoI hN g2 g3
 have hc:=fun L=>Cl.old (L:=L) (ro:=false) H hB rfl rfl (j:=0) rfl rfl
 have hcl:=fun L=>Cl.old (L:=L) (ro:=false) H hB rfl rfl (j:=1) rfl rfl
 have htl:((s.take a0).reverse.take i).length=i:=by rw[List.length_take,hRl];omega
 have hel:es[r.h+1-1]?=some (CLv.av N lf):=by
  have e1:(es.take (r.h+1))[r.h]?=es[r.h]?:=List.getElem?_take_of_lt (by omega)
  rw[Nat.add_sub_cancel,<- e1,hes,jG,g1];rfl
 have hLf:=fun L=>Zgt (hc L) (hcl L) (by omega) hel
 have hbk:=Zm6 h13 i (N:=N) (n:=s.length) (a:=a0);have hcs:=ZoL h13 (N:=N) (n:=s.length) (a:=a0-i)
 by_cases hfinish:more=false\/i=a0
 ·have hpe : p = (a0 : Int) - i := by
   rcases hfinish with w|w
   ·exact mo w
   ·omega
  have hbw:i=ZNT (s.take a0).reverse:=by
   rw[bw]
   rcases hfinish with w|w
   ·rw[w];simp
   ·rw[List.drop_of_length_le (by omega)];simp[ZNT]
  have hfin:∀(w:AV) (st':St),w=.tup [.str ((s.take a0).reverse.take i).reverse,.int .i64 0]->st'=Zv st [(lv,ic),(lv,li)] (Qx (.ptr la (b+5) 0 0 0) r lv li ver (r.h+1) es vis ((a0:Int)-i))->∃q:PvS,q.i=ZNT (s.take a0).reverse/\q.p=(a0:Int)-q.i/\PvI st lv ic li la b r N s a0 vis0 q /\
   w=.tup [.str ((s.take a0).reverse.take q.i).reverse,.int .i64 0]/\st'=Zv st [(lv,ic),(lv,li)] (Qx (.ptr la (b+5) 0 0 0) r lv li q.ver (r.h+1) q.es q.vis ((a0:Int)-q.i)) :=
   fun w st' e1 e2=>⟨_,hbw,hpe,hI,e1,e2⟩
  have hT:=fun (x y z:AV) (Q:Jh) (kf:List Fr) hQ=>Zpd (B:=B) (T:=T) (v:=v) (m:=i) (l:=(s.take a0).reverse.take i) htl.symm (by omega) (c0:=.ptr lv ic 0 0 0) (f:=x) (mo:=y) (bo:=z) (kf:=kf) (Q:=Q) hQ
  unfold Qz at hc
  cases more with
  | false =>
   repeat'(first|refine hT _ _ _ _ _ (fun L2=>ZL ⟨_,_,ZX hB (.inr Y) Y Y Y Y Y,hfin _ _ Y Y⟩)|refine ZE ?_|refine ZD ?_|refine ZG Y ?_|refine Ji Y Y ?_|refine Zi Y Y Y Y ?_|refine ZB Y ?_|refine ZC ?_|refine ZF Y ?_|refine Zz ?_|refine Zk ?_|refine Zh Y ?_|refine Zx ?_)
   all_goals try first|contradiction|omega
  | true =>
   have hi:i=a0:=by
    rcases hfinish with w|w
    ·exact absurd w (by decide)
    ·exact w
   have hng:¬ ((a0:Int)-i > 0):=by omega
   repeat'(first|refine hT _ _ _ _ _ (fun L2=>ZL ⟨_,_,ZX hB (.inr Y) Y Y Y Y Y,hfin _ _ Y Y⟩)|refine Zt Y (hc _) Y Y ?_|refine ZE ?_|refine ZD ?_|refine ZG Y ?_|refine ZI Y Y ?_|refine Z9 Y ?_|refine Zi Y Y Y Y ?_|refine ZB Y ?_|refine ZC ?_|refine Ze Y Y ?_|(refine cm0 Y Y Y ?_ ?_<;>intro _<;>try omega)|refine ZF Y ?_|refine Zz ?_|refine Zk ?_|refine Zh Y ?_|refine Zx ?_)
   all_goals try first|contradiction|omega
 ·have hm : more = true := by
   cases more with
   | true=>rfl
   | false=>exact absurd (Or.inl Y) hfinish
  subst hm
  have hlt:i<a0:=by
   rcases Nat.lt_or_ge i a0 with w|w
   ·exact w
   ·exact absurd (Or.inr (by omega)) hfinish
  have hgt:(a0:Int)-i > 0:=by omega
  rcases Int.lt_or_le ((a0:Int)-i-1) lf.f with hout|hin
  ·-- before the leaf
   have hpe:p=(a0:Int)-i:=by omega
   have Hc:∀L,Cl ⟨B,false,L⟩ [(lv,ic),(lv,li)] (Qx (.ptr la (b+5) 0 0 0) r lv li ver (r.h+1) es vis ((a0:Int)-i)):=fun L=>(H.put rfl rfl).push hB
   have hRc:∀L,RdO ⟨B,false,L⟩ la (b+5) N [(lv,ic),(lv,li)]:=fun L=>by
    obtain⟨a0',a1,im,a3,a4,a5,q1,q2,q3,q4⟩:=hR;exact⟨a0',a1,im,a3,a4,a5,ZV hB ((H.out Y Y q3).trans q1),ZV hB ((H.out Y Y q4).trans q2),q3,q4⟩
   obtain⟨w,st',hE,rfl,A2,L2,T2,ver2,es2,rfl,e2,f2,f3⟩:=ZjF (n:=r.h) (p:=p) (a:=(a0:Int)-i-1) (Hc (.arr 1 v (Za ((s.take a0).reverse.take i))::.arr 1 0 [.ref B.length 0 v 0 i]::T)) hla (hRc _) hN hlv rfl (by omega) (by omega) (by omega) (by omega) (by omega) hs (by split at vs<;>omega) hle hes
   have hlek:∀k∈[(lv,ic),(lv,li)],k.1<=(Zv st [(lv,ic),(lv,li)] (Qx (.ptr la (b+5) 0 0 0) r lv li ver (r.h+1) es vis ((a0:Int)-i))).A.length:=by rw[ZDn];exact H.le
   rw[J4 hB hlek,ZCn H.nd rfl rfl]at e2;simp only[St.mk.injEq,true_and]at e2;obtain⟨e2a,rfl⟩:=e2
   have hBl:A2.length=B.length:=by rw[e2a,hB];simp[ZDn]
   rw[if_neg (by omega)]at vs
   have hcst:ZTg N r s.length (a0-i)=r.h+1-cmL N p ((a0:Int)-i-1) r.h (QM r):=by
    unfold ZTg
    rw[show min ((a0-i:Nat):Int) ((s.length:Int)-1)=p by omega,show ((a0-i:Nat):Int)-1=(a0:Int)-i-1 by omega]
   have hnext:∀x y:AV,∃q:PvS,([(0,AV.ptr lv ic 0 0 0),(5,.ptr B.length 1 0 0 0),(6,.func (.func QW) [] [.ptr B.length 1 0 0 0]),(7,.bool true),(11,x),(60,y)]=(0,AV.ptr lv ic 0 0 0)::(5,.ptr q.B.length 1 0 0 0)::(6,.func (.func QW) [] [.ptr q.B.length 1 0 0 0])::(7,.bool q.more)::q.xs /\
    (⟨A2,false,(.arr 1 v (Za ((s.take a0).reverse.take i))::.arr 1 0 [.ref B.length 0 v 0 i]::T)++T2⟩:St)=⟨q.B,false,.arr 1 q.v (Za ((s.take a0).reverse.take q.i))::.arr 1 0 [.ref q.B.length 0 q.v 0 q.i]::q.T⟩)/\PvI st lv ic li la b r N s a0 vis0 q /\
    2*(a0-q.i)+(if q.p=(a0:Int)-q.i then 1 else 0)<2*(a0-i)+(if p=(a0:Int)-i then 1 else 0):=by
    intro x y
    refine⟨⟨i,(a0:Int)-i-1,true,ver2,es2,_,A2,v,T++T2,[(11,x),(60,y)]⟩,⟨by simp only;rw[hBl],by simp only;rw[hBl];rfl⟩,⟨e2a,f2,f3,hai,by simp only;omega,.inr (by simp only;omega),by simp,bw,?_⟩,?_⟩
    ·simp only
     rw[if_pos (by omega),hcst]
     omega
    ·simp only
     rw[if_neg (by omega),if_pos hpe]
     omega
   unfold Qz at hc
   repeat'(first|exact hnext _ _|refine Zt Y (hc _) Y Y ?_|refine ZE ?_|refine ZD ?_|refine ZG Y ?_|refine ZI Y Y ?_|refine Z9 Y ?_|refine Zi Y Y Y Y ?_|refine Zp Y Y ?_|refine ZB Y ?_|refine ZC ?_|refine Ze Y Y ?_|(refine cm0 Y Y Y ?_ ?_<;>intro _<;>try omega)|refine ZU Y ?_|refine ZF Y ?_|refine Qe Y Y (by omega) ?_|refine ZA Y Y Y (hLf _) ?_|refine ZA Y Y Y (hE) ?_|refine ZH ?_|refine Zz ?_|refine ZS ?_|refine Zk ?_|refine Zh Y ?_|refine QJ ?_)
   all_goals try first|contradiction|omega
  ·-- within the leaf
   have hbnd:(a0:Int)-i-1<lf.t:=by omega
   have hlt2:a0-i-1<s.length:=by omega
   obtain⟨c,hcb⟩:∃c,s[a0-i-1]?=some c:=⟨_,jE hlt2⟩
   have hix:(QP N lf.o).text[((a0:Int)-i-1-lf.f).toNat]?=some c:=by
    rw[x2 _ (by omega) hbnd,show ((a0:Int)-i-1).toNat=a0-i-1 by omega];exact hcb
   have hRi:(s.take a0).reverse[i]?=some c:=by
    rw[List.getElem?_reverse (by simp;omega),List.length_take,Nat.min_eq_left ha,List.getElem?_take_of_lt (by omega),show a0-1-i=a0-i-1 by omega];exact hcb
   have hdrop:=ZlP hRi
   have hnge:¬ ((QP N lf.o).text.length:Int)<=(a0:Int)-i-1-lf.f:=by omega
   have hnlt:¬ ((a0:Int)-i-1<lf.f):=by omega
   have hCo:=fun st=>Zr4 c st
   have htake:(s.take a0).reverse.take i++[c]=(s.take a0).reverse.take (i+1):=(ZGF hRi).symm
   obtain⟨y1,y2⟩:=ZTe hN r.h (QM r) lf rfl hlv (by omega) (by omega) g1 (a:=(a0:Int)-i-1) hin hbnd
   have y3:=ZoM hN r.h (QM r) lf rfl hlv (by omega) (by omega) g1 (a:=(a0:Int)-i-1) hin hbnd
   have hvs2:vis=vis0+(bkV N r s.length a0 i:Int)+(ZTg N r s.length (a0-i):Int):=by
    rcases pa with w|w
    ·have : ZTg N r s.length (a0 - i) = 0 := by
      unfold ZTg
      rw[show min ((a0-i:Nat):Int) ((s.length:Int)-1)=p by omega,show ((a0-i:Nat):Int)-1=(a0:Int)-i-1 by omega,y3]
      omega
     rw[if_neg (by omega)]at vs
     omega
    ·rw[if_pos w]at vs;exact vs
   have hnext:∀B2 T2,B2=(Zv st [(lv,ic),(lv,li)] (Qx (.ptr la (b+5) 0 0 0) r lv li ver (r.h+1) es vis ((a0:Int)-i-1))).ps->B2.length=B.length->∃q:PvS,([(0,AV.ptr lv ic 0 0 0),(5,.ptr B.length 1 0 0 0),(6,.func (.func QW) [] [.ptr B.length 1 0 0 0]),(7,.bool (Zgx c))]=(0,AV.ptr lv ic 0 0 0)::(5,.ptr q.B.length 1 0 0 0)::(6,.func (.func QW) [] [.ptr q.B.length 1 0 0 0])::(7,.bool q.more)::q.xs /\
    (⟨B2,false,.arr 1 (v+1) (Za ((s.take a0).reverse.take (i+1)))::.arr 1 0 [.ref B.length 0 (v+1) 0 (i+1)]::T2⟩:St)=⟨q.B,false,.arr 1 q.v (Za ((s.take a0).reverse.take q.i))::.arr 1 0 [.ref q.B.length 0 q.v 0 q.i]::q.T⟩)/\PvI st lv ic li la b r N s a0 vis0 q /\
    2*(a0-q.i)+(if q.p=(a0:Int)-q.i then 1 else 0)<2*(a0-i)+(if p=(a0:Int)-i then 1 else 0):=by
    intro B2 T2 e1 e2
    refine⟨⟨i+1,(a0:Int)-i-1,Zgx c,ver,es,vis,B2,v+1,T2,[]⟩,⟨by simp only;rw[e2],by simp only;rw[e2]⟩,⟨?_,hle,by simp only;rw[y1];exact hes,by simp only;omega,by simp only;omega,.inl (by simp only;omega),fun _=>by simp only;omega,?_,?_⟩,?_⟩
    ·simp only
     rw[e1,show (a0:Int)-i-1=(a0:Int)-(i+1:Nat) by omega]
    ·simp only
     rw[bw,if_pos rfl,hdrop,ZNT,Nat.add_assoc i 1]
    ·simp only
     rw[if_neg (by omega),bkV,hvs2]
     omega
    ·simp only
     split<;>first|omega|(split<;>omega)
   unfold Qz at hc
   repeat'(first|refine Zt Y (hc _) Y Y ?_|refine ZE ?_|refine ZD ?_|refine ZG Y ?_|refine ZI Y Y ?_|refine Z9 Y ?_|refine Zi Y Y Y Y ?_|refine Zp Y Y ?_|refine ZB Y ?_|refine ZC ?_|refine Ze Y Y ?_|refine Q4 Y ?_|(refine cm0 Y Y Y ?_ ?_<;>intro _<;>try omega)|refine ZU Y ?_|refine ZF Y ?_|refine Qe Y Y (by omega) ?_|refine ZA Y Y Y (hLf _) ?_|refine ZH ?_|refine ZS ?_)
   all_goals try first|contradiction|omega
   refine ZH5 (j:=0) H hB Y Y Y Y Y Y Y Y Y (fun B2 hB2 e2=>?_)
   have hTk:=fun T=>Zuj (A:=B2) (T:=T) (v:=v) (l:=(s.take a0).reverse.take i) (by omega) c
   rw[htl,htake,e2]at hTk
   have hc2:=fun L=>Cl.old (L:=L) (ro:=false) H hB2 rfl rfl (j:=0) rfl rfl
   have hn2:=fun T2=>hnext B2 T2 hB2 e2
   repeat'(first|exact hn2 _|refine Zt Y (hc2 _) Y Y ?_|refine ZBT Y Y (by omega) hix ?_|refine ZE ?_|refine ZD ?_|refine ZG Y ?_|refine ZI Y Y ?_|refine ZB Y ?_|refine ZC ?_|refine Ze Y Y ?_|refine Qe Y Y (by omega) ?_|refine ZA Y Y Y (hCo _) ?_|refine ZA Y Y Y (hTk _) ?_|refine Z5 ?_|refine QJ ?_)
   all_goals try first|contradiction|omega
theorem Zcq{N M:ZO}(hE:Ext N M){o:Nat}{x:Nd}(h:lk N o=some x):QP M o=QP N o:=by
 rw[Q5 h,Q5 (hE _ _ h)]
theorem Zuk{N M:ZO}(hN:GoodN N)(hE:Ext N M):∀n o x,lk N o=some x->x.h=n->szN M n o=szN N n o:=by
 intro n
 induction n with
 | zero=>intro o x hx hh;rfl
 | succ n ih =>
  intro o x hx hh;rw[szN,szN,Zcq hE hx,Q5 hx]
  have e:(x.ks.map fun k=>szN M n k.at_)=x.ks.map fun k=>szN N n k.at_:=List.map_congr_left fun k hk=>by
   obtain⟨_,y,y1,y2,_⟩:=(hN o x hx).2 k hk
   exact ih k.at_ y y1 (by omega)
  rw[e]
theorem Zcr{N M:ZO}(hE:Ext N M){l:CLv}(h:CLvOk N s l)(a:Int):l.down M a=l.down N a/\ZBC M l.o (a-l.f)=ZBC N l.o (a-l.f)/\CLv.av M l=CLv.av N l:=by
 obtain⟨⟨x,hx,_⟩,_⟩:=h;have e:=Zcq hE hx
 have e2:∀b,ZBC M l.o b=ZBC N l.o b:=fun b=>by unfold ZBC;rw[e]
 refine⟨?_,e2 _,by unfold CLv.av;rw[e]⟩
 unfold CLv.down X7 Zce ZKf;rw[e2,e]
theorem ZKi{N M:ZO}(hN:GoodN N)(hE:Ext N M){s:B8}{a:Int}:∀(n:Nat) (l:CLv),l.n=n->CLvOk N s l->l.f<=a->a<l.t ->
 QR M a n l=QR N a n l/\ZCg M a n l=ZCg N a n l/\(QR N a n l).map (CLv.av M)=(QR N a n l).map (CLv.av N)/\∀p,l.f<=p->p<l.t->cmL M p a n l=cmL N p a n l
 | 0,l,_,h,_,_=>⟨rfl,rfl,by rw[QR,jC,jC,(Zcr hE h a).2.2];rfl,fun _ _ _=>rfl⟩
 | n+1,l,hn,h,h0,h1=>by
  obtain⟨e1,e2,e3⟩:=Zcr hE h a;obtain⟨d1,d2,d3,d4,d5,_⟩:=h.down hN hn h0 h1
  have dn:(l.down N a).n=n:=by show l.n-1=n;omega
  obtain⟨i1,i2,i3,i4⟩:=ZKi hN hE n _ dn d1 d2 d3;obtain⟨x,hx,hxh,_⟩:=h.nd
  refine⟨?_,?_,?_,fun p p0 p1=>?_⟩
  ·rw[QR,QR,e1,i1]
  ·rw[ZCg,ZCg,e1,i2,e2,Zcq hE hx]
   have e:(((QP N l.o).ks.take (ZBC N l.o (a-l.f))).map fun k=>szN M n k.at_)=((QP N l.o).ks.take (ZBC N l.o (a-l.f))).map fun k=>szN N n k.at_:=List.map_congr_left fun k hk=>by
    have hk:=List.mem_of_mem_take hk;rw[Q5 hx]at hk;obtain⟨_,y,y1,y2,_⟩:=(hN l.o x hx).2 k hk
    exact Zuk hN hE n k.at_ y y1 (by omega)
   rw[e]
  ·rw[QR,jC,jC,e3,i3]
  ·have e4:=(Zcr hE h p).1
   rw[cmL,cmL,e1,e4]
   split
   ·rename_i q
    obtain⟨p1',p2,p3,_⟩:=h.down hN hn p0 p1;rw[q]at p2 p3;rw[i4 p p2 p3]
   ·rfl
section
variable {N M:ZO}(hN:GoodN N)(hE:Ext N M){r:Ro}{s:B8}(h:Rt N r s)(h0:r.at_≠0)
include hN hE h h0
theorem ZsQ(a:Nat):visA M r s a=visA N r s a:=by
 obtain⟨hlv,ht,hpos⟩:=h.lv hN h0;have hf:(QM r).f=0:=rfl
 exact (ZKi hN hE r.h (QM r) Y hlv (by omega) (by omega)).2.1
theorem Zpe(a:Nat):(QR M (min (a:Int) (s.length-1)) r.h (QM r)).map (CLv.av M)=(QR N (min (a:Int) (s.length-1)) r.h (QM r)).map (CLv.av N):=by
 obtain⟨hlv,ht,hpos⟩:=h.lv hN h0;have hf:(QM r).f=0:=rfl
 obtain⟨e1,_,e3,_⟩:=ZKi hN hE r.h (QM r) (a:=min (a:Int) (s.length-1)) rfl hlv (by omega) (by omega)
 rw[e1,e3]
theorem Zul(a x:Nat):cmL M (min (a:Int) (s.length-1)) (min (x:Int) (s.length-1)) r.h (QM r)=cmL N (min (a:Int) (s.length-1)) (min (x:Int) (s.length-1)) r.h (QM r):=by
 obtain⟨hlv,ht,hpos⟩:=h.lv hN h0;have hf:(QM r).f=0:=rfl
 exact (ZKi hN hE r.h (QM r) Y hlv (by omega) (by omega)).2.2.2 _ (by omega) (by omega)
theorem Zum(ha:0<a)(ha2:a<=s.length):ZTg M r s.length a=ZTg N r s.length a:=by
 obtain⟨hlv,ht,hpos⟩:=h.lv hN h0;have hf:(QM r).f=0:=rfl;unfold ZTg
 rw[(ZKi hN hE r.h (QM r) rfl hlv (by omega) (by omega)).2.2.2 _ (by omega) (by omega)]
theorem ZsR{a:Nat}(ha2:a<=s.length):∀k,k<=a->bkV M r s.length a k=bkV N r s.length a k
 | 0,_=>rfl
 | k+1,hk=>by rw[bkV,bkV,ZsR ha2 k (by omega),Zum hN hE h h0 (by omega) (by omega)]
end
noncomputable def ZIa(s:B8)(k:Nat):Nat :=
 if h:∃x:Nat,x<=s.length/\(s.take x).countP QB=k/\(0<x->s[x-1]?=some 10) then Classical.choose h else 0
theorem Zg0{x y:Nat}(hx:x<=s.length)(hxk:(s.take x).countP QB=k)(hy:y<=s.length)(hyk:(s.take y).countP QB=k)(hy2:0<y->s[y-1]?=some 10):y<=x:=by
 rcases Nat.lt_or_ge x y with w|w
 ·have h2:=YH (p:=QB) (hy2 (by omega))
  rw[show y-1+1=y by omega,if_pos (by decide)]at h2
  have h3:=YO (p:=QB) (s:=s) (i:=x) (j:=y-1) (by omega)
  omega
 ·exact w
theorem ZsS{x:Nat}(hx:x<=s.length)(hk:(s.take x).countP QB=k)(h10:0<x->s[x-1]?=some 10):ZIa s k=x:=by
 have hex:∃x:Nat,x<=s.length/\(s.take x).countP QB=k/\(0<x->s[x-1]?=some 10):=⟨x,hx,hk,h10⟩;unfold ZIa;rw[dif_pos hex];obtain⟨c1,c2,c3⟩:=Classical.choose_spec hex;exact Nat.le_antisymm (Zg0 hx hk c1 c2 c3) (Zg0 c1 c2 hx hk h10)
theorem ZoN{N:ZO}(hN:GoodN N){r:Ro}(h:Rt N r s)(hs:s.length<=100000){b:Nat}(hk:(k:Int)<=r.m.l):ZIa s k<=s.length /\
 ∀ {st:St},Rd st la (b+5) N->S Tb Jy [.ptr la (b+5) 0 0 0,r.av,.int .i64 k] st=some (.tup [.int .i64 (ZIa s k),.int .i64 0],st):=by
 obtain⟨x,x1,x2,x3,x4,hL⟩:=Zud (la:=la) (b:=b) hN h hs (k:=(k:Int)) (by omega) hk
 obtain⟨x,rfl⟩:∃y:Nat,x=y:=⟨x.toNat,by omega⟩
 rw[show ((x:Nat):Int).toNat=x by omega]at x3
 have e:=ZsS (s:=s) (k:=k) (x:=x) (by omega) (by omega) (fun q=>by
  have:=x4 (by omega)
  rwa [show (((x:Nat):Int)-1).toNat=x-1 by omega]at this)
 rw[e]
 exact⟨by omega,hL⟩
section
variable {st:St}{lv ic li la b:Nat}{r:Ro}{vis:Int}{N:ZO}{s:B8}{a:Nat}{lev:AV}
theorem Zpf{at_:Int}(hg0:st.get lv ic=some (Qz (.ptr la (b+5) 0 0 0) .zero .nils vis at_))(h0:0<=at_)(f:AV):S Tb Qb [.ptr lv ic 0 0 0,f] st=some (.tup [.str [],.int .i64 0],st):=by
 refine QA Y (fun A hA=>?_)
 have hg:=fun L=>ZV hA (ro:=false) (L:=L) hg0
 simp only[Qz,Ro.zero,Mea.zero]at hg;have hb2:=ZoJ (B:=A) (v:=0) (l:=[]) (x:=.arr 1 0 [.ref A.length 0 0 0 0]) (T:=[]) (m:=0) rfl
 repeat'(first|refine ZE ?_|refine ZD ?_|refine ZG Y ?_|refine ZB Y ?_|refine ZC ?_|refine YN Y Y ?_|refine ZCm Y ?_|refine ZS ?_)
 refine YD ?_
 repeat'(first|refine Zt Y (hg _) Y Y ?_|refine ZYh Y hb2 ?_|refine ZE ?_|refine ZD ?_|refine ZG Y ?_|refine ZI Y Y ?_|refine ZQ Y Y Y Y ?_|refine ZB Y ?_|refine ZC ?_|refine Ze Y Y ?_|(refine cm0 Y Y Y ?_ ?_<;>intro _<;>try omega)|refine ZF Y ?_|refine ZP ?_|refine Zz ?_|refine ZL ?_|refine Zk ?_|refine Zh Y ?_)
 all_goals try first|contradiction|omega
 all_goals refine ZX hA (by simp) Y Y Y Y ?_
 all_goals rfl
theorem ZlY(hg0:st.get lv ic=some (Qz (.ptr la (b+5) 0 0 0) r lev vis a))(hR:Rd st la (b+5) N)(hN:GoodN N)(h:Rt N r s)(n:Int)(hn:n<0):S Tb Qg [.ptr lv ic 0 0 0,.int .i64 n] st=some (.tup [.str [],.int .i64 2],st):=by
 refine QA Y (fun A hA=>?_)
 have hg:=fun L=>ZV hA (ro:=false) (L:=L) hg0
 have hRe:=fun L=>Yq hN h (hg L) (hR.push hA (ro:=false) (L:=L))
 repeat'(first|refine ZE ?_|refine ZD ?_|refine ZG Y ?_|refine ZQ Y Y Y Y ?_|refine ZB Y ?_|refine ZC ?_|(refine cm0 Y Y Y ?_ ?_<;>intro _<;>try omega)|refine ZU Y ?_|refine ZF Y ?_|refine Zc Y Y Y ?_|refine ZA Y Y Y (hRe _) ?_|refine ZH ?_|refine ZP ?_|refine ZL ?_|refine ZW ?_)
 all_goals try first|contradiction|omega
 all_goals refine ZX hA (by simp) Y Y Y Y ?_
 all_goals rfl
theorem Zvv(hg0:st.get lv ic=some (Qz (.ptr la (b+5) 0 0 0) .zero .nils vis a))(hR:Rd st la (b+5) N)(hN:GoodN N)(n:Int)(hn:0<=n):S Tb Qg [.ptr lv ic 0 0 0,.int .i64 n] st=some (.tup [.str [],.int .i64 0],st):=by
 refine QA Y (fun A hA=>?_)
 have hg:=fun L=>ZV hA (ro:=false) (L:=L) hg0
 have hRe:=fun L=>Yq hN (Rt.zero N) (hg L) (hR.push hA (ro:=false) (L:=L))
 have hF:=fun L f=>Zpf (hg L) (by omega) f
 repeat'(first|refine ZE ?_|refine ZD ?_|refine ZG Y ?_|refine ZQ Y Y Y Y ?_|refine Zp Y Y ?_|refine ZB Y ?_|refine ZC ?_|(refine cm0 Y Y Y ?_ ?_<;>intro _<;>try omega)|refine ZF Y ?_|refine YN Y Y ?_|refine Zc Y Y Y ?_|refine ZA Y Y Y (hRe _) ?_|refine ZA Y Y Y (hF _ _) ?_|refine ZH ?_|refine ZP ?_|refine ZL ?_)
 all_goals try first|contradiction|omega
 all_goals refine ZX hA (by simp) Y Y Y Y ?_
 all_goals rfl
theorem Zg1(hg0:st.get lv ic=some (Qz (.ptr la (b+5) 0 0 0) r lev vis a))(hR:Rd st la (b+5) N)(hN:GoodN N)(h:Rt N r s)(ha:a=s.length):S Tb Qh [.ptr lv ic 0 0 0] st=some (.tup [.str [],.int .i64 3],st):=by
 refine QA Y (fun A hA=>?_)
 have hmb:r.m.b=s.length:=(h.b hN).2;have hg:=ZV hA (ro:=false) (L:=[]) hg0;have hRe:=Yq hN h hg (hR.push hA (ro:=false) (L:=[]));unfold Qz at hg
 have he:((a:Nat):Int)=r.m.b:=by omega
 repeat'(first|refine Zt Y hg Y Y ?_|refine ZE ?_|refine ZD ?_|refine ZG Y ?_|refine ZI Y Y ?_|refine ZB Y ?_|refine ZC ?_|refine Ze Y Y ?_|(refine cm0 Y Y Y ?_ ?_<;>intro _<;>try omega)|refine ZU Y ?_|refine ZF Y ?_|refine ZA Y Y Y (hRe) ?_|refine ZH ?_|refine ZP ?_|refine ZL ?_|refine ZW ?_)
 all_goals try first|contradiction|omega
 refine ZX hA (by simp) Y Y Y Y ?_
 rfl
theorem ZoO(hg0:st.get lv ic=some (Qz (.ptr la (b+5) 0 0 0) r lev vis 0))(hR:Rd st la (b+5) N)(hN:GoodN N)(h:Rt N r s):S Tb Qi [.ptr lv ic 0 0 0] st=some (.tup [.str [],.int .i64 3],st):=by
 refine QA Y (fun A hA=>?_)
 have hg:=ZV hA (ro:=false) (L:=[]) hg0;have hRe:=Yq hN h hg (hR.push hA (ro:=false) (L:=[]));unfold Qz at hg
 repeat'(first|refine Zt Y hg Y Y ?_|refine ZE ?_|refine ZD ?_|refine ZG Y ?_|refine ZI Y Y ?_|refine ZB Y ?_|refine ZC ?_|refine Ze Y Y ?_|(refine cm0 Y Y Y ?_ ?_<;>intro _<;>try omega)|refine ZU Y ?_|refine ZF Y ?_|refine ZA Y Y Y (hRe) ?_|refine ZH ?_|refine ZP ?_|refine ZL ?_|refine ZW ?_)
 all_goals try first|contradiction|omega
 refine ZX hA (by simp) Y Y Y Y ?_
 rfl
theorem Zg2(hg0:st.get lv ic=some (Qz (.ptr la (b+5) 0 0 0) r lev vis a))(hR:Rd st la (b+5) N)(hN:GoodN N)(h:Rt N r s)(x:Int)(hx:x<0\/(s.length:Int)<x):S Tb QE [.ptr lv ic 0 0 0,.int .i64 x] st=some (.int .i64 3,st):=by
 refine QA Y (fun A hA=>?_)
 have hmb:r.m.b=s.length:=(h.b hN).2;have hg:=ZV hA (ro:=false) (L:=[]) hg0;have hRe:=Yq hN h hg (hR.push hA (ro:=false) (L:=[]));unfold Qz at hg
 repeat'(first|refine Zt Y hg Y Y ?_|refine ZE ?_|refine ZD ?_|refine ZG Y ?_|refine ZI Y Y ?_|refine Z9 Y ?_|refine Ji Y Y ?_|refine Zi Y Y Y Y ?_|refine ZB Y ?_|refine ZC ?_|refine Ze Y Y ?_|(refine cm0 Y Y Y ?_ ?_<;>intro _<;>try omega)|refine ZU Y ?_|refine ZF Y ?_|refine ZA Y Y Y (hRe) ?_|refine ZH ?_|refine ZP ?_|refine ZL ?_|refine ZW ?_)
 all_goals try first|contradiction|omega
 all_goals refine ZX hA (by simp) Y Y Y Y ?_
 all_goals rfl
end
structure StF where
 t:B8
 e:Int
 a:Nat
 v:Int
def ZNU(N:ZO)(r:Ro)(n a x:Nat):Nat:=if r.at_=0 then 0 else r.h+1-cmL N (min (a:Int) ((n:Int)-1)) (min (x:Int) ((n:Int)-1)) r.h (QM r)
section
variable (N:ZO)(r:Ro)(s:B8)
def ZMA(x:Int)(a:Nat)(v:Int):StF:=if 0<=x/\x<=s.length then ⟨[],0,x.toNat,v+ZNU N r s.length a x.toNat⟩ else ⟨[],3,a,v⟩
def Zg3(a:Nat)(v:Int):StF:=if a<s.length then ⟨(s.drop a).take (ZAK ZL8 0 (s.drop a)),0,a+ZAK ZL8 0 (s.drop a),v+visA N r s (a+ZAK ZL8 0 (s.drop a))-visA N r s a⟩ else ⟨[],3,a,v⟩
def ZUG(a:Nat)(v:Int):StF:=if 0<a then ⟨(s.take a).drop (a-ZNT (s.take a).reverse),0,a-ZNT (s.take a).reverse,v+bkV N r s.length a (ZNT (s.take a).reverse)⟩ else ⟨[],3,a,v⟩
noncomputable def oNL(a:Nat)(v:Int):StF:=if (s.take a).countP QB+1<=s.countP QB then ⟨[],0,ZIa s ((s.take a).countP QB+1),v+ZNU N r s.length a (ZIa s ((s.take a).countP QB+1))⟩ else ⟨[],3,a,v⟩
noncomputable def oPL(a:Nat)(v:Int):StF:=if 0<a then ⟨[],0,ZIa s ((s.take (a-1)).countP QB),v+ZNU N r s.length a (ZIa s ((s.take (a-1)).countP QB))⟩ else ⟨[],3,a,v⟩
def ZKj(x:Int)(a:Nat)(v:Int):StF:=if x<0 then ⟨[],2,a,v⟩ else ⟨(s.drop a).take (ZAK (fun i _=>decide ((i:Int)<x)) 0 (s.drop a)),0,a+ZAK (fun i _=>decide ((i:Int)<x)) 0 (s.drop a),v+visA N r s (a+ZAK (fun i _=>decide ((i:Int)<x)) 0 (s.drop a))-visA N r s a⟩
noncomputable def XS(w:Nat)(x:Int)(a:Nat)(v:Int):StF :=
 if w=1 then ZMA N r s x a v else if w=2 then Zg3 N r s a v else if w=3 then ZUG N r s a v else if w=4 then oNL N r s a v else if w=5 then oPL N r s a v else ZKj N r s x a v
end
theorem Zun{N M:ZO}(hN:GoodN N)(hE:Ext N M){r:Ro}(h:Rt N r s)(a x:Nat):ZNU M r s.length a x=ZNU N r s.length a x:=by
 unfold ZNU
 split
 ·rfl
 ·rename_i h0
  rw[Zul hN hE h h0]
theorem Zpg{N M:ZO}(hN:GoodN N)(hE:Ext N M){r:Ro}(h:Rt N r s)(a:Nat):visA M r s a=visA N r s a:=by
 by_cases h0:r.at_=0
 ·have hz : r = .zero := by
   rcases h.rt with e|e
   ·exact e
   ·exact absurd h0 e.1
  subst hz;rfl
 ·exact ZsQ hN hE h h0 a
theorem ZsT{N M:ZO}(hN:GoodN N)(hE:Ext N M){r:Ro}(h:Rt N r s)(w:Nat)(x:Int)(ha:a<=s.length)(v:Int):XS M r s w x a v=XS N r s w x a v:=by
 have hj:=fun a x=>Zun hN hE h a x
 have hv:=fun a=>Zpg hN hE h a
 have hp:ZUG M r s a v=ZUG N r s a v:=by
  unfold ZUG
  split
  ·by_cases h0:r.at_=0
   ·have hl:=(h.b hN).2
    rcases h.rt with e|e
    ·rw[e]at hl
     simp only[Ro.zero,Mea.zero]at hl;omega
    ·exact absurd h0 e.1
   ·have hb:=ZjI (s.take a).reverse
    rw[List.length_reverse,List.length_take]at hb
    rw[ZsR hN hE h h0 ha _ (by omega)]
  ·rfl
 unfold XS;rw[hp];simp only[ZMA,Zg3,oNL,oPL,ZKj,hj,hv]
section
variable {st:St}{lv ic li ver la b:Nat}{r:Ro}{es:LV}{vis:Int}{N:ZO}{s:B8}{a:Nat}
def ToN(st:St)(lv ic li la b:Nat)(r:Ro)(N:ZO)(s:B8)(v0:Int)(F:StF)(f:FuncId)(args:LV)(res:AV):Prop :=
 ∃ver2 es2,S Tb f args st=some (res,Zv st [(lv,ic),(lv,li)] (Qx (.ptr la (b+5) 0 0 0) r lv li ver2 (r.h+1) es2 F.v F.a)) /\
  CurN (Zv st [(lv,ic),(lv,li)] (Qx (.ptr la (b+5) 0 0 0) r lv li ver2 (r.h+1) es2 F.v F.a)) lv ic li la b r N s F.a F.v ver2 es2/\F.a<=s.length/\v0<=F.v/\F.v<=v0+20*s.length+20
theorem CurN.self(H:CurN st lv ic li la b r N s a vis ver es):CurN (Zv st [(lv,ic),(lv,li)] (Qx (.ptr la (b+5) 0 0 0) r lv li ver (r.h+1) es vis a)) lv ic li la b r N s a vis ver es:=by
 rw[H.cl.same];exact H
theorem ToN.err(H:CurN st lv ic li la b r N s a vis ver es)(ha:a<=s.length){res:AV}(h:S Tb f args st=some (res,st))(t:B8)(e:Int):ToN st lv ic li la b r N s vis ⟨t,e,a,vis⟩ f args res :=
 ⟨ver,es,by simp only;rw[H.cl.same];exact h,H.self,ha,Int.le_refl _,by simp only;omega⟩
section
variable (H:CurN st lv ic li la b r N s a vis ver es)(hla:la<=lv)(hR:RdO st la (b+5) N [(lv,ic),(lv,li)])(hN:GoodN N)(h:Rt N r s)(h0:r.at_≠0)(hs:s.length<=100000)(ha:a<=s.length)(hv:0<=vis/\vis<700000000)
include H hla hR hN h h0 hs ha hv
theorem Zm7(x:Nat):ZNU N r s.length a x<=20:=by
 have:=h.rt.h13 hN
 unfold ZNU
 split<;>omega
theorem Zvw(x:Int):ToN st lv ic li la b r N s vis (ZMA N r s x a vis) QE [.ptr lv ic 0 0 0,.int .i64 x] (.int .i64 (ZMA N r s x a vis).e):=by
 have hg:=H.cl.get 0 lv ic _ rfl rfl;have hj:=Zm7 H hla hR hN h h0 hs ha hv x.toNat;unfold ZMA
 split
 ·rename_i q
  obtain⟨x,rfl⟩:∃y:Nat,x=y:=⟨x.toNat,by omega⟩
  rw[show ((x:Nat):Int).toNat=x by omega]at hj ⊢
  obtain⟨ver2,es2,vis2,f1,f2,f3⟩:=Zr7 H hla hR hN h h0 hs ha hv x (by omega)
  have e:vis2=vis+(ZNU N r s.length a x:Int):=by rw[f3];unfold ZNU;rw[if_neg h0]
  rw[e]at f1 f2
  exact⟨ver2,es2,f1,f2,by simp only;omega,by simp only;omega,by simp only;omega⟩
 ·exact .err H ha (Zg2 hg hR.rd hN h x (by omega)) _ _
theorem Zvx:ToN st lv ic li la b r N s vis (Zg3 N r s a vis) Qh [.ptr lv ic 0 0 0] (.tup [.str (Zg3 N r s a vis).t,.int .i64 (Zg3 N r s a vis).e]):=by
 have hg:=H.cl.get 0 lv ic _ rfl rfl;unfold Zg3
 split
 ·rename_i q
  obtain⟨ver2,es2,vis2,k,rfl,f1,f2,f3,f4,f5⟩:=Zr5 H hla hR hN h h0 hs q hv;have hk:=ZXv ZL8 (s.drop a) 0;rw[List.length_drop]at hk
  obtain rfl:vis2=vis+(visA N r s (a+ZAK ZL8 0 (s.drop a)):Int)-(visA N r s a:Int):=by omega
  exact⟨ver2,es2,f1,f2,by simp only;omega,by simp only;omega,by simp only;omega⟩
 ·exact .err H ha (Zg1 hg hR.rd hN h (by omega)) _ _
theorem Zvy(x:Int):ToN st lv ic li la b r N s vis (ZKj N r s x a vis) Qg [.ptr lv ic 0 0 0,.int .i64 x] (.tup [.str (ZKj N r s x a vis).t,.int .i64 (ZKj N r s x a vis).e]):=by
 have hg:=H.cl.get 0 lv ic _ rfl rfl;unfold ZKj
 split
 ·rename_i q
  exact .err H ha (ZlY hg hR.rd hN h x q) _ _
 ·rename_i q
  obtain⟨ver2,es2,vis2,k,rfl,f1,f2,f3,f4,f5⟩:=Zr3 H hla hR hN h h0 hs ha hv x (by omega)
  have hk:=ZXv (fun i _=>decide ((i:Int)<x)) (s.drop a) 0
  rw[List.length_drop]at hk
  obtain rfl:vis2=vis+(visA N r s (a+ZAK (fun i _=>decide ((i:Int)<x)) 0 (s.drop a)):Int)-(visA N r s a:Int):=by omega
  exact⟨ver2,es2,f1,f2,by simp only;omega,by simp only;omega,by simp only;omega⟩
theorem Zvz:ToN st lv ic li la b r N s vis (ZUG N r s a vis) Qi [.ptr lv ic 0 0 0] (.tup [.str (ZUG N r s a vis).t,.int .i64 (ZUG N r s a vis).e]):=by
 have hg:=H.cl.get 0 lv ic _ rfl rfl;unfold ZUG
 split
 ·rename_i q
  obtain⟨ver2,es2,k,rfl,hk,f1,f2⟩:=Zvu H hla hR hN h h0 hs ha q hv;have hb:=Zm6 (N:=N) (n:=s.length) (a:=a) (h.rt.h13 hN) (ZNT (s.take a).reverse)
  exact⟨ver2,es2,f1,f2,by simp only;omega,by simp only;omega,by simp only;omega⟩
 ·obtain rfl:a=0:=by omega
  exact .err H ha (ZoO hg hR.rd hN h) _ _
theorem Zm8:ToN st lv ic li la b r N s vis (oNL N r s a vis) Qq [.ptr lv ic 0 0 0] (.int .i64 (oNL N r s a vis).e):=by
 have hg:=H.cl.get 0 lv ic _ rfl rfl
 have hml:r.m.l=s.countP QB:=by rw[h.m hN];rfl
 unfold oNL
 split
 ·rename_i q
  obtain⟨x1,hL⟩:=ZoN (la:=la) (b:=b) hN h hs (k:=(s.take a).countP QB+1) (by omega)
  have hj:=Zm7 H hla hR hN h h0 hs ha hv (ZIa s ((s.take a).countP QB+1))
  obtain⟨ver2,es2,vis2,f1,f2,f3⟩:=Zm4 H hla hR hN h h0 hs ha hv _ x1 (by intro st hR;exact hL hR)
  have e:vis2=vis+(ZNU N r s.length a (ZIa s ((s.take a).countP QB+1)):Int):=by rw[f3];unfold ZNU;rw[if_neg h0]
  rw[e]at f1 f2
  exact⟨ver2,es2,f1,f2,x1,by simp only;omega,by simp only;omega⟩
 ·exact .err H ha (ZQR hg hR.rd hN h hs ha (by omega)) _ _
theorem Zm9:ToN st lv ic li la b r N s vis (oPL N r s a vis) Qr [.ptr lv ic 0 0 0] (.int .i64 (oPL N r s a vis).e):=by
 have hg:=H.cl.get 0 lv ic _ rfl rfl
 have hml:r.m.l=s.countP QB:=by rw[h.m hN];rfl
 unfold oPL
 split
 ·rename_i q
  have hle:=YO (p:=QB) (s:=s) (i:=a-1) (j:=s.length) (by omega)
  rw[List.take_length]at hle
  obtain⟨x1,hL⟩:=ZoN (la:=la) (b:=b) hN h hs (k:=(s.take (a-1)).countP QB) (by omega)
  have hj:=Zm7 H hla hR hN h h0 hs ha hv (ZIa s ((s.take (a-1)).countP QB))
  obtain⟨ver2,es2,vis2,f1,f2,f3⟩:=Zm5 H hla hR hN h h0 hs ha q hv _ x1 (by intro st hR;exact hL hR)
  have e:vis2=vis+(ZNU N r s.length a (ZIa s ((s.take (a-1)).countP QB)):Int):=by rw[f3];unfold ZNU;rw[if_neg h0]
  rw[e]at f1 f2
  exact⟨ver2,es2,f1,f2,x1,by simp only;omega,by simp only;omega⟩
 ·obtain rfl:a=0:=by omega
  exact .err H ha (Zcp hg hR.rd hN h) _ _
end
end
section
variable {O:Orc}{k:List Fr}{Q:Jh}{e:Env}{st:St}{keep:List Nat}{is:List QAbs.PI}{d:Nat}
theorem ZCh{x y:Opd}{a b:Int}(hx:Zg e x=some (.int .u8 a))(hy:Zg e y=some (.int .u8 b))(hw:0<=a/\0<b)(h:Is O is keep k Q ((d,.int .u8 (a % b))::e) st):Is O (⟨some d,none,false,.bin .rem x y⟩::is) keep k Q e st:=by
 refine Z4 (st':=st) (v:=.int .u8 (a % b)) ?_ h;simp only[Zl,evalPO,ZJ hx,ZJ hy,ZE2,Zcz,if_false,if_true,ZEe,jB,oS,Qv]
 rw[if_neg (by omega),Int.tmod_eq_emod_of_nonneg hw.1]
 rfl
theorem ZjJ{x y:Opd}{a b:Int}(hx:Zg e x=some (.int .u8 a))(hy:Zg e y=some (.int .u8 b))(hw:0<=a+b/\a+b<256)(h:Is O is keep k Q ((d,.int .u8 (a+b))::e) st):Is O (⟨some d,none,false,.bin .add x y⟩::is) keep k Q e st:=by
 have hq:IntKind.u8.wrap (a+b)=a+b:=by
  have e1:IntKind.u8.signed=false:=rfl;have e2:IntKind.u8.bits=8:=rfl;simp only[IntKind.wrap,e1,e2,Bool.false_and,decide_eq_true_eq]
  first|omega|(split<;>omega)|(simp;omega)
 rw[<- hq]at h;exact Zqr hx hy h
end
def YI(w:Nat)(n x:Int)(bd:Nat):AV:=.agg [.int .u8 w,.int .i64 n,.int .i64 x,.int .u8 bd]
section
variable {st st2:St}{A B:List (Bool × List Blk)}{lv ic w:Nat}{n x e:Int}{bd:Nat}{u:B8}
theorem ZnA(hA:A=st.ps)(hB:B=st2.ps)(q:w % 8=1)(f1:S Tb QE [.ptr lv ic 0 0 0,.int .i64 x] ⟨A,false,[.arr 4 0 [YI w n x bd]]⟩=some (.int .i64 e,⟨B,false,[.arr 4 0 [YI w n x bd]]⟩)):S Tb QC [.ptr lv ic 0 0 0,YI w n x bd] st=some (.tup [.str [],.int .i64 e],st2):=by
 refine Jz Y (fun A' hA'=>?_)
 obtain rfl:A'=A:=hA'.trans hA.symm
 unfold YI at *
 repeat'(first|refine ZCh Y Y (by omega) ?_|refine ZE ?_|refine ZD ?_|refine ZG Y ?_|refine ZI Y Y ?_|refine ZQ Y Y Y Y ?_|refine ZB Y ?_|refine ZC ?_|(refine cm0 Y Y Y ?_ ?_<;>intro _<;>try omega)|refine ZU Y ?_|refine Zc Y Y Y ?_|refine ZA Y Y Y (f1) ?_|refine ZP ?_|refine ZS ?_|refine ZL ?_|refine ZW ?_|refine QS ?_)
 all_goals try first|contradiction|omega
 exact ZX hB (.inr Y) Y Y Y Y Y
theorem ZsU(hA:A=st.ps)(hB:B=st2.ps)(q:w % 8=2)(f1:S Tb Qh [.ptr lv ic 0 0 0] ⟨A,false,[.arr 4 0 [YI w n x bd]]⟩=some (.tup [.str u,.int .i64 e],⟨B,false,[.arr 4 0 [YI w n x bd]]⟩)):S Tb QC [.ptr lv ic 0 0 0,YI w n x bd] st=some (.tup [.str u,.int .i64 e],st2):=by
 refine Jz Y (fun A' hA'=>?_)
 obtain rfl:A'=A:=hA'.trans hA.symm
 unfold YI at *
 repeat'(first|refine ZCh Y Y (by omega) ?_|refine ZE ?_|refine ZD ?_|refine ZG Y ?_|refine ZI Y Y ?_|refine ZQ Y Y Y Y ?_|refine Zp Y Y ?_|refine ZB Y ?_|refine ZC ?_|(refine cm0 Y Y Y ?_ ?_<;>intro _<;>try omega)|refine ZU Y ?_|refine ZF Y ?_|refine Zc Y Y Y ?_|refine ZA Y Y Y (f1) ?_|refine ZP ?_|refine ZS ?_|refine ZL ?_|refine ZW ?_|refine QS ?_)
 all_goals try first|contradiction|omega
 exact ZX hB (.inr Y) Y Y Y Y Y
theorem ZsV(hA:A=st.ps)(hB:B=st2.ps)(q:w % 8=3)(f1:S Tb Qi [.ptr lv ic 0 0 0] ⟨A,false,[.arr 4 0 [YI w n x bd]]⟩=some (.tup [.str u,.int .i64 e],⟨B,false,[.arr 4 0 [YI w n x bd]]⟩)):S Tb QC [.ptr lv ic 0 0 0,YI w n x bd] st=some (.tup [.str u,.int .i64 e],st2):=by
 refine Jz Y (fun A' hA'=>?_)
 obtain rfl:A'=A:=hA'.trans hA.symm
 unfold YI at *
 repeat'(first|refine ZCh Y Y (by omega) ?_|refine ZE ?_|refine ZD ?_|refine ZG Y ?_|refine ZI Y Y ?_|refine ZQ Y Y Y Y ?_|refine Zp Y Y ?_|refine ZB Y ?_|refine ZC ?_|(refine cm0 Y Y Y ?_ ?_<;>intro _<;>try omega)|refine ZU Y ?_|refine ZF Y ?_|refine Zc Y Y Y ?_|refine ZA Y Y Y (f1) ?_|refine ZP ?_|refine ZS ?_|refine ZL ?_|refine ZW ?_|refine QS ?_)
 all_goals try first|contradiction|omega
 exact ZX hB (.inr Y) Y Y Y Y Y
theorem ZsW(hA:A=st.ps)(hB:B=st2.ps)(q:w % 8=4)(f1:S Tb Qq [.ptr lv ic 0 0 0] ⟨A,false,[.arr 4 0 [YI w n x bd]]⟩=some (.int .i64 e,⟨B,false,[.arr 4 0 [YI w n x bd]]⟩)):S Tb QC [.ptr lv ic 0 0 0,YI w n x bd] st=some (.tup [.str [],.int .i64 e],st2):=by
 refine Jz Y (fun A' hA'=>?_)
 obtain rfl:A'=A:=hA'.trans hA.symm
 unfold YI at *
 repeat'(first|refine ZCh Y Y (by omega) ?_|refine ZE ?_|refine ZD ?_|refine ZG Y ?_|refine ZI Y Y ?_|refine ZQ Y Y Y Y ?_|refine ZB Y ?_|refine ZC ?_|(refine cm0 Y Y Y ?_ ?_<;>intro _<;>try omega)|refine ZU Y ?_|refine ZF Y ?_|refine Zc Y Y Y ?_|refine ZA Y Y Y (f1) ?_|refine ZP ?_|refine ZS ?_|refine ZL ?_|refine ZW ?_|refine QS ?_)
 all_goals try first|contradiction|omega
 exact ZX hB (.inr Y) Y Y Y Y Y
theorem ZsX(hA:A=st.ps)(hB:B=st2.ps)(q:w % 8=5)(f1:S Tb Qr [.ptr lv ic 0 0 0] ⟨A,false,[.arr 4 0 [YI w n x bd]]⟩=some (.int .i64 e,⟨B,false,[.arr 4 0 [YI w n x bd]]⟩)):S Tb QC [.ptr lv ic 0 0 0,YI w n x bd] st=some (.tup [.str [],.int .i64 e],st2):=by
 refine Jz Y (fun A' hA'=>?_)
 obtain rfl:A'=A:=hA'.trans hA.symm
 unfold YI at *
 repeat'(first|refine ZCh Y Y (by omega) ?_|refine ZE ?_|refine ZD ?_|refine ZG Y ?_|refine ZI Y Y ?_|refine ZQ Y Y Y Y ?_|refine ZB Y ?_|refine ZC ?_|(refine cm0 Y Y Y ?_ ?_<;>intro _<;>try omega)|refine ZU Y ?_|refine ZF Y ?_|refine Zc Y Y Y ?_|refine ZA Y Y Y (f1) ?_|refine ZP ?_|refine ZS ?_|refine ZL ?_|refine ZW ?_|refine QS ?_)
 all_goals try first|contradiction|omega
 exact ZX hB (.inr Y) Y Y Y Y Y
theorem ZnB(hA:A=st.ps)(hB:B=st2.ps)(q1:w % 8≠1)(q2:w % 8≠2)(q3:w % 8≠3)(q4:w % 8≠4)(q5:w % 8≠5)(f1:S Tb Qg [.ptr lv ic 0 0 0,.int .i64 x] ⟨A,false,[.arr 4 0 [YI w n x bd]]⟩=some (.tup [.str u,.int .i64 e],⟨B,false,[.arr 4 0 [YI w n x bd]]⟩)):S Tb QC [.ptr lv ic 0 0 0,YI w n x bd] st=some (.tup [.str u,.int .i64 e],st2):=by
 refine Jz Y (fun A' hA'=>?_)
 obtain rfl:A'=A:=hA'.trans hA.symm
 unfold YI at *
 repeat'(first|refine ZCh Y Y (by omega) ?_|refine ZE ?_|refine ZD ?_|refine ZG Y ?_|refine ZI Y Y ?_|refine ZQ Y Y Y Y ?_|refine Zp Y Y ?_|refine ZB Y ?_|refine ZC ?_|(refine cm0 Y Y Y ?_ ?_<;>intro _<;>try omega)|refine ZF Y ?_|refine Zc Y Y Y ?_|refine ZA Y Y Y (f1) ?_|refine ZH ?_|refine ZP ?_|refine ZS ?_|refine ZL ?_|refine Z5 ?_)
 all_goals try first|contradiction|omega
 exact ZX hB (.inr Y) Y Y Y Y Y
end
section
variable {st:St}{lv ic li ver la b:Nat}{r:Ro}{es:LV}{vis:Int}{N:ZO}{s:B8}{a:Nat}
theorem ToN.up{L:List Blk}{F:StF}{g:FuncId}{ga:LV}{res res2:AV}{v0:Int}(H:CurN st lv ic li la b r N s a vis ver es)(hA:A=st.ps)(h:ToN ⟨A,false,L⟩ lv ic li la b r N s v0 F f args res)
 (hg:∀B st2,B=st2.ps->S Tb f args ⟨A,false,L⟩=some (res,⟨B,false,L⟩)->S Tb g ga st=some (res2,st2)):ToN st lv ic li la b r N s v0 F g ga res2:=by
 obtain⟨ver2,es2,f1,f2,f3⟩:=h;rw[J4 hA H.cl.le]at f1;exact⟨ver2,es2,hg _ _ Y f1,⟨H.cl.put Y Y,f2.le,f2.es⟩,f3⟩
theorem Zv0(N:ZO)(r:Ro)(s:B8)(x:Int)(a:Nat)(v:Int):(ZMA N r s x a v).t=[]/\(oNL N r s a v).t=[]/\(oPL N r s a v).t=[]:=by
 unfold ZMA oNL oPL
 exact⟨by split<;>rfl,by split<;>rfl,by split<;>rfl⟩
theorem ZwR(H:CurN st lv ic li la b r N s a vis ver es)(hla:la<=lv)(hR:RdO st la (b+5) N [(lv,ic),(lv,li)])(hN:GoodN N)(h:Rt N r s)(h0:r.at_≠0)(hs:s.length<=100000)(ha:a<=s.length)(hv:0<=vis/\vis<700000000)(w:Nat)(n x:Int)(bd:Nat):
 ToN st lv ic li la b r N s vis (XS N r s (w % 8) x a vis) QC [.ptr lv ic 0 0 0,YI w n x bd] (.tup [.str (XS N r s (w % 8) x a vis).t,.int .i64 (XS N r s (w % 8) x a vis).e]):=by
 obtain⟨A,hA⟩:∃A,A=st.ps:=⟨_,rfl⟩;have H1:CurN ⟨A,false,[.arr 4 0 [YI w n x bd]]⟩ lv ic li la b r N s a vis ver es:=⟨H.cl.push hA,H.le,H.es⟩;have hR1:=hR.push (L:=[.arr 4 0 [YI w n x bd]]) hA;obtain⟨t1,t2,t3⟩:=Zv0 N r s x a vis;unfold XS
 split
 ·rename_i q
  rw[t1]
  exact (Zvw H1 hla hR1 hN h h0 hs ha hv x).up H hA (fun B st2 hB f1=>ZnA hA hB q f1)
 split
 ·rename_i q
  exact (Zvx H1 hla hR1 hN h h0 hs ha hv).up H hA (fun B st2 hB f1=>ZsU hA hB q f1)
 split
 ·rename_i q
  exact (Zvz H1 hla hR1 hN h h0 hs ha hv).up H hA (fun B st2 hB f1=>ZsV hA hB q f1)
 split
 ·rename_i q
  rw[t2]
  exact (Zm8 H1 hla hR1 hN h h0 hs ha hv).up H hA (fun B st2 hB f1=>ZsW hA hB q f1)
 split
 ·rename_i q
  rw[t3]
  exact (Zm9 H1 hla hR1 hN h h0 hs ha hv).up H hA (fun B st2 hB f1=>ZsX hA hB q f1)
 rename_i q1 q2 q3 q4 q5
 exact (Zvy H1 hla hR1 hN h h0 hs ha hv x).up H hA (fun B st2 hB f1=>ZnB hA hB q1 q2 q3 q4 q5 f1)
theorem Zv1(N:ZO)(w:Nat)(x:Int):(XS N .zero [] w x 0 0).a=0/\(XS N .zero [] w x 0 0).v=0:=by
 have e1:∀y,ZNU N .zero ([]:B8).length 0 y=0:=fun y=>if_pos rfl
 unfold XS
 split
 ·unfold ZMA;split
  ·rename_i q;simp at q;rw[e1];simp;omega
  ·exact⟨rfl,rfl⟩
 split
 ·exact⟨rfl,rfl⟩
 split
 ·exact⟨rfl,rfl⟩
 split
 ·exact⟨rfl,rfl⟩
 split
 ·exact⟨rfl,rfl⟩
 unfold ZKj;split
 ·exact⟨rfl,rfl⟩
 ·simp[ZAK]
theorem ZwS(hg0:st.get lv ic=some (Qz (.ptr la (b+5) 0 0 0) .zero .nils 0 0))(hw:st.wr lv)(hR:Rd st la (b+5) N)(hN:GoodN N)(w:Nat)(n x:Int)(bd:Nat):
 S Tb QC [.ptr lv ic 0 0 0,YI w n x bd] st=some (.tup [.str (XS N .zero [] (w % 8) x 0 0).t,.int .i64 (XS N .zero [] (w % 8) x 0 0).e],st):=by
 have hle:=St.get_le hg0;have hz:=Rt.zero N;obtain⟨A,hA⟩:∃A,A=st.ps:=⟨_,rfl⟩;have hg:=ZV hA (ro:=false) (L:=[.arr 4 0 [YI w n x bd]]) hg0;have hR1:=hR.push hA (ro:=false) (L:=[.arr 4 0 [YI w n x bd]]);have hw1:=XL (L:=[.arr 4 0 [YI w n x bd]]) (ro:=false) hA hle hw;unfold XS
 split
 ·rename_i q
  by_cases hx:x=0
  ·subst hx
   exact ZnA hA hA q (ZsN hg hw1 hR1 hN)
  ·rw[show ZMA N .zero [] x 0 0=⟨[],3,0,0⟩ by unfold ZMA;rw[if_neg (by simp;omega)]]
   exact ZnA hA hA q (Zg2 (a:=0) (vis:=0) hg hR1 hN hz x (by simp;omega))
 split
 ·exact ZsU hA hA ‹_› (Zg1 (a:=0) (vis:=0) hg hR1 hN hz Y)
 split
 ·exact ZsV hA hA ‹_› (ZoO (vis:=0) hg hR1 hN hz)
 split
 ·exact ZsW hA hA ‹_› (ZQR (a:=0) (vis:=0) hg hR1 hN hz (by simp) (by simp) (by decide))
 split
 ·exact ZsX hA hA ‹_› (Zcp (vis:=0) hg hR1 hN hz)
 rename_i q1 q2 q3 q4 q5
 by_cases hx:x<0
 ·rw[show ZKj N .zero [] x 0 0=⟨[],2,0,0⟩ by unfold ZKj;rw[if_pos hx]]
  exact ZnB hA hA q1 q2 q3 q4 q5 (ZlY (a:=0) (vis:=0) hg hR1 hN hz x hx)
 ·rw[show ZKj N .zero [] x 0 0=⟨[],0,0,0⟩ by unfold ZKj;rw[if_neg hx];rfl]
  exact ZnB hA hA q1 q2 q3 q4 q5 (Zvv (a:=0) (vis:=0) hg hR1 hN x (by omega))
end
section
variable {A:List (Bool × List Blk)}{X X':List Blk}{ic li la b im:Nat}{r:Ro}{N M:ZO}{s:B8}{a:Nat}{vis:Int}
theorem CurA.one(hc:CurA A X ic li la b im r N s a vis)(hN:GoodN N)(h:Rt N r s)(hs:s.length<=100000)(ha:a<=s.length)(hv:0<=vis/\vis<700000000)(w:Nat)(n x:Int)(bd:Nat):
 ∃X',S Tb QC [.ptr A.length ic 0 0 0,YI w n x bd] ⟨A,false,X⟩=some (.tup [.str (XS N r s (w % 8) x a vis).t,.int .i64 (XS N r s (w % 8) x a vis).e],⟨A,false,X'⟩) /\
  CurA A X' ic li la b im r N s (XS N r s (w % 8) x a vis).a (XS N r s (w % 8) x a vis).v/\Stay X X' ic li/\(XS N r s (w % 8) x a vis).a<=s.length/\vis<=(XS N r s (w % 8) x a vis).v/\(XS N r s (w % 8) x a vis).v<=vis+20*s.length+20:=by
 rcases hc.ex with⟨rfl,rfl,rfl,q⟩|⟨h0,q⟩
 ·have hs0 : s = [] := by
   have:=(h.b hN).2
   simp only[Ro.zero,Mea.zero]at this
   exact List.eq_nil_of_length_eq_zero (by omega)
  subst hs0
  have hg:St.get ⟨A,false,X⟩ A.length ic=some (Qz (.ptr la (b+5) 0 0 0) .zero .nils 0 0):=by rw[St.get_cur,q];rfl
  have hO:=ZwS hg (by simp[St.wr]) hc.rd.rd hN w n x bd
  obtain⟨z1,z2⟩:=Zv1 N (w % 8) x
  exact⟨X,hO,by rw[z1,z2];exact hc,⟨rfl,fun i _ _=>rfl⟩,by rw[z1];exact Nat.zero_le _,by rw[z2];exact Int.le_refl _,by rw[z2];simp⟩
 ·obtain⟨ver,es,wc⟩:=q.ex
  obtain⟨ver2,es2,f1,f2,f3,f4,f5⟩:=ZwR wc q.la q.rdo hN h h0 hs ha hv w n x bd;obtain⟨X',e1,e2,e3⟩:=q.to f2;rw[e1]at f1;exact⟨X',f1,⟨.inr ⟨h0,e2⟩,e2.rd⟩,e3,f3,f4,f5⟩
theorem CurA.grow(hc:CurA A X ic li la b im r N s a vis)(hN:GoodN N)(hE:Ext N M)(h:Rt N r s)(h1:X'[ic]?=X[ic]?)(h2:X'[li]?=X[li]?)(hR:RdM ⟨A,false,X'⟩ la (b+5) im M):CurA A X' ic li la b im r M s a vis:=by
 refine⟨?_,hR⟩
 rcases hc.ex with⟨e1,e2,e3,q⟩|⟨h0,q⟩
 ·exact .inl ⟨e1,e2,e3,h1.trans q⟩
 ·refine .inr ⟨h0,?_,hR,q.n5,q.nm,q.la⟩
  obtain⟨ver,es,wc⟩:=q.ex
  refine⟨ver,es,⟨wc.cl.nd,rfl,fun k hk=>?_,fun j lv ix c q1 q2=>?_⟩,wc.le,?_⟩
  ·simp only[List.mem_cons,List.not_mem_nil,or_false]at hk
   rcases hk with rfl|rfl<;>simp[St.wr]
  ·have g:=wc.cl.get j lv ix c q1 q2
   match j,q1,q2 with
   | 0,q1,q2=>obtain⟨rfl,rfl⟩:=Prod.mk.inj (Option.some.inj q1);rw[St.get_cur]at g ⊢;rw[h1];exact g
   | 1,q1,q2=>obtain⟨rfl,rfl⟩:=Prod.mk.inj (Option.some.inj q1);rw[St.get_cur]at g ⊢;rw[h2];exact g
   | n+2,q1,q2=>simp at q1
  ·rw[wc.es,Zpe hN hE h h0]
theorem Has.stay{r:AR}(h:Has ⟨A,false,X⟩ A.length 0 r)(hs:∀i,i<6->X'[i]?=X[i]?):Has ⟨A,false,X'⟩ A.length 0 r:=by
 have key:∀i c,i<6->St.get ⟨A,false,X⟩ A.length i=some c->St.get ⟨A,false,X'⟩ A.length i=some c:=fun i c hi g=>by
  rw[St.get_cur]at g ⊢;rw[hs i hi];exact g
 exact⟨by simp[St.wr],key _ _ (by omega) h.h0,key _ _ (by omega) h.h1,key _ _ (by omega) h.h2,key _ _ (by omega) h.h3,key _ _ (by omega) h.h4,key _ _ (by omega) h.h5⟩
theorem Has.rdm{r:AR}(h:Has ⟨A,false,X⟩ A.length 0 r):RdM ⟨A,false,X⟩ A.length (0+5) 4 r.nodes:=⟨_,_,_,_,_,h.h5,h.h4⟩
theorem Has.own{r:AR}(h:Has ⟨A,false,X⟩ A.length 0 r)(r':AR):∃X',Qy ⟨A,false,X⟩ A.length 0 r'=⟨A,false,X'⟩/\Has ⟨A,false,X'⟩ A.length 0 r'/\∀i,6<=i->X'[i]?=X[i]?:=by
 have hk:∀k∈arK A.length 0,k.1=A.length:=fun k hk=>by
  simp only[arK,List.mem_cons,List.not_mem_nil,or_false]at hk
  rcases hk with rfl|rfl|rfl|rfl|rfl|rfl<;>rfl
 have e1:=Zcl (L:=X) (bs:=arB A.length 0 r') hk;have e3:=Zgs (L:=X) (bs:=arB A.length 0 r') hk
 have e2:(Zv ⟨A,false,X⟩ (arK A.length 0) (arB A.length 0 r')).ro=false:=by
  have:∀(ks:List (Nat × Nat)) (st:St) (bs:List Blk),(Zv st ks bs).ro=st.ro:=by
   intro ks
   induction ks with
   | nil=>intro st bs;cases bs<;>rfl
   | cons k ks ih =>
    intro st bs
    cases bs with
    | nil=>rfl
    | cons c bs =>
     rw[Zv,ih];unfold St.upd
     split<;>rfl
  exact this _ _ _
 have hp:=h.put r';unfold Qy at hp ⊢
 generalize Zv ⟨A,false,X⟩ (arK A.length 0) (arB A.length 0 r')=S2 at *
 obtain⟨A2,ro2,L2⟩:=S2
 simp only at e1 e2 e3
 subst e1 e2
 refine⟨L2,rfl,hp,fun i hi=>e3 i (fun q=>?_)⟩
 simp only[arK,List.mem_cons,jP,List.not_mem_nil,or_false]at q;omega
theorem Zcs(hN:GoodN N)(h:Rt N r s)(hs:s.length<=100000)(hR:RdM ⟨A,false,X⟩ la (b+5) im N)(hla:la<=A.length):
 ∃X' ic li,S Tb Yj [.ptr la (b+5) 0 0 0,r.av] ⟨A,false,X⟩=some (.tup [.ptr A.length ic 0 0 0,.int .i64 0],⟨A,false,X'⟩)/\X.length<=ic/\X.length<=li/\ic<X'.length/\li<X'.length/\X.length<=X'.length/\(∀i,i<X.length->X'[i]?=X[i]?)/\CurA A X' ic li la b im r N s 0 (if r.at_=0 then 0 else ((r.h+1:Nat):Int)):=by
 obtain⟨X',ic,h1,h2,h3,h4,h5⟩:=ZlQ hN h hs hR hla
 have hin:RdM ⟨A,false,X'⟩ la (b+5) im N:=by
  obtain⟨b0,b1,b3,b4,b5,k1,k2⟩:=hR
  have key:∀lv ix c,St.get ⟨A,false,X⟩ lv ix=some c->St.get ⟨A,false,X'⟩ lv ix=some c:=by
   intro lv ix c q;rw[St.get]at q ⊢
   simp only at q ⊢
   by_cases w:lv=A.length
   ·rw[if_pos w]at q ⊢
    rw[h4 ix (ZC3 q)];exact q
   ·rw[if_neg w]at q ⊢;exact q
  exact⟨b0,b1,b3,b4,b5,key _ _ _ k1,key _ _ _ k2⟩
 rcases h5 with⟨z,w⟩|⟨z,li,h6,w⟩
 ·have hz : r = .zero := by
   rcases h.rt with e|e
   ·exact e
   ·exact absurd z e.1
  have hlt:=(List.getElem?_eq_some_iff.1 w).1;rw[if_pos z]
  exact⟨X',ic,ic,h1,h2,h2,hlt,hlt,h3,h4,⟨.inl ⟨hz,rfl,rfl,by rw[w,hz]⟩,hin⟩⟩
 ·rw[if_neg z]
  obtain⟨ver,es,wc⟩:=w.ex;have g0:=wc.cl.get 0 _ _ _ rfl rfl;have g1:=wc.cl.get 1 _ _ _ rfl rfl;rw[St.get_cur]at g0 g1;exact⟨X',ic,li,h1,h2,h6,ZC3 g0,ZC3 g1,h3,h4,⟨.inr ⟨z,w⟩,hin⟩⟩
theorem CurA.visited_c(hc:CurA A X ic li la b im r N s a vis):S Tb QG [.ptr A.length ic 0 0 0] ⟨A,false,X⟩=some (.int .i64 vis,⟨A,false,X⟩):=by
 rcases hc.ex with⟨rfl,rfl,rfl,q⟩|⟨h0,q⟩
 ·exact Go.Q15.visited_c (by rw[St.get_cur,q];rfl)
 ·exact q.visited_c
end
structure Cs where
 w:Nat
 n:Int
 x:Int
 bd:Nat
def Cs.av(y:Cs):AV:=YI y.w y.n y.x y.bd
structure CaS where
 i:Nat
 X:List Blk
 r:AR
 a:Nat
 v:Int
 a3:Nat
 v3:Int
structure CaI(A:List (Bool × List Blk))(s:B8)(ro:Ro)(N0:ZO)(j0 ic1 li1 ic2 li2 ic3 li3 m:Nat)(q:CaS):Prop where
 has:Has ⟨A,false,q.X⟩ A.length 0 q.r
 ok:AROk q.r
 good:GoodN q.r.nodes
 ext:Ext N0 q.r.nodes
 j:q.X[j0]?=some (.arr 5 0 [ro.av])
 c:CurA A q.X ic1 li1 A.length 0 4 ro q.r.nodes s q.a q.v
 d:CurA A q.X ic2 li2 A.length 0 4 ro q.r.nodes s q.a q.v
 o:CurA A q.X ic3 li3 A.length 0 4 ro q.r.nodes s q.a3 q.v3
 ai:q.a<=s.length/\q.a3<=s.length
 vi:0<=q.v/\q.v<=100+10000*q.i/\0<=q.v3/\q.v3<=100+10000*q.i
 len:j0<q.X.length/\ic1<q.X.length/\li1<q.X.length/\ic2<q.X.length/\li2<q.X.length/\ic3<q.X.length/\li3<q.X.length
 le:q.i<=m
theorem Zuo{ro:Ro}{N0:ZO}{j0 ic1 li1 ic2 li2 ic3 li3:Nat}(hg0:GoodN N0)(hRt0:Rt N0 ro s)(hs:s.length<=400)(ys:List Cs)(hys:ys.length<=30)(ns:List Int)(hns:ns.length<=6)
 (hJ:6<=j0/\j0<ic1/\j0<li1) (h12:ic1<ic2/\ic1<li2/\li1<ic2/\li1<li2) (h23:ic2<ic3/\ic2<li3/\li2<ic3/\li2<li3) (q0:CaS) (hq0:q0.i=0) (hI0:CaI A s ro N0 j0 ic1 li1 ic2 li2 ic3 li3 ys.length q0) {k:List Fr} {Q:Jh}
 (hQ:∀X r (x:AV),Has ⟨A,false,X⟩ A.length 0 r->GoodN r.nodes->Ext N0 r.nodes->X[j0]?=some (.arr 5 0 [ro.av])->Rk (S T3) k Q .norm [(0,.str s),(1,.lit (ys.map Cs.av)),(2,.lit (ns.map (.int .i64))),(7,.ptr A.length 5 0 0 0),(9,.ptr A.length j0 0 0 0),(10,.ptr A.length ic1 0 0 0),(11,.ptr A.length ic2 0 0 0),(13,.ptr A.length ic3 0 0 0),(15,.int .i64 ys.length),(98,x)] ⟨A,false,X⟩) :
 Ru (S T3) p_quartolaw21_CursorApart_26.loop (.blk 0::k) Q [(0,.str s),(1,.lit (ys.map Cs.av)),(2,.lit (ns.map (.int .i64))),(7,.ptr A.length 5 0 0 0),(9,.ptr A.length j0 0 0 0),(10,.ptr A.length ic1 0 0 0),(11,.ptr A.length ic2 0 0 0),(13,.ptr A.length ic3 0 0 0),(15,.int .i64 0)] ⟨A,false,q0.X⟩:=by
 refine Z2 (α:=CaS) (fun q=>[(0,.str s),(1,.lit (ys.map Cs.av)),(2,.lit (ns.map (.int .i64))),(7,.ptr A.length 5 0 0 0),(9,.ptr A.length j0 0 0 0),(10,.ptr A.length ic1 0 0 0),(11,.ptr A.length ic2 0 0 0),(13,.ptr A.length ic3 0 0 0),(15,.int .i64 q.i)])
  (fun q=>⟨A,false,q.X⟩) (CaI A s ro N0 j0 ic1 li1 ic2 li2 ic3 li3 ys.length) (fun q=>ys.length-q.i) q0 (by rw[hq0];rfl) rfl hI0 ?_
 clear hI0 hq0 q0
 rintro⟨i,X,r,a,v,a3,v3⟩ hI
 obtain⟨hHas,hok,hgood,hext,hj,hc,hd,ho,hai,hvi,hlen,hle⟩:=hI
 simp only at hHas hok hgood hext hj hc hd ho hai hvi hlen hle ⊢
 rcases Nat.eq_or_lt_of_le hle with hend|hlt
 ·have hq:=fun x=>hQ X r x hHas hgood hext hj
  rw[<- hend]at hq
  have hnl:¬ ((i:Nat):Int)<(ys.length:Int):=by omega
  repeat'(first|exact hq _|refine ZEd Y ?_|refine ZE ?_|refine ZD ?_|refine ZG Y ?_|refine ZB Y ?_|refine ZC ?_|(refine cm0 Y Y Y ?_ ?_<;>intro _<;>try omega)|refine ZF Y ?_|refine Zz ?_|refine Zk ?_|refine Zh Y ?_|refine Zx ?_)
  all_goals try first|contradiction|omega
 obtain⟨⟨w,n,x,bd⟩,hy⟩:∃y,ys[i]?=some y:=⟨_,jE hlt⟩;have hRt:=hRt0.ext hg0 hext
 have hiy:0<=((i:Nat):Int)/\ys[((i:Nat):Int).toNat]?=some ⟨w,n,x,bd⟩:=⟨by omega,by rw[show ((i:Nat):Int).toNat=i by omega];exact hy⟩
 -- the first step
 have ea:∀z,z<X.length->(X++[Blk.arr 4 0 [YI w n x bd]])[z]?=X[z]?:=fun z hz=>jL hz
 have hHa:Has ⟨A,false,X++[Blk.arr 4 0 [YI w n x bd]]⟩ A.length 0 r:=hHas.stay (fun z hz=>ea z (by omega))
 have hc1:=hc.grow (X':=X++[Blk.arr 4 0 [YI w n x bd]]) hgood (Ext.refl _) hRt (ea _ (by omega)) (ea _ (by omega)) hHa.rdm
 obtain⟨Xb,hO1,c1,st1,f1,f2,f3⟩:=hc1.one hgood hRt (by omega) hai.1 (by omega) w n x bd
 have lb:=st1.len;rw[lL,List.length_singleton]at lb
 have eb:∀z,z≠ic1->z≠li1->z<X.length->Xb[z]?=X[z]?:=fun z h1 h2 h3=>(st1.get z h1 h2).trans (ea z h3)
 have bb:Xb[X.length]?=some (.arr 4 0 [YI w n x bd]):=(st1.get _ (by omega) (by omega)).trans (by rw[List.getElem?_append_right (Nat.le_refl _),Nat.sub_self];rfl)
 have hHb:Has ⟨A,false,Xb⟩ A.length 0 r:=hHas.stay (fun z hz=>eb z (by omega) (by omega) (by omega))
 -- the other cursor
 have ho1:=ho.grow (X':=Xb) hgood (Ext.refl _) hRt (eb _ (by omega) (by omega) (by omega)) (eb _ (by omega) (by omega) (by omega)) hHb.rdm
 obtain⟨Xc,hO2,c3,st2,g1,g2,g3⟩:=ho1.one hgood hRt (by omega) hai.2 (by omega) (1+w % 6) 0 n 0
 have lc:=st2.len;have ec:∀z,z≠ic3->z≠li3->Xc[z]?=Xb[z]?:=st2.get
 have hHc:Has ⟨A,false,Xc⟩ A.length 0 r:=hHb.stay (fun z hz=>ec z (by omega) (by omega))
 have bc:Xc[X.length]?=some (.arr 4 0 [YI w n x bd]):=(ec _ (by omega) (by omega)).trans bb
 have jc:Xc[j0]?=some (.arr 5 0 [ro.av]):=(ec _ (by omega) (by omega)).trans ((eb _ (by omega) (by omega) (by omega)).trans hj)
 -- what follows an edit
 have key:∀(Xd:List Blk) (rM:AR),Has ⟨A,false,Xd⟩ A.length 0 rM->AROk rM->GoodN rM.nodes->Ext r.nodes rM.nodes->Xd.length=Xc.length->(∀z,6<=z->Xd[z]?=Xc[z]?) ->
  Xd[X.length]?=some (.arr 4 0 [YI w n x bd])/\∃Xe,S Tb QC [.ptr A.length ic2 0 0 0,YI w n x bd] ⟨A,false,Xd⟩=some (.tup [.str (XS r.nodes ro s (w % 8) x a v).t,.int .i64 (XS r.nodes ro s (w % 8) x a v).e],⟨A,false,Xe⟩) /\
   S Tb Qm [.ptr A.length ic1 0 0 0] ⟨A,false,Xe⟩=some (.int .i64 (XS r.nodes ro s (w % 8) x a v).a,⟨A,false,Xe⟩)/\S Tb Qm [.ptr A.length ic2 0 0 0] ⟨A,false,Xe⟩=some (.int .i64 (XS r.nodes ro s (w % 8) x a v).a,⟨A,false,Xe⟩) /\
   S Tb QG [.ptr A.length ic1 0 0 0] ⟨A,false,Xe⟩=some (.int .i64 (XS r.nodes ro s (w % 8) x a v).v,⟨A,false,Xe⟩)/\S Tb QG [.ptr A.length ic2 0 0 0] ⟨A,false,Xe⟩=some (.int .i64 (XS r.nodes ro s (w % 8) x a v).v,⟨A,false,Xe⟩) /\
   ∃q:CaS,q.i=i+1/\q.X=Xe/\CaI A s ro N0 j0 ic1 li1 ic2 li2 ic3 li3 ys.length q:=by
  intro Xd rM hHd hokM hgM hE ld hst;have hRtM:=hRt.ext hgood hE
  have ed:∀z,6<=z->z≠ic3->z≠li3->z≠ic1->z≠li1->z<X.length->Xd[z]?=X[z]?:=fun z h0 h1 h2 h3 h4 h5=>(hst z h0).trans ((ec z h1 h2).trans (eb z h3 h4 h5))
  have hd1:=hd.grow (X':=Xd) hgood hE hRt (ed _ (by omega) (by omega) (by omega) (by omega) (by omega) (by omega)) (ed _ (by omega) (by omega) (by omega) (by omega) (by omega) (by omega)) hHd.rdm
  obtain⟨Xe,hO3,c2,st3,k1,k2,k3⟩:=hd1.one hgM hRtM (by omega) hai.1 (by omega) w n x bd
  rw[ZsT hgood hE hRt (w % 8) x hai.1 v]at hO3 c2;have le:=st3.len;have ee:∀z,z≠ic2->z≠li2->Xe[z]?=Xd[z]?:=st3.get
  have hHe:Has ⟨A,false,Xe⟩ A.length 0 rM:=hHd.stay (fun z hz=>ee z (by omega) (by omega))
  have hc2:=c1.grow (X':=Xe) hgood hE hRt ((ee _ (by omega) (by omega)).trans ((hst _ (by omega)).trans (ec _ (by omega) (by omega)))) ((ee _ (by omega) (by omega)).trans ((hst _ (by omega)).trans (ec _ (by omega) (by omega)))) hHe.rdm
  have ho2:=c3.grow (X':=Xe) hgood hE hRt ((ee _ (by omega) (by omega)).trans (hst _ (by omega))) ((ee _ (by omega) (by omega)).trans (hst _ (by omega))) hHe.rdm
  refine⟨(hst _ (by omega)).trans bc,Xe,hO3,hc2.at_c,c2.at_c,hc2.visited_c,c2.visited_c,⟨i+1,Xe,rM,(XS r.nodes ro s (w % 8) x a v).a,(XS r.nodes ro s (w % 8) x a v).v,(XS r.nodes ro s ((1+w % 6) % 8) n a3 v3).a,(XS r.nodes ro s ((1+w % 6) % 8) n a3 v3).v⟩,rfl,rfl,hHe,hokM,hgM,fun o y hy=>hE o y (hext o y hy),(ee _ (by omega) (by omega)).trans ((hst _ (by omega)).trans jc),hc2,c2,ho2,⟨f1,g1⟩,?_,?_,hlt⟩
  ·simp only;omega
  ·simp only;omega
 have hlti:((i:Nat):Int)<(ys.length:Int):=by omega
 have e6:((1+w % 6:Nat):Int)=1+(w:Int) % 6:=by omega
 have hat:∀Xe (q:CaS),q.i=i+1->q.X=Xe->CaI A s ro N0 j0 ic1 li1 ic2 li2 ic3 li3 ys.length q->∃c:CaS,([(0,AV.str s),(1,.lit (ys.map Cs.av)),(2,.lit (ns.map (.int .i64))),(7,.ptr A.length 5 0 0 0),(9,.ptr A.length j0 0 0 0),(10,.ptr A.length ic1 0 0 0),(11,.ptr A.length ic2 0 0 0),(13,.ptr A.length ic3 0 0 0),(15,.int .i64 ((i:Int)+1))]=[(0,AV.str s),(1,.lit (ys.map Cs.av)),(2,.lit (ns.map (.int .i64))),(7,.ptr A.length 5 0 0 0),(9,.ptr A.length j0 0 0 0),(10,.ptr A.length ic1 0 0 0),(11,.ptr A.length ic2 0 0 0),(13,.ptr A.length ic3 0 0 0),(15,.int .i64 c.i)]/\(⟨A,false,Xe⟩:St)=⟨A,false,c.X⟩)/\CaI A s ro N0 j0 ic1 li1 ic2 li2 ic3 li3 ys.length c/\ys.length-c.i<ys.length-i:=by
  intro Xe q h1 h2 h3
  refine⟨q,⟨?_,by rw[h2]⟩,h3,by omega⟩
  rw[h1];rfl
 unfold YI at hO1 hO2 bb;rw[e6]at hO2
 generalize (XS r.nodes ro s ((1+w % 6) % 8) n a3 v3)=F3 at *
 by_cases hin:i<ns.length
 ·obtain⟨z,hz⟩:∃z,ns[i]?=some z:=⟨_,jE hin⟩
  have hiz:0<=((i:Nat):Int)/\ns[((i:Nat):Int).toNat]?=some z:=⟨by omega,by rw[show ((i:Nat):Int).toNat=i by omega];exact hz⟩
  have hini:((i:Nat):Int)<(ns.length:Int):=by omega
  have hpb:=ZQL (x:=z) (n:=(s.length:Int)) (by omega)
  have hPk:=fun st=>up3 (Zvo z (s.length:Int) (by omega) (by omega) st)
  generalize Zca z (s.length:Int)=p at *
  have hE:EdOk r.nodes ro s p (min 5 ((s.length:Int)-p)) [120,121,122]:=⟨hRt,hpb.1,by omega,by omega,by omega,by simp⟩
  rcases Nat.lt_or_ge r.n (nw (edV r.nodes ro p (min 5 ((s.length:Int)-p)) [120,121,122])) with hfull|hroom
  ·have hRe:=up3 (Zf4 (b:=0) hHc hok hgood hE hfull)
   obtain⟨bd1,Xe,hO3,hA1,hA2,hV1,hV2,q,q1,q2,q3⟩:=key Xc r hHc hok hgood (Ext.refl _) rfl (fun _ _=>rfl)
   have hnx:=hat Xe q q1 q2 q3;unfold YI at hO3 bd1;unfold chZ at hRe
   generalize (XS r.nodes ro s (w % 8) x a v)=F1 at *
   repeat'(first|exact hnx|refine ZEd Y ?_|refine Jw Y Y hiy (fun _=>rfl) ?_|refine Jw Y Y hiz (fun _=>rfl) ?_|refine ZQ Y bb Y Y ?_|refine ZQ Y bd1 Y Y ?_|refine ZQ Y jc Y (ZIF _) ?_|refine ZCh Y Y (by omega) ?_|refine ZjJ Y Y (by omega) ?_|refine ZQp Y Y ?_|refine ZE ?_|refine ZD ?_|refine ZG Y ?_|refine ZI Y Y ?_|refine Z9 Y ?_|refine Zi Y Y Y Y ?_|refine Zp Y Y ?_|refine ZB Y ?_|refine ZC ?_|refine Q4 Y ?_|refine Ql Y Y Y ?_|refine Qt Y Y ?_|(refine cm0 Y Y Y ?_ ?_<;>intro _<;>try omega)|(refine ZXl Y Y (fun _=>?_) (fun _=>?_)<;>try contradiction)|refine ZU Y ?_|refine ZF Y ?_|refine Zr Y Y (by omega) ?_|refine Qe Y Y (by omega) ?_|refine Zn Y Y Y ?_|refine Zw Y Y Y ?_|refine Q1 Y Y Y Y Y Y ?_|refine ZA Y Y Y (up3 hO1) ?_|refine ZA Y Y Y (up3 hO2) ?_|refine ZA Y Y Y (up3 hO3) ?_|refine ZA Y Y Y (hPk _) ?_|refine ZA Y Y Y (hRe) ?_|refine ZA Y Y Y (up3 hA1) ?_|refine ZA Y Y Y (up3 hA2) ?_|refine ZA Y Y Y (up3 hV1) ?_|refine ZA Y Y Y (up3 hV2) ?_|refine ZH ?_|refine ZS ?_|refine Z5 ?_|refine QJ ?_)
   all_goals try first|contradiction|omega
  ·obtain⟨v1,v2,v3⟩:=hE.ok hgood
   obtain⟨w1,w2⟩:=Zrl hHc hok hgood v1 (by simp only[List.length_cons,List.length_nil]at v2;omega) hroom
   obtain⟨Xd,hd1,hd2,hd3⟩:=hHc.own (wrV (edV r.nodes ro p (min 5 ((s.length:Int)-p)) [120,121,122]) r).1;have hRe:=up3 (Zm3 (b:=0) hHc hok hgood hE hroom);rw[hd1]at hRe
   have hld:Xd.length=Xc.length:=by
    have:=congrArg (fun st:St=>st.L.length) hd1
    rw[Qy,ZjD]at this;exact this.symm
   obtain⟨bd1,Xe,hO3,hA1,hA2,hV1,hV2,q,q1,q2,q3⟩:=key Xd _ hd2 w1.ok w1.good w1.ext hld hd3;have hnx:=hat Xe q q1 q2 q3;unfold YI at hO3 bd1;unfold ZLf at hRe
   generalize (XS r.nodes ro s (w % 8) x a v)=F1 at *
   generalize (wrV (edV r.nodes ro p (min 5 ((s.length:Int)-p)) [120,121,122]) r).2.1=x1 at *
   generalize (wrV (edV r.nodes ro p (min 5 ((s.length:Int)-p)) [120,121,122]) r).2.2=x2 at *
   generalize slH (ZDy r.nodes [ro] (edV r.nodes ro p (min 5 ((s.length:Int)-p)) [120,121,122]))=x3 at *
   repeat'(first|exact hnx|refine ZEd Y ?_|refine Jw Y Y hiy (fun _=>rfl) ?_|refine Jw Y Y hiz (fun _=>rfl) ?_|refine ZQ Y bb Y Y ?_|refine ZQ Y bd1 Y Y ?_|refine ZQ Y jc Y (ZIF _) ?_|refine ZCh Y Y (by omega) ?_|refine ZjJ Y Y (by omega) ?_|refine ZQp Y Y ?_|refine ZE ?_|refine ZD ?_|refine ZG Y ?_|refine ZI Y Y ?_|refine Z9 Y ?_|refine Zi Y Y Y Y ?_|refine Zp Y Y ?_|refine ZB Y ?_|refine ZC ?_|refine Q4 Y ?_|refine Ql Y Y Y ?_|refine Qt Y Y ?_|(refine cm0 Y Y Y ?_ ?_<;>intro _<;>try omega)|(refine ZXl Y Y (fun _=>?_) (fun _=>?_)<;>try contradiction)|refine ZU Y ?_|refine ZF Y ?_|refine Zr Y Y (by omega) ?_|refine Qe Y Y (by omega) ?_|refine Zn Y Y Y ?_|refine Zw Y Y Y ?_|refine Q1 Y Y Y Y Y Y ?_|refine ZA Y Y Y (up3 hO1) ?_|refine ZA Y Y Y (up3 hO2) ?_|refine ZA Y Y Y (up3 hO3) ?_|refine ZA Y Y Y (hPk _) ?_|refine ZA Y Y Y (hRe) ?_|refine ZA Y Y Y (up3 hA1) ?_|refine ZA Y Y Y (up3 hA2) ?_|refine ZA Y Y Y (up3 hV1) ?_|refine ZA Y Y Y (up3 hV2) ?_|refine ZH ?_|refine ZS ?_|refine Z5 ?_|refine QJ ?_)
   all_goals try first|contradiction|omega
 ·have hini:¬ ((i:Nat):Int)<(ns.length:Int):=by omega
  obtain⟨bd1,Xe,hO3,hA1,hA2,hV1,hV2,q,q1,q2,q3⟩:=key Xc r hHc hok hgood (Ext.refl _) rfl (fun _ _=>rfl)
  have hnx:=hat Xe q q1 q2 q3;unfold YI at hO3 bd1
  generalize (XS r.nodes ro s (w % 8) x a v)=F1 at *
  repeat'(first|exact hnx|refine ZEd Y ?_|refine Jw Y Y hiy (fun _=>rfl) ?_|refine ZQ Y bb Y Y ?_|refine ZQ Y bd1 Y Y ?_|refine ZCh Y Y (by omega) ?_|refine ZjJ Y Y (by omega) ?_|refine ZE ?_|refine ZD ?_|refine ZG Y ?_|refine ZI Y Y ?_|refine Z9 Y ?_|refine Zi Y Y Y Y ?_|refine Zp Y Y ?_|refine ZB Y ?_|refine ZC ?_|refine Ql Y Y Y ?_|refine Qt Y Y ?_|(refine cm0 Y Y Y ?_ ?_<;>intro _<;>try omega)|(refine ZXl Y Y (fun _=>?_) (fun _=>?_)<;>try contradiction)|refine ZU Y ?_|refine ZF Y ?_|refine Zr Y Y (by omega) ?_|refine Zn Y Y Y ?_|refine Zw Y Y Y ?_|refine Q1 Y Y Y Y Y Y ?_|refine ZA Y Y Y (up3 hO1) ?_|refine ZA Y Y Y (up3 hO2) ?_|refine ZA Y Y Y (up3 hO3) ?_|refine ZA Y Y Y (up3 hA1) ?_|refine ZA Y Y Y (up3 hA2) ?_|refine ZA Y Y Y (up3 hV1) ?_|refine ZA Y Y Y (up3 hV2) ?_|refine ZH ?_|refine ZS ?_|refine Z5 ?_|refine QJ ?_)
  all_goals try first|contradiction|omega
theorem Zf5(s:B8)(ys:List Cs)(ns:List Int)(hs0:s.length<9223372036854775808)(hy:ys.length<9223372036854775808)(hn:ns.length<9223372036854775808)(st:St):
 S T3 JV [.str s,.lit (ys.map Cs.av),.lit (ns.map (.int .i64))] st=some (.bool true,st):=by
 refine QA (le3 JV (.pf YC) Y) (fun A hA=>?_)
 have hWk:=fun st=>up3 (Zpb st)
 by_cases h1:400<s.length
 ·repeat'(first|refine ZE ?_|refine ZD ?_|refine ZG Y ?_|refine Ji Y Y ?_|refine Zi Y Y Y Y ?_|refine ZB Y ?_|refine ZC ?_|refine Q4 Y ?_|(refine cm0 Y Y Y ?_ ?_<;>intro _<;>try omega)|refine ZU Y ?_|refine ZA Y Y Y (hWk _) ?_|refine ZP ?_|refine ZL ?_|refine ZW ?_)
  all_goals try first|contradiction|omega
  all_goals refine ZX hA (by simp) Y Y Y Y ?_
  all_goals rfl
 by_cases h2:30<ys.length
 ·repeat'(first|refine ZEd Y ?_|refine ZE ?_|refine ZD ?_|refine ZG Y ?_|refine Z9 Y ?_|refine Ji Y Y ?_|refine Zi Y Y Y Y ?_|refine ZB Y ?_|refine ZC ?_|refine Q4 Y ?_|(refine cm0 Y Y Y ?_ ?_<;>intro _<;>try omega)|refine ZU Y ?_|refine ZA Y Y Y (hWk _) ?_|refine ZP ?_|refine ZL ?_|refine ZW ?_)
  all_goals try first|contradiction|omega
  all_goals refine ZX hA (by simp) Y Y Y Y ?_
  all_goals rfl
 by_cases h3:6<ns.length
 ·repeat'(first|refine ZEd Y ?_|refine ZE ?_|refine ZD ?_|refine ZG Y ?_|refine Z9 Y ?_|refine Zi Y Y Y Y ?_|refine ZB Y ?_|refine ZC ?_|refine Q4 Y ?_|(refine cm0 Y Y Y ?_ ?_<;>intro _<;>try omega)|refine ZU Y ?_|refine ZA Y Y Y (hWk _) ?_|refine ZP ?_|refine ZL ?_|refine ZW ?_)
  all_goals try first|contradiction|omega
  all_goals refine ZX hA (by simp) Y Y Y Y ?_
  all_goals rfl
 have hAN:=Znx 1000 2 (by omega) (by omega) A []
 have hH0:Has ⟨A,false,[]++(arB A.length 0 (JT 1000 2)++[])⟩ A.length 0 (JT 1000 2):=ZXu A [] [] (JT 1000 2);rw[lE,lN]at hH0
 have hok0:=ZcZ 1000 2 (by omega) (by omega)
 obtain⟨b1,b2,b3⟩:=ZGA ZDt (s:=s) (by omega)
 have hnb:nw (Jv s)<=(JT 1000 2).n:=by
  have:=ZwI ZDt b1
  rw[b3]at this
  show nw (Jv s)<=1000
  omega
 have hRN:=ZoD hH0 hok0 ZDt s (by omega) hnb
 obtain⟨w1,w2⟩:=Zrl hH0 hok0 ZDt b1 (by rw[b3];omega) hnb
 change Rt _ _ (Tr.txt [] (Jv s)) at w2
 rw[b2]at w2;obtain⟨X1,e1,e2,e3⟩:=hH0.own (wrV (Jv s) (JT 1000 2)).1;rw[e1]at hRN
 have hl1:X1.length=6:=by
  have:=congrArg (fun st:St=>st.L.length) e1
  rw[Qy,ZjD]at this;exact this.symm
 have hgd:=w1.good;have hok:=w1.ok;clear e1 e3 w1
 generalize (wrV (Jv s) (JT 1000 2)).1=r1 at *
 generalize (wrV (Jv s) (JT 1000 2)).2.1=ro at *
 change S Tb ZBV _ _=some (_,⟨A,false,arB A.length 0 (JT 1000 2)⟩) at hAN
 generalize arB A.length 0 (JT 1000 2)=X0 at *
 have j2:(X1++[Blk.arr 5 0 [ro.av]])[X1.length]?=some (.arr 5 0 [ro.av]):=by rw[List.getElem?_append_right (Nat.le_refl _),Nat.sub_self];rfl
 have hH2:Has ⟨A,false,X1++[Blk.arr 5 0 [ro.av]]⟩ A.length 0 r1:=e2.stay (fun z hz=>jL (by omega))
 obtain⟨X3,ic1,li1,hN1,p1,p2,p3,p4,p5,p6,c1⟩:=Zcs hgd w2 (by omega) hH2.rdm (Nat.le_refl _)
 have l2:(X1++[Blk.arr 5 0 [ro.av]]).length=7:=by rw[lL,hl1];rfl
 have hH3:Has ⟨A,false,X3⟩ A.length 0 r1:=hH2.stay (fun z hz=>p6 z (by omega))
 have j3:=(p6 X1.length (by omega)).trans j2
 obtain⟨X4,ic2,li2,hN2,q1,q2,q3,q4,q5,q6,c2⟩:=Zcs hgd w2 (by omega) hH3.rdm (Nat.le_refl _)
 have hH4:Has ⟨A,false,X4⟩ A.length 0 r1:=hH3.stay (fun z hz=>q6 z (by omega))
 have j4:=(q6 X1.length (by omega)).trans j3
 obtain⟨X5,ic3,li3,hN3,s1,s2,s3,s4,s5,s6,c3⟩:=Zcs hgd w2 (by omega) hH4.rdm (Nat.le_refl _)
 have hH5:Has ⟨A,false,X5⟩ A.length 0 r1:=hH4.stay (fun z hz=>s6 z (by omega))
 have j5:=(s6 X1.length (by omega)).trans j4
 have d1:=c1.grow (X':=X5) hgd (Ext.refl _) w2 ((s6 _ (by omega)).trans (q6 _ (by omega))) ((s6 _ (by omega)).trans (q6 _ (by omega))) hH5.rdm
 have d2:=c2.grow (X':=X5) hgd (Ext.refl _) w2 (s6 _ (by omega)) (s6 _ (by omega)) hH5.rdm
 have h13:=w2.rt.h13 hgd
 have hlp:=fun (k:List Fr) (Q:Jh) hQ=>Zuo (A:=A) (s:=s) (ro:=ro) (N0:=r1.nodes) (j0:=X1.length) (ic1:=ic1) (li1:=li1) (ic2:=ic2) (li2:=li2) (ic3:=ic3) (li3:=li3) hgd w2 (by omega) ys (by omega) ns (by omega) (by omega) (by omega) (by omega)
  ⟨0,X5,r1,0,(if ro.at_=0 then 0 else ((ro.h+1:Nat):Int)),0,(if ro.at_=0 then 0 else ((ro.h+1:Nat):Int))⟩ rfl ⟨hH5,hok,hgd,Ext.refl _,j5,d1,d2,c3,⟨Nat.zero_le _,Nat.zero_le _⟩,by simp only;split<;>omega,by simp only;omega,Nat.zero_le _⟩ (k:=k) (Q:=Q) hQ
 simp only at hlp
 replace hAN:=up3 hAN;replace hRN:=up3 hRN;replace hN1:=up3 hN1;replace hN2:=up3 hN2;replace hN3:=up3 hN3
 have hfin:∀X r,Has ⟨A,false,X⟩ A.length 0 r->GoodN r.nodes->Ext r1.nodes r.nodes->S T3 ZBU [.ptr A.length (0+5) 0 0 0,ro.av] ⟨A,false,X⟩=some (.tup [.str s,.int .i64 0],⟨A,false,X⟩):=by
  intro X r hX hg hE;have hR:=w2.ext hgd hE
  have:=Zrk hg (b:=0) hX.rd hR.rt (by rw[hR.leaves hg];omega)
  rwa [hR.leaves hg]at this
 unfold Ro.av at hRN
 repeat'(first|refine hlp _ _ (fun X r x k1 k2 k3 k4=>?_)|refine ZEd Y ?_|refine ZQ Y j2 Y (ZIF _) ?_|refine ZQ Y j3 Y (ZIF _) ?_|refine ZQ Y j4 Y (ZIF _) ?_|refine ZE ?_|refine ZD ?_|refine ZG Y ?_|refine Z9 Y ?_|refine Zi Y Y Y Y ?_|refine Zp Y Y ?_|refine ZB Y ?_|refine ZC ?_|refine Q4 Y ?_|(refine cm0 Y Y Y ?_ ?_<;>intro _<;>try omega)|refine ZF Y ?_|refine JM Y Y Y Y ?_|refine Zw Y Y Y ?_|refine Q1 Y Y Y Y Y Y ?_|refine ZA Y Y Y (hAN) ?_|refine ZA Y Y Y (hRN) ?_|refine ZA Y Y Y (hN1) ?_|refine ZA Y Y Y (hN2) ?_|refine ZA Y Y Y (hN3) ?_|refine ZH ?_|refine ZS ?_)
 all_goals try first|contradiction|omega
 have hTx:=hfin X r k1 k2 k3
 repeat'(first|refine ZQ Y k4 Y (ZIF _) ?_|refine ZE ?_|refine ZD ?_|refine ZG Y ?_|refine Z9 Y ?_|refine Zi Y Y Y Y ?_|refine Zp Y Y ?_|refine ZB Y ?_|refine ZC ?_|(refine cm0 Y Y Y ?_ ?_<;>intro _<;>try omega)|(refine Y2 Y Y (fun _=>?_) (fun _=>?_)<;>try contradiction)|refine ZA Y Y Y (hTx) ?_|refine ZA Y Y Y (hWk _) ?_|refine ZP ?_|refine ZL ?_)
 all_goals try first|contradiction|omega
 all_goals refine ZX hA (by simp) Y Y Y Y ?_
 all_goals rfl
end Go.Q15
namespace Go.QAbs
open Go.ChangeShapes Go.WideShapes Go.RowKit Go.Deep
variable {f:FuncId}{A:List (Bool × List Blk)}{args:LV}{l s:B8}{a k la:Nat}
variable {P:Program}
def rho0:Rho:=⟨fun _ _=>⟨0,0,0⟩,fun _=>(0,[])⟩
theorem Zph(lv ix:Nat):St.empty.get lv ix=none:=by
 unfold St.empty St.get
 split<;>simp[vis]
theorem ZsY{W:World}{b o:Nat}{v:Value}(h:W.cell? ⟨b,o,none⟩=some v):(cx .empty rho0 W 0).im b o v :=
 ⟨h,fun ⟨lv,ix,w,ver,es,hg,_⟩=>by rw[Zph]at hg;simp at hg⟩
theorem walk_in(hm:P.follows .mixedOrders=true){T:Tab}(hT:TabOk P T)(h:∃st',S T f args .empty=some (.bool true,st')){W:World}{xs:List Value}(hg:KG P W (.of W))(hx:RL (cx .empty rho0 W 0) args xs):
 Calls P f xs.toArray W fun e W'=>e=.returned (.bool true)/\Below W.heap.size W W':=by
 obtain⟨st',h⟩:=h
 refine (ZtX hm hT h hg (Zoo W) hx).mono fun e' W' ⟨x,_,he,g,hv⟩=>?_
 subst he
 exact⟨by rw[Yg hv],g.rel.below.b⟩
theorem ZoP{W:World}{b off len cap w:Nat}(es:LV)(g:Nat->Value)(hlen:es.length=len)(hc:len<=cap)(he:∀(i:Nat) (e:AV),es[i]?=some e->R (cx .empty rho0 W 0).pure e (g i))
 (hg:∀i,i<len->(g i).cells.size=w/\∀(j:Nat) (v:Value),(g i).cells[j]?=some v->W.cell? ⟨b,off+i*w+j,none⟩=some v):R (cx .empty rho0 W 0) (.lit es) (.slice (some ⟨b,off,none⟩) len cap):=by
 subst hlen
 exact .lit (w:=w) g he (fun i hi=>⟨(hg i hi).1,fun j v hv=>ZsY ((hg i hi).2 j v hv)⟩) hc
end Go.QAbs
namespace Go.Proofs
open Go.Shelf
def Tryz.lays156_ren:Go.Shelf.Ren:=⟨fun|156=>21|165=>79|166=>80|169=>81|240=>147|241=>148|276=>209|277=>210|n=>n,fun|31=>22|9=>9|3=>3|4=>4|0=>0|20=>20|72=>134|76=>138|70=>131|37=>132|75=>137|127=>238|164=>296|5=>5|80=>140|n=>n,fun|n=>n⟩
theorem Tryz.lays156:Go.Proofs.Lays.n156 Tryz.prog Tryz.lays156_ren:={
 mixed:=by kernel_rfl
 f156:=Tryz.func21.trans (congrArg some (by kernel_rfl))
 f165:=Tryz.func79.trans (congrArg some (by kernel_rfl))
 f166:=Tryz.func80.trans (congrArg some (by kernel_rfl))
 f169:=Tryz.func81.trans (congrArg some (by kernel_rfl))
 f240:=Tryz.func147.trans (congrArg some (by kernel_rfl))
 f241:=Tryz.func148.trans (congrArg some (by kernel_rfl))
 f276:=Tryz.func209.trans (congrArg some (by kernel_rfl))
 f277:=Tryz.func210.trans (congrArg some (by kernel_rfl))
 t0:=Tryz.underlying0
 a0:=Tryz.isAgg0
 z0:=Tryz.sizeOf0
 v0:=Tryz.zeroValue0
 t3:=Tryz.underlying3
 a3:=Tryz.isAgg3
 z3:=Tryz.sizeOf3
 v3:=Tryz.zeroValue3
 t4:=Tryz.underlying4
 a4:=Tryz.isAgg4
 z4:=Tryz.sizeOf4
 v4:=Tryz.zeroValue4
 t9:=Tryz.underlying9
 a9:=Tryz.isAgg9
 z9:=Tryz.sizeOf9
 v9:=Tryz.zeroValue9
 t20:=Tryz.underlying20
 a20:=Tryz.isAgg20
 z20:=Tryz.sizeOf20
 v20:=Tryz.zeroValue20
 t31:=Tryz.underlying22
 a31:=Tryz.isAgg22
 z31:=Tryz.sizeOf22
 v31:=Tryz.zeroValue22
 t37:=Tryz.underlying132
 a37:=Tryz.isAgg132
 z37:=Tryz.sizeOf132
 v37:=Tryz.zeroValue132
 t70:=Tryz.underlying131
 a70:=Tryz.isAgg131
 z70:=Tryz.sizeOf131
 v70:=Tryz.zeroValue131
 t72:=Tryz.underlying134
 a72:=Tryz.isAgg134
 z72:=Tryz.sizeOf134
 v72:=Tryz.zeroValue134
 t75:=Tryz.underlying137
 a75:=Tryz.isAgg137
 z75:=Tryz.sizeOf137
 v75:=Tryz.zeroValue137
 t76:=Tryz.underlying138
 a76:=Tryz.isAgg138
 z76:=Tryz.sizeOf138
 v76:=Tryz.zeroValue138
 t127:=Tryz.underlying238
 a127:=Tryz.isAgg238
 z127:=Tryz.sizeOf238
 v127:=Tryz.zeroValue238
 t164:=Tryz.underlying296
 a164:=Tryz.isAgg296
 z164:=Tryz.sizeOf296
 v164:=Tryz.zeroValue296 }
theorem Tryz.Builder_Extra_156:Builder.Extra Tryz.prog Tryz.lays156_ren:={
 sizeBuilder:=by kernel_rfl
 liesBuilder:=by kernel_rfl
 t5:=Tryz.underlying5
 a5:=Tryz.isAgg5
 z5:=Tryz.sizeOf5
 v5:=Tryz.zeroValue5
 infoByte:=by kernel_rfl
 cellsByte:=by kernel_rfl
 sizeByte:=by kernel_rfl
 neB5:=by decide }
open Go.RowKit in
theorem Tryz.strings_Join_none(a:Option Addr)(c:Nat)(sep:ByteArray)(w:World):
 Calls Tryz.prog 21 #[.slice a 0 c,.string sep] w fun e w'=>e=.returned (.string ⟨#[]⟩)/\w'=w:=Any.strings_Join_none Tryz.lays156 Tryz.Builder_Extra_156 a c sep w
open Go.RowKit in
theorem Tryz.strings_Join(bk o c:Nat)(xs:List ByteArray)(sep:ByteArray)(w:World)(hcells:∀(j:Nat) x,xs[j]?=some x->w.cell? ⟨bk,o+j,none⟩=some (.string x))(hbk:bk<w.heap.size)(hN:xs.length<=140737488355328)(hcap:xs.length<=c)(hlen:(Lib.join (xs.map (·.data.toList)) sep.data.toList).length<=140737488355328):
 Calls Tryz.prog 21 #[.slice (some ⟨bk,o,none⟩) xs.length c,.string sep] w fun e w'=>e=.returned (.string ⟨(Lib.join (xs.map (·.data.toList)) sep.data.toList).toArray⟩)/\Below w.heap.size w w':=Any.strings_Join Tryz.lays156 Tryz.Builder_Extra_156 bk o c xs sep w hcells hbk hN hcap hlen
end Go.Proofs
namespace Go.Q15
open Go Go.QAbs
variable {f:FuncId}{A:List (Bool × List Blk)}{args:LV}{l s:B8}{a k la:Nat}
open Go.Shelf in
def ZsZ:Ren:=⟨fun|41=>179|n=>n,fun|22=>185|23=>191|n=>n,fun n=>n⟩
theorem Zsa:Go.Proofs.SlLaysE0.n41 Proofs.Tryz.prog ZsZ:={
 mixed:=by kernel_rfl
 f41 := ⟨"slices.Clone[[]quarto/api.Kid,quarto/api.Kid]", by decide, Proofs.Tryz.func179.trans (congrArg some (by kernel_rfl))⟩
 t4:=Proofs.Tryz.underlying4
 a4:=Proofs.Tryz.isAgg4
 z4:=Proofs.Tryz.sizeOf4
 v4:=Proofs.Tryz.zeroValue4
 t22:=Proofs.Tryz.underlying185
 a22:=Proofs.Tryz.isAgg185
 z22:=Proofs.Tryz.sizeOf185
 v22:=Proofs.Tryz.zeroValue185 }
theorem Zsb:∃i z,Proofs.Tryz.prog.info? 191=some i/\i.zero=some z/\i.size=4/\i.bytes=32/\z.cells.size=4:=⟨_,_,rfl,rfl,rfl,rfl,rfl⟩
theorem ZnC:ZYZ Proofs.Tryz.prog QD (.base (ZMM 4)):=by
 obtain⟨i,z,h1,h2,h3,h4,h5⟩:=Zsb
 refine Zqq (T:=191) (fun n c W=>Go.Proofs.AnyE.slices_Clone_nil Zsa n c W) fun ad n c news W hl hn hc ho=>?_
 exact Zos Zsa i z 4 32 h1 h2 h3 h4 h5 (by decide) Proofs.Tryz.sizeOf191 ad n c news W hl (by unfold maxLen;omega) (by omega) hc ho
theorem ZnD:Proofs.Tryz.prog.follows .mixedOrders=true:=by kernel_rfl
theorem Zsc:ZYa Proofs.Tryz.prog tl:=⟨⟨Proofs.Tryz.call179,ZnC⟩,⟨Proofs.Tryz.call21,Zte Proofs.Tryz.strings_Join_none Proofs.Tryz.strings_Join⟩,Ztr⟩
theorem ZwT:TabOk Proofs.Tryz.prog Tb:=ZYb Zsc
theorem Zsd:ZYa Proofs.Tryz.prog t1:=⟨⟨Proofs.Tryz.call85,Zqp ZnD ZwT Proofs.Tryz.func85 Zho⟩,Zsc⟩
theorem Zu3:TabOk Proofs.Tryz.prog T1:=ZYb Zsd
theorem Zv2:ZYa Proofs.Tryz.prog t3:=⟨⟨Proofs.Tryz.call89,Zqp ZnD Zu3 Proofs.Tryz.func89 Zdo⟩,⟨Proofs.Tryz.call27,Zqp ZnD Zu3 Proofs.Tryz.func27 Zha⟩,Zsd⟩
theorem T3_ok:TabOk Proofs.Tryz.prog T3:=ZYb Zv2
end Go.Q15
namespace Go.QAbs
open Go.ChangeShapes Go.WideShapes Go.RowKit Go.Deep
variable {f:FuncId}{A:List (Bool × List Blk)}{args:LV}{l s:B8}{a k la:Nat}
variable {P:Program}
section
variable {H:Type}{enc:TypeId × Value->H}
theorem open_ints_arg{W:World}{base:Nat}{t e:TypeId}{v:Value}{d:DataW H}{ps:List MemPlace}(ht:P.underlying t=some (.slice e))(he:P.underlying e=some (.int .i64))(hc:P.cellsOf e=1)
 (hval:Value.okWide P W .any base t v) (h:DataW.Trod enc P W 0 (fun _=>true) true t v d ps) :
 ∃l:List Int,l.length<=maxLen/\R (cx .empty rho0 W 0) (.lit (l.map (.int .i64))) v:=by
 obtain⟨a0,len,cap,rfl⟩:=okWide_slice ht hval;obtain⟨fuel,hf⟩:=h
 rcases open_ints ht he hc hf with⟨hcs,hx⟩|⟨a,len',cap',zs,hcs,_,hl,hm,hz,hx,hcell,hsz⟩
 ·refine⟨[],by simp,?_⟩
  have:(Value.slice a0 len cap)=.slice none 0 0:=by simpa [Value.cells] using hcs
  rw[this];exact .lit0 _ _
 ·have hv:(Value.slice a0 len cap)=.slice (some a) len' cap':=by simpa [Value.cells] using hcs
  rw[hv];simp only[if_true]at hz;refine⟨zs.take len',?_,?_⟩
  ·rw[List.length_take];omega
  ·cases len' with
   | zero=>exact .lit0 _ _
   | succ n =>
    obtain⟨b,off,spot⟩:=a
    have hspot:spot=none:=by simpa [Addr.add] using World.cell?_spot (hcell 0 (by omega))
    subst hspot
    refine ZoP (w:=1) _ (fun i=>.int .i64 (zs.getD i 0)) (by simp;omega) hl (fun i e he=>?_) (fun i hi=>⟨rfl,fun j v hv=>?_⟩)
    ·rw[jG,List.getElem?_take]at he
     by_cases hi:i<n+1
     ·rw[if_pos hi]at he
      have hs:zs[i]?=some (zs.getD i 0):=by
       have:i<zs.length:=by omega
       simp[List.getD,this]
      rw[hs]at he;simp only[Option.map_some,oJ]at he;subst he;exact .int _ _
     ·rw[if_neg hi]at he;simp at he
    ·have hj : j = 0 := by
      have:j<(Value.int .i64 (zs.getD i 0)).cells.size:=(Array.getElem?_eq_some_iff.1 hv).1
      simp[Value.cells]at this;omega
     subst hj
     have hv':Value.int .i64 (zs.getD i 0)=v:=by simpa [Value.cells] using hv
     rw[<- hv']
     have:=hcell i (by omega)
     simpa [Addr.add_lit] using this
end
end Go.QAbs
namespace Go.QAbs
open Go.ChangeShapes Go.WideShapes Go.RowKit Go.Deep
variable {f:FuncId}{A:List (Bool × List Blk)}{args:LV}{l s:B8}{a k la:Nat}
variable {P:Program}
section
variable {H:Type}{enc:TypeId × Value->H}
theorem open_csteps_arg{W:World}{base:Nat}{t e t0 t1 t2 t3:TypeId}{f0 f1 f2 f3:Field}{v:Value}{d:DataW H}{ps:List MemPlace}(ht:P.underlying t=some (.slice e))(he:P.underlying e=some (.struct #[f0,f1,f2,f3]))(hc:P.cellsOf e=4)
 (hf0:f0.type=t0/\f0.offset=0/\P.underlying t0=some (.int .u8)/\P.cellsOf t0=1) (hf1:f1.type=t1/\f1.offset=1/\P.underlying t1=some (.int .i64)/\P.cellsOf t1=1) (hf2:f2.type=t2/\f2.offset=2/\P.underlying t2=some (.int .i64)/\P.cellsOf t2=1)
 (hf3:f3.type=t3/\f3.offset=3/\P.underlying t3=some (.int .u8)/\P.cellsOf t3=1) (hval:Value.okWide P W .any base t v) (h:DataW.Trod enc P W 0 (fun _=>true) true t v d ps) :
 ∃l:List (Nat × Int × Int × Nat),l.length<=maxLen/\R (cx .empty rho0 W 0) (.lit (l.map fun q=>.agg [.int .u8 q.1,.int .i64 q.2.1,.int .i64 q.2.2.1,.int .u8 q.2.2.2])) v:=by
 obtain⟨a0,len,cap,rfl⟩:=okWide_slice ht hval;obtain⟨fuel,hf⟩:=h
 rcases open_slice ht hf with⟨hcs,hx⟩|⟨a,len',cap',m,n,D,Pl,hcs,_,hl,hm,hmm,hx,hall⟩
 ·refine⟨[],by simp,?_⟩
  have:(Value.slice a0 len cap)=.slice none 0 0:=by simpa [Value.cells] using hcs
  rw[this];exact .lit0 _ _
 ·have hv:(Value.slice a0 len cap)=.slice (some a) len' cap':=by simpa [Value.cells] using hcs
  rw[hv];simp only[if_true]at hmm;subst hmm;rw[hc]at hall
  have each:∀i,i<len'->∃q:Nat × Int × Int × Nat,W.cell? (a.add (i*4))=some (.int .u8 q.1)/\W.cell? (a.add (i*4+1))=some (.int .i64 q.2.1)/\W.cell? (a.add (i*4+2))=some (.int .i64 q.2.2.1)/\W.cell? (a.add (i*4+3))=some (.int .u8 q.2.2.2):=by
   intro i hi
   obtain⟨cs',h1,h2⟩:=hall i (by omega)
   obtain⟨_,hlen,hcell⟩:=World.cells?_some h1;obtain⟨xs,k,_,_,_,hxl,hfs⟩:=DataW.trod_struct he h2;have g0:=hfs 0 f0 rfl;have g1:=hfs 1 f1 rfl;have g2:=hfs 2 f2 rfl;have g3:=hfs 3 f3 rfl
   match cs',hlen,xs,hxl with
   | [c0,c1,c2,c3],_,[y0,y1,y2,y3],_ =>
    simp only[hf0.1,hf0.2.1,hf0.2.2.2,hf1.1,hf1.2.1,hf1.2.2.2,hf2.1,hf2.2.1,hf2.2.2.2,hf3.1,hf3.2.1,hf3.2.2.2,List.drop,List.take,List.getElem?_cons_zero,List.getElem?_cons_succ]at g0 g1 g2 g3;obtain⟨n0,e0,_,w0⟩:=DataW.trod_int hf0.2.2.1 g0;obtain⟨n1,e1,_,_⟩:=DataW.trod_int hf1.2.2.1 g1;obtain⟨n2,e2,_,_⟩:=DataW.trod_int hf2.2.2.1 g2;obtain⟨n3,e3,_,w3⟩:=DataW.trod_int hf3.2.2.1 g3;simp only[List.cons.injEq,and_true]at e0 e1 e2 e3;subst e0;subst e1;subst e2;subst e3
    have hn0:0<=n0:=by
     simp only[Lit.wf,Bool.and_eq_true,decide_eq_true_eq]at w0;exact w0.1
    have hn3:0<=n3:=by
     simp only[Lit.wf,Bool.and_eq_true,decide_eq_true_eq]at w3;exact w3.1
    refine⟨(n0.toNat,n1,n2,n3.toNat),?_,?_,?_,?_⟩
    ·have:=hcell 0 (by omega)
     simp only[add_add,Nat.add_zero,List.getElem?_cons_zero]at this;rw[this];simp only[Int.toNat_of_nonneg hn0]
    ·have:=hcell 1 (by omega)
     simpa only [add_add,List.getElem?_cons_succ,List.getElem?_cons_zero] using this
    ·have:=hcell 2 (by omega)
     simpa only [add_add,List.getElem?_cons_succ,List.getElem?_cons_zero] using this
    ·have:=hcell 3 (by omega)
     simp only[add_add,List.getElem?_cons_succ,List.getElem?_cons_zero]at this;rw[this];simp only[Int.toNat_of_nonneg hn3]
  obtain⟨q,hq⟩:=choose_lt each
  refine⟨(List.range len').map q,by simp;omega,?_⟩
  ·cases len' with
   | zero=>exact .lit0 _ _
   | succ len' =>
    obtain⟨b,off,spot⟩:=a
    have hspot:spot=none:=by simpa [Addr.add] using World.cell?_spot (hq 0 (by omega)).1
    subst hspot
    refine ZoP (w:=4) _ (fun i=>.agg #[.int .u8 (q i).1,.int .i64 (q i).2.1,.int .i64 (q i).2.2.1,.int .u8 (q i).2.2.2]) (by simp) hl (fun i e he=>?_) (fun i hi=>⟨by simp[Value.cells],fun j v hv=>?_⟩)
    ·rw[jG,jG]at he
     by_cases hi:i<len'+1
     ·rw[List.getElem?_range hi]at he
      simp only[Option.map_some,oJ]at he;subst he;have hr:=RL.cons (C:=(cx .empty rho0 W 0).pure) (.int .u8 ((q i).1:Int)) (.cons (.int .i64 (q i).2.1) (.cons (.int .i64 (q i).2.2.1) (.cons (.int .u8 ((q i).2.2.2:Int)) (.nil _))));exact .agg (xs:=[_,_,_,_]) hr.1 hr.2
     ·have:(List.range (len'+1))[i]?=none:=by simp;omega
      rw[this]at he;simp at he
    ·obtain⟨k0,k1,k2,k3⟩:=hq i hi
     have hj:j<4:=by
      have:=(Array.getElem?_eq_some_iff.1 hv).1
      simpa [Value.cells] using this
     simp only[Addr.add_lit]at k0 k1 k2 k3
     match j,hj with
     | 0,_ =>
      have:v=.int .u8 (q i).1:=by simpa [Value.cells] using hv.symm
      subst this;simpa using k0
     | 1,_ =>
      have:v=.int .i64 (q i).2.1:=by simpa [Value.cells] using hv.symm
      subst this;simpa [Nat.add_assoc] using k1
     | 2,_ =>
      have:v=.int .i64 (q i).2.2.1:=by simpa [Value.cells] using hv.symm
      subst this;simpa [Nat.add_assoc] using k2
     | 3,_ =>
      have:v=.int .u8 (q i).2.2.2:=by simpa [Value.cells] using hv.symm
      subst this;simpa [Nat.add_assoc] using k3
end
end Go.QAbs
namespace Go.Q15
open Go Go.QAbs
variable {f:FuncId}{A:List (Bool × List Blk)}{args:LV}{l s:B8}{a k la:Nat}
def mkCs(q:Nat × Int × Int × Nat):Cs:=⟨q.1,q.2.1,q.2.2.1,q.2.2.2⟩
theorem cursorApart_run(s:B8)(l:List (Nat × Int × Int × Nat))(ns:List Int)(h1:s.length<=maxLen)(h2:l.length<=maxLen)(h3:ns.length<=maxLen):
 ∃st',S T3 JV [.str s,.lit (l.map fun q=>.agg [.int .u8 q.1,.int .i64 q.2.1,.int .i64 q.2.2.1,.int .u8 q.2.2.2]),.lit (ns.map (.int .i64))] .empty=some (.bool true,st'):=by
 have hm:maxLen<9223372036854775808:=by decide +kernel
 have:=Zf5 s (l.map mkCs) ns (by omega) (by rw[List.length_map];omega) (by omega) .empty
 rw[List.map_map]at this;exact⟨_,this⟩
end Go.Q15
