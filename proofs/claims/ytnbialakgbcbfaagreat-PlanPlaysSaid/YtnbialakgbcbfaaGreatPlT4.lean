/- A part of the proof: W3. No condition. -/
import Derived.Test.YtnbialakgbcbfaaGreatPlT3
set_option linter.unusedVariables false
set_option linter.unusedSimpArgs false
namespace Go.QAbs
section
variable {O:Orc}{k:List Fr}{Q:Qn}{e:Env}{A:List (Bool × List Blk)}{L L':List Blk}{keep:List Nat}{is:List PI}{d:Nat}
theorem Zvr{n:Nat}{a x:Opd}{ix ver i o w:Nat}{es:LV}{v u v' y:AV}(hg:L[ix]?=some (Blk.arr w ver es))(ha:ZY e a=some (.ptr A.length ix ver i o))(hx:ZY e x=some v)(hy:es[i]?=some y)
 (hs:Zb QK (A.length+1) ⟨A,false,L⟩ v=some (u,⟨A,false,L⟩)) (hv:(Q7 w y o n u).bind YS=some v') (h:Is O is keep k Q e ⟨A,false,L.set ix (Blk.arr w ver (es.set i v'))⟩):Is O (⟨none,none,false,.st n a x⟩::is) keep k Q e ⟨A,false,L⟩:=by
 have hlt:ix<L.length:=by
  rw[List.getElem?_eq_some_iff]at hg;exact hg.1
 have hv':Q7 w y o n u=some v':=by
  simp only[Option.bind_eq_some_iff]at hv;obtain⟨u,h1,h2⟩:=hv;rw[h1,Yc h2]
 refine Zq (od:=none) (v:=.undef) (st':=⟨A,false,L.set ix (Blk.arr w ver (es.set i v'))⟩) ?_ h;simp only[Zd,evalPO,ZD ha,ZD hx,ZA7,hs,Option.bind_some,ZGM,St.get_cur,hg,vis,Xp,if_true,hy,hv',St.put,if_false,jB,if_pos hlt,ZCI]
theorem Zmg{n:Nat}{a x:Opd}{ix ver i o w:Nat}{es:LV}{v' y:AV}(ha:ZY e a=some (.ptr A.length ix ver i o))(hx:ZY e x=some .nils)(hg:L[ix]?=some (Blk.arr w ver es))(hy:es[i]?=some y)
 (hv:(Q7 w y o n (.lit [])).bind YS=some v') (h:Is O is keep k Q e ⟨A,false,L.set ix (Blk.arr w ver (es.set i v'))⟩):Is O (⟨none,none,false,.st n a x⟩::is) keep k Q e ⟨A,false,L⟩ :=
 Zvr hg ha hx hy rfl hv h
end
end Go.QAbs
