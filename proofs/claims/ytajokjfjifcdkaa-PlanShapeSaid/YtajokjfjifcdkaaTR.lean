/- A part of the proof: TR, TRS. No condition. -/
import Derived.Test.YtajokjfjifcdkaaT8
set_option linter.unusedVariables false
set_option linter.unusedSimpArgs false
namespace Go.Q15
open Go Go.QAbs
set_option maxRecDepth 100000
open Go.Shelf in
def cloneRen:Ren:=⟨fun|41=>75|n=>n,fun|22=>100|23=>106|n=>n,fun n=>n⟩
theorem cloneL:Go.Proofs.SlLaysE0.n41 Go.Proofs.Try.prog cloneRen:={
 mixed:=by kernel_rfl
 f41 := ⟨"slices.Clone[[]quarto/api.Kid,quarto/api.Kid]", by decide, Go.Proofs.Try.func75.trans (congrArg some (by kernel_rfl))⟩
 t4:=Go.Proofs.Try.underlying4
 a4:=Go.Proofs.Try.isAgg4
 z4:=Go.Proofs.Try.sizeOf4
 v4:=Go.Proofs.Try.zeroValue4
 t22:=Go.Proofs.Try.underlying100
 a22:=Go.Proofs.Try.isAgg100
 z22:=Go.Proofs.Try.sizeOf100
 v22:=Go.Proofs.Try.zeroValue100 }
theorem kid_info:∃ i z,Go.Proofs.Try.prog.info? 106=some i∧i.zero=some z∧i.size=4∧i.bytes=32∧z.cells.size=4:=⟨_,_,rfl,rfl,rfl,rfl,rfl⟩
theorem clone_ok15:EntOk Go.Proofs.Try.prog F_slices_Clone_api_Kid_api_Kid (.base (cloneO 4)):=by
 obtain ⟨i,z,h1,h2,h3,h4,h5⟩:=kid_info
 refine clone_ok (T:=106) (fun n c W=>Go.Proofs.AnyE.slices_Clone_nil cloneL n c W) fun ad n c news W hl hn hc ho=>?_
 exact clone_any cloneL i z 4 32 h1 h2 h3 h4 h5 (by decide) Go.Proofs.Try.sizeOf106 ad n c news W hl (by unfold maxLen;omega) (by omega) hc ho
theorem Tb_ok:TabOk Go.Proofs.Try.prog Tb:=tabOk_of ⟨⟨Go.Proofs.Try.call75,clone_ok15⟩,tab_all⟩
def mkStp (q:Nat × Int × Int × List UInt8):Stp:=⟨q.1,q.2.1,q.2.2.1,q.2.2.2⟩
end Go.Q15
namespace Go.Q15
open Go Go.QAbs
set_option maxRecDepth 100000
theorem shape_run (ss:List (List UInt8)) (l:List (Nat × Int × Int × List UInt8)) (at_:Int) (h1:∀ s∈ss,s.length≤maxLen) (h2:ss.length≤maxLen) (h3:∀ s∈l,s.2.2.2.length≤maxLen) (h4:l.length≤maxLen) (_:(Lit.int .i64 at_).wf=true) :
 ∃ st',S Tb F_quartolaw15_PlanShape [.lit (ss.map .str),.lit (l.map fun q=>.agg [.int .u8 q.1,.int .i64 q.2.1,.int .i64 q.2.2.1,.str q.2.2.2]),.int .i64 at_] .empty=some (.bool true,st'):=by
 have hm:maxLen<9223372036854775808:=by decide +kernel
 have:=shape_c ss (l.map mkStp) at_ ⟨by omega,fun s hs=>by have:=h1 s hs;omega,by rw [List.length_map];omega,fun s hs=>by obtain ⟨q,hq,rfl⟩:=List.mem_map.1 hs;have:=h3 q hq;simp only [mkStp];omega⟩ .empty
 rw [List.map_map] at this
 exact ⟨_,this⟩
end Go.Q15
