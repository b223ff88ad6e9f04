/- The closed run of EditNames. No condition. -/
import Derived.Test.YtjlmaolamafdmaaGreatEdTR
set_option linter.unusedVariables false
set_option linter.unusedSimpArgs false
namespace Go.QZ
open Go Go.QAbs
set_option maxRecDepth 100000
noncomputable def repK (b:UInt8) (n:Nat):List UInt8:=Nat.rec (motive:=fun _=>List UInt8) [] (fun _ ih=>b::ih) n
theorem repK_eq (b:UInt8):∀ n,repK b n=Lib.repeatL [b] n
 | 0=>rfl
 | n+1=>by show b::repK b n=_;rw [repK_eq b n];rfl
noncomputable def xRep:List AV→St→Option (AV × St)
 | [.str [b],.int .i64 (.ofNat n)],st=>bif Nat.ble n 1000000 then some (.str (repK b n),st) else none
 | _,_=>none
theorem xRep_ok (args:List AV) (st:St) (r:AV × St) (h:xRep args st=some r):S (lookT t3) F_strings_Repeat args st=some r:=by
 refine S_base (o:=repeatO) rfl ?_
 unfold xRep at h
 split at h
 ·rename_i b n
  cases hq:Nat.ble n 1000000 with
  | false=>rw [hq] at h;simp at h
  | true =>
   rw [hq] at h
   have hn:=Nat.le_of_ble_eq_true hq
   simp only [cond_true,Option.some.injEq] at h;subst h
   show (if [b].length*n≤140737488355328∧n≤9223372036854775807 then some (AV.str (Lib.repeatL [b] n),st) else none)=_
   rw [if_pos ⟨by simp;omega,by omega⟩,repK_eq]
 ·simp at h
noncomputable def sh4:List (FuncId × (List AV→St→Option (AV × St))):=(F_strings_Repeat,xRep)::sh3
theorem editNames_run:∃ st',S (lookT t3) F_quartolaw19_EditNames [] .empty=some (.bool true,st'):=rx_true (l:=t3) (sh:=shLook sh4) (shLook_ok ⟨xRep_ok,sh3_all⟩) 60 (by kernel_rfl)
end Go.QZ
