/- The runs of chunk's laws, as the frame calls for them. No condition. -/
import Derived.Test.YtmkjnglbfgajbaaN3
namespace Go.Q14
set_option linter.unusedVariables false
set_option linter.unusedSimpArgs false
open Go Go.QAbs

theorem wf64 {n : Int} (h : (Lit.int .i64 n).wf = true) : -9223372036854775808 ≤ n ∧ n < 9223372036854775808 := by
  simp only [Lit.wf, Bool.and_eq_true, decide_eq_true_eq] at h
  have h1 : IntKind.i64.min = -9223372036854775808 := rfl
  have h2 : IntKind.i64.max = 9223372036854775807 := rfl
  rw [h1, h2] at h
  omega

theorem evens_run (n most : Int) (hn : (Lit.int .i64 n).wf = true) (hm : (Lit.int .i64 most).wf = true) : ∃ st', S T F_quartolaw14_ChunkEvens [.int .i64 n, .int .i64 most] .empty = some (.bool true, st') := ⟨_, evens n most _⟩
theorem sizes_run (n most : Int) (hn : (Lit.int .i64 n).wf = true) (hm : (Lit.int .i64 most).wf = true) : ∃ st', S T F_quartolaw14_ChunkSizes [.int .i64 n, .int .i64 most] .empty = some (.bool true, st') := ⟨_, sizes_law n most _ (wf64 hn) (wf64 hm)⟩
theorem cuts_run (s a b : List UInt8) (k : Int) (hs : s.length ≤ maxLen) (ha : a.length ≤ maxLen) (hb : b.length ≤ maxLen) (hk : (Lit.int .i64 k).wf = true) : ∃ st', S T F_quartolaw14_ChunkCuts [.str s, .str a, .str b, .int .i64 k] .empty = some (.bool true, st') := ⟨_, cuts s a b k _⟩
theorem back_run (s : List UInt8) (k : Int) (hs : s.length ≤ maxLen) (hk : (Lit.int .i64 k).wf = true) : ∃ st', S T F_quartolaw14_ChunkBack [.str s, .int .i64 k] .empty = some (.bool true, st') := ⟨_, back s k _⟩

end Go.Q14
