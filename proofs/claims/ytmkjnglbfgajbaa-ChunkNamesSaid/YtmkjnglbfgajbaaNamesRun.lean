/- The closed law ChunkNames gives true, by computation. No condition. -/
import Derived.Test.YtmkjnglbfgajbaaC14
namespace Go.Q14
open Go Go.QAbs
set_option maxRecDepth 100000
theorem names_run : ∃ st', S T 7 [] .empty = some (.bool true, st') := closed_true 60 (by kernel_rfl)
end Go.Q14
