/- Resolved code of this seat's functions, printed by program. No condition. -/
import Derived.Test.YtmkjnglbfgajbaaC14
import Derived.Test.YtmkjnglbfgajbaaProg
import Derived.KernelRfl
namespace Go.Q14
open Go Go.QAbs
set_option maxRecDepth 100000
/-- quarto/quartolaw14.ChunkOwn -/
def h_quartolaw14_ChunkOwnk : List Hint := [⟨[0, 1], [], [], [], [], []⟩, ⟨[0, 1, 21], [], [], [], [], []⟩, ⟨[4], [], [], [], [], []⟩, ⟨[0, 1, 5], [], [], [], [], []⟩, ⟨[0, 1, 5, 24], [], [], [], [], []⟩, ⟨[0, 1, 5, 6], [], [(1, .move)], [], [], []⟩, ⟨[0, 1, 5, 6, 7, 8], [], [(1, .move)], [], [], []⟩, ⟨[0, 1, 5, 6, 7, 48], [], [], [], [], []⟩, ⟨[4], [], [], [], [], []⟩, ⟨[0, 1, 5, 6, 7, 9], [], [], [], [], []⟩, ⟨[0, 1, 5, 6, 7, 9, 52], [], [], [], [], []⟩, ⟨[0, 1, 5, 6, 7, 9], [], [], [], [], []⟩, ⟨[0, 1, 5, 6, 7, 9], [], [], [], [], []⟩, ⟨[0, 1, 5, 7, 10], [], [], [], [], []⟩, ⟨[0, 1, 5, 7, 10, 61], [], [], [], [], []⟩, ⟨[0, 1, 5, 7, 10], [], [], [], [], []⟩, ⟨[0, 1, 5, 7, 10], [], [], [], [], []⟩, ⟨[0, 1, 5], [], [], [], [], []⟩, ⟨[4], [], [], [], [], []⟩]
def p_quartolaw14_ChunkOwnk_0 : PC :=
  (.reg [0, 1] [⟨(some 4), none, false, .mv (.v (.bool false))⟩])
def p_quartolaw14_ChunkOwnk_1 : PC :=
  (.reg [0, 1, 21] [⟨(some 11), none, false, .mv (.s 0)⟩,
    ⟨(some 12), none, false, .len 0 (.s 11)⟩,
    ⟨(some 13), none, false, .bin .gtr (.s 12) (.v (.int .i64 1000))⟩,
    ⟨(some 14), none, false, .mv (.s 13)⟩,
    ⟨(some 15), (some (14, false)), false, .mv (.s 1)⟩,
    ⟨(some 16), (some (14, false)), false, .bin .lss (.s 15) (.v (.int .i64 0))⟩,
    ⟨(some 17), none, false, .pick (.s 14) (.v (.bool true)) (.s 16)⟩,
    ⟨(some 18), none, false, .mv (.s 17)⟩,
    ⟨(some 19), (some (18, false)), false, .mv (.s 1)⟩,
    ⟨(some 20), (some (18, false)), false, .bin .gtr (.s 19) (.v (.int .i64 1000))⟩,
    ⟨(some 21), none, false, .pick (.s 18) (.v (.bool true)) (.s 20)⟩])
def p_quartolaw14_ChunkOwnk_2 : PC :=
  (.reg [4] [⟨(some 22), none, false, .call .norm (.v (.func (.func F_quartolaw14_works) [] [])) []⟩,
    ⟨(some 4), none, false, .mv (.s 22)⟩])
def p_quartolaw14_ChunkOwnk_3 : PC :=
  (.reg [0, 1, 5] [⟨(some 5), none, false, .mv (.v (.int .i64 0))⟩])
def p_quartolaw14_ChunkOwnk_4 : PC :=
  (.reg [0, 1, 5, 24] [⟨(some 23), none, false, .mv (.s 5)⟩,
    ⟨(some 24), none, false, .bin .lss (.s 23) (.v (.int .i64 2))⟩])
def p_quartolaw14_ChunkOwnk_5 : PC :=
  (.reg [0, 1, 5, 6] [⟨(some 27), none, false, .mv (.s 0)⟩,
    ⟨(some 28), none, false, .call .move (.v (.func (.func F_chunk_Chunks) [] [])) [(.s 27)]⟩,
    ⟨(some 6), none, false, .mv (.s 28)⟩])
def p_quartolaw14_ChunkOwnk_6 : PC :=
  (.reg [0, 1, 5, 6, 7, 8] [⟨(some 30), none, false, .mv (.s 1)⟩,
    ⟨(some 31), none, false, .call .move (.v (.func (.func F_chunk_Even) [] [])) [(.s 30), (.v (.int .i64 3))]⟩,
    ⟨(some 29), none, false, .mv (.s 31)⟩,
    ⟨(some 32), none, false, .ext (.s 29) 0⟩,
    ⟨(some 33), none, false, .ext (.s 29) 1⟩,
    ⟨(some 7), none, false, .mv (.s 32)⟩,
    ⟨(some 8), none, false, .mv (.s 33)⟩])
def p_quartolaw14_ChunkOwnk_7 : PC :=
  (.reg [0, 1, 5, 6, 7, 48] [⟨(some 34), none, false, .mv (.s 8)⟩,
    ⟨(some 35), none, false, .bin .neq (.s 34) (.v (.int .i64 0))⟩,
    ⟨(some 36), none, false, .mv (.s 35)⟩,
    ⟨(some 37), (some (36, false)), false, .mv (.s 6)⟩,
    ⟨(some 38), (some (36, false)), false, .call .norm (.v (.func (.func F_strings_Join) [] [])) [(.s 37), (.v (.str []))]⟩,
    ⟨(some 39), (some (36, false)), false, .mv (.s 0)⟩,
    ⟨(some 40), (some (36, false)), false, .bin .neq (.s 38) (.s 39)⟩,
    ⟨(some 41), none, false, .pick (.s 36) (.v (.bool true)) (.s 40)⟩,
    ⟨(some 42), none, false, .mv (.s 41)⟩,
    ⟨(some 43), (some (42, false)), false, .mv (.s 7)⟩,
    ⟨(some 44), (some (42, false)), false, .mv (.s 1)⟩,
    ⟨(some 45), (some (42, false)), false, .call .norm (.v (.func (.func F_quartoref14_Sizes) [] [])) [(.s 44), (.v (.int .i64 3))]⟩,
    ⟨(some 46), (some (42, false)), false, .call .norm (.v (.func (.func F_quartoref14_Ints) [] [])) [(.s 43), (.s 45)]⟩,
    ⟨(some 47), (some (42, false)), false, .un .not (.s 46)⟩,
    ⟨(some 48), none, false, .pick (.s 42) (.v (.bool true)) (.s 47)⟩])
def p_quartolaw14_ChunkOwnk_8 : PC :=
  (.reg [4] [⟨(some 4), none, false, .mv (.v (.bool false))⟩])
def p_quartolaw14_ChunkOwnk_9 : PC :=
  (.reg [0, 1, 5, 6, 7, 9] [⟨(some 9), none, false, .mv (.v (.int .i64 0))⟩])
def p_quartolaw14_ChunkOwnk_10 : PC :=
  (.reg [0, 1, 5, 6, 7, 9, 52] [⟨(some 49), none, false, .mv (.s 9)⟩,
    ⟨(some 50), none, false, .mv (.s 6)⟩,
    ⟨(some 51), none, false, .len 1 (.s 50)⟩,
    ⟨(some 52), none, false, .bin .lss (.s 49) (.s 51)⟩])
def p_quartolaw14_ChunkOwnk_11 : PC :=
  (.reg [0, 1, 5, 6, 7, 9] [⟨(some 55), none, false, .mv (.s 6)⟩,
    ⟨(some 56), none, false, .mv (.s 9)⟩,
    ⟨(some 57), none, false, .ixS 1 (.s 55) (.s 56)⟩,
    ⟨none, none, false, .st 1 (.s 57) (.v (.str [115, 112, 111, 105, 108, 116]))⟩])
def p_quartolaw14_ChunkOwnk_12 : PC :=
  (.reg [0, 1, 5, 6, 7, 9] [⟨(some 53), none, false, .mv (.s 9)⟩,
    ⟨(some 54), none, false, .bin .add (.s 53) (.v (.int .i64 1))⟩,
    ⟨(some 9), none, false, .mv (.s 54)⟩])
def p_quartolaw14_ChunkOwnk_13 : PC :=
  (.seq (.seq p_quartolaw14_ChunkOwnk_10
  (.ite (.s 52)
    .skip
    (.exit 2)))
  (.seq (.block 3
    p_quartolaw14_ChunkOwnk_11)
  p_quartolaw14_ChunkOwnk_12))
def p_quartolaw14_ChunkOwnk_14 : PC :=
  (.reg [0, 1, 5, 7, 10] [⟨(some 10), none, false, .mv (.v (.int .i64 0))⟩])
def p_quartolaw14_ChunkOwnk_15 : PC :=
  (.reg [0, 1, 5, 7, 10, 61] [⟨(some 58), none, false, .mv (.s 10)⟩,
    ⟨(some 59), none, false, .mv (.s 7)⟩,
    ⟨(some 60), none, false, .len 1 (.s 59)⟩,
    ⟨(some 61), none, false, .bin .lss (.s 58) (.s 60)⟩])
def p_quartolaw14_ChunkOwnk_16 : PC :=
  (.reg [0, 1, 5, 7, 10] [⟨(some 64), none, false, .mv (.s 7)⟩,
    ⟨(some 65), none, false, .mv (.s 10)⟩,
    ⟨(some 66), none, false, .ixS 1 (.s 64) (.s 65)⟩,
    ⟨none, none, false, .st 1 (.s 66) (.v (.int .i64 (-1)))⟩])
def p_quartolaw14_ChunkOwnk_17 : PC :=
  (.reg [0, 1, 5, 7, 10] [⟨(some 62), none, false, .mv (.s 10)⟩,
    ⟨(some 63), none, false, .bin .add (.s 62) (.v (.int .i64 1))⟩,
    ⟨(some 10), none, false, .mv (.s 63)⟩])
def p_quartolaw14_ChunkOwnk_18 : PC :=
  (.seq (.seq p_quartolaw14_ChunkOwnk_15
  (.ite (.s 61)
    .skip
    (.exit 4)))
  (.seq (.block 5
    p_quartolaw14_ChunkOwnk_16)
  p_quartolaw14_ChunkOwnk_17))
def p_quartolaw14_ChunkOwnk_19 : PC :=
  (.reg [0, 1, 5] [⟨(some 25), none, false, .mv (.s 5)⟩,
    ⟨(some 26), none, false, .bin .add (.s 25) (.v (.int .i64 1))⟩,
    ⟨(some 5), none, false, .mv (.s 26)⟩])
def p_quartolaw14_ChunkOwnk_20 : PC :=
  (.seq (.seq p_quartolaw14_ChunkOwnk_4
  (.ite (.s 24)
    .skip
    (.exit 0)))
  (.seq (.block 1
    (.seq p_quartolaw14_ChunkOwnk_5
    (.seq p_quartolaw14_ChunkOwnk_6
    (.seq (.seq p_quartolaw14_ChunkOwnk_7
    (.ite (.s 48)
      (.seq p_quartolaw14_ChunkOwnk_8
      .ret)
      .skip))
    (.seq (.seq p_quartolaw14_ChunkOwnk_9
    (.block 2
      (.loop p_quartolaw14_ChunkOwnk_13)))
    (.seq p_quartolaw14_ChunkOwnk_14
    (.block 4
      (.loop p_quartolaw14_ChunkOwnk_18))))))))
  p_quartolaw14_ChunkOwnk_19))
def p_quartolaw14_ChunkOwnk_21 : PC :=
  (.reg [4] [⟨(some 67), none, false, .call .norm (.v (.func (.func F_quartolaw14_works) [] [])) []⟩,
    ⟨(some 4), none, false, .mv (.s 67)⟩])
def p_quartolaw14_ChunkOwnk : PF := ⟨false,
  (.seq p_quartolaw14_ChunkOwnk_0
  (.seq (.seq p_quartolaw14_ChunkOwnk_1
  (.ite (.s 21)
    (.seq p_quartolaw14_ChunkOwnk_2
    .ret)
    .skip))
  (.seq (.seq p_quartolaw14_ChunkOwnk_3
  (.block 0
    (.loop p_quartolaw14_ChunkOwnk_20)))
  (.seq p_quartolaw14_ChunkOwnk_21
  .ret)))),
  [.s 4]⟩
theorem c_quartolaw14_ChunkOwnk : compF Go.Proofs.Try.prog false h_quartolaw14_ChunkOwnk Go.Proofs.Try.f9 = some p_quartolaw14_ChunkOwnk := by kernel_rfl
/-- quarto/chunk.Even -/
def h_chunk_Evenk : List Hint := [⟨[0, 1], [], [], [], [], []⟩, ⟨[0, 1, 11], [], [], [], [], []⟩, ⟨[4, 5], [], [], [], [], []⟩, ⟨[0, 1, 13], [], [], [], [], []⟩, ⟨[4, 5], [], [], [], [], []⟩, ⟨[4, 5], [], [], [], [], []⟩]
def p_chunk_Evenk_0 : PC :=
  (.reg [0, 1] [⟨(some 4), none, false, .mv (.v .nils)⟩,
    ⟨(some 5), none, false, .mv (.v (.int .i64 0))⟩])
def p_chunk_Evenk_1 : PC :=
  (.reg [0, 1, 11] [⟨(some 6), none, false, .mv (.s 0)⟩,
    ⟨(some 7), none, false, .bin .lss (.s 6) (.v (.int .i64 0))⟩,
    ⟨(some 8), none, false, .mv (.s 7)⟩,
    ⟨(some 9), (some (8, false)), false, .mv (.s 1)⟩,
    ⟨(some 10), (some (8, false)), false, .bin .lss (.s 9) (.v (.int .i64 1))⟩,
    ⟨(some 11), none, false, .pick (.s 8) (.v (.bool true)) (.s 10)⟩])
def p_chunk_Evenk_2 : PC :=
  (.reg [4, 5] [⟨(some 4), none, false, .mv (.v .nils)⟩,
    ⟨(some 5), none, false, .mv (.v (.int .i64 2))⟩])
def p_chunk_Evenk_3 : PC :=
  (.reg [0, 1, 13] [⟨(some 12), none, false, .mv (.s 0)⟩,
    ⟨(some 13), none, false, .bin .gtr (.s 12) (.v (.int .i64 65536))⟩])
def p_chunk_Evenk_4 : PC :=
  (.reg [4, 5] [⟨(some 4), none, false, .mv (.v .nils)⟩,
    ⟨(some 5), none, false, .mv (.v (.int .i64 5))⟩])
def p_chunk_Evenk_5 : PC :=
  (.reg [4, 5] [⟨(some 14), none, false, .mv (.s 0)⟩,
    ⟨(some 15), none, false, .mv (.s 1)⟩,
    ⟨(some 16), none, false, .call .norm (.v (.func (.func F_chunk_sizes) [] [])) [(.s 14), (.s 15)]⟩,
    ⟨(some 4), none, false, .mv (.s 16)⟩,
    ⟨(some 5), none, false, .mv (.v (.int .i64 0))⟩])
def p_chunk_Evenk : PF := ⟨true,
  (.seq p_chunk_Evenk_0
  (.seq (.seq p_chunk_Evenk_1
  (.ite (.s 11)
    (.seq p_chunk_Evenk_2
    .ret)
    .skip))
  (.seq (.seq p_chunk_Evenk_3
  (.ite (.s 13)
    (.seq p_chunk_Evenk_4
    .ret)
    .skip))
  (.seq p_chunk_Evenk_5
  .ret)))),
  [.s 4, .s 5]⟩
theorem c_chunk_Evenk : compF Go.Proofs.Try.prog true h_chunk_Evenk Go.Proofs.Try.f11 = some p_chunk_Evenk := by kernel_rfl
/-- quarto/chunk.Chunks -/
def h_chunk_Chunksk : List Hint := [⟨[0], [], [], [], [], []⟩, ⟨[0, 3], [0], [], [], [], []⟩, ⟨[0, 3, 8, 9, 10], [], [(2, .inner)], [], [], []⟩, ⟨[0, 3, 8, 9, 10, 11], [], [], [], [], []⟩, ⟨[0, 3, 5, 8, 9, 10], [], [], [], [], []⟩, ⟨[0, 3, 5, 8, 9, 10], [], [], [], [], []⟩, ⟨[0, 3, 8, 9, 10], [], [], [], [], []⟩, ⟨[0, 3, 8, 9, 10], [], [], [], [], []⟩, ⟨[2], [], [], [], [], []⟩]
def p_chunk_Chunksk_0 : PC :=
  (.reg [0] [⟨(some 2), none, false, .mv (.v .nils)⟩])
def p_chunk_Chunksk_1 : PC :=
  (.reg [0, 3] [⟨(some 3), none, false, .onil 1⟩])
def p_chunk_Chunksk_2 : PC :=
  (.reg [0, 3, 8, 9, 10] [⟨(some 6), none, false, .mv (.s 0)⟩,
    ⟨(some 7), none, false, .len 0 (.s 6)⟩,
    ⟨(some 8), none, false, .call .inner (.v (.func (.func F_chunk_sizes) [] [])) [(.s 7), (.v (.int .i64 16))]⟩,
    ⟨(some 9), none, false, .len 1 (.s 8)⟩,
    ⟨(some 10), none, false, .mv (.v (.int .i64 0))⟩])
def p_chunk_Chunksk_3 : PC :=
  (.reg [0, 3, 8, 9, 10, 11] [⟨(some 11), none, false, .bin .lss (.s 10) (.s 9)⟩])
def p_chunk_Chunksk_4 : PC :=
  (.reg [0, 3, 5, 8, 9, 10] [⟨(some 12), none, false, .ixS 1 (.s 8) (.s 10)⟩,
    ⟨(some 13), none, false, .ld false 1 (.s 12)⟩,
    ⟨(some 5), none, false, .mv (.s 13)⟩])
def p_chunk_Chunksk_5 : PC :=
  (.reg [0, 3, 5, 8, 9, 10] [⟨(some 14), none, false, .mv (.s 3)⟩,
    ⟨(some 15), none, false, .mv (.s 0)⟩,
    ⟨(some 16), none, false, .mv (.s 5)⟩,
    ⟨(some 17), none, false, .slcS (.s 15) none (some (.s 16))⟩,
    ⟨(some 18), none, false, .bslice false 1 [(.str [])] [(0, (.s 17))]⟩,
    ⟨(some 19), none, false, .app 1 16 (.s 14) (.s 18)⟩,
    ⟨(some 3), none, false, .mv (.s 19)⟩])
def p_chunk_Chunksk_6 : PC :=
  (.reg [0, 3, 8, 9, 10] [⟨(some 20), none, false, .mv (.s 0)⟩,
    ⟨(some 21), none, false, .mv (.s 5)⟩,
    ⟨(some 22), none, false, .slcS (.s 20) (some (.s 21)) none⟩,
    ⟨(some 0), none, false, .mv (.s 22)⟩])
def p_chunk_Chunksk_7 : PC :=
  (.reg [0, 3, 8, 9, 10] [⟨(some 23), none, false, .bin .add (.s 10) (.v (.int .i64 1))⟩,
    ⟨(some 10), none, false, .mv (.s 23)⟩])
def p_chunk_Chunksk_8 : PC :=
  (.seq p_chunk_Chunksk_3
  (.seq (.ite (.s 11)
    .skip
    (.exit 0))
  (.seq (.block 1
    (.seq p_chunk_Chunksk_4
    (.seq p_chunk_Chunksk_5
    p_chunk_Chunksk_6)))
  p_chunk_Chunksk_7)))
def p_chunk_Chunksk_9 : PC :=
  (.reg [2] [⟨(some 24), none, false, .mv (.s 3)⟩,
    ⟨(some 2), none, false, .mv (.s 24)⟩])
def p_chunk_Chunksk : PF := ⟨true,
  (.seq p_chunk_Chunksk_0
  (.seq p_chunk_Chunksk_1
  (.seq (.seq p_chunk_Chunksk_2
  (.block 0
    (.loop p_chunk_Chunksk_8)))
  (.seq p_chunk_Chunksk_9
  .ret)))),
  [.s 2]⟩
theorem c_chunk_Chunksk : compF Go.Proofs.Try.prog true h_chunk_Chunksk Go.Proofs.Try.f16 = some p_chunk_Chunksk := by kernel_rfl
/-- quarto/chunk.sizes -/
def h_chunk_sizesk : List Hint := [⟨[1, 2], [], [], [], [], []⟩, ⟨[1, 2, 10], [], [], [], [], []⟩, ⟨[4], [], [], [], [], []⟩, ⟨[1, 2, 5], [], [], [], [], []⟩, ⟨[2, 5, 17], [], [], [], [], []⟩, ⟨[2, 5], [], [], [], [], []⟩, ⟨[5, 6], [], [], [], [], []⟩, ⟨[5, 6, 7], [], [], [], [], []⟩, ⟨[6, 7, 23, 24], [], [], [], [], []⟩, ⟨[6, 7, 23, 24, 25], [], [], [], [], []⟩, ⟨[6, 7, 8, 23, 24], [], [], [], [], []⟩, ⟨[6, 7, 23, 24], [], [], [], [], []⟩, ⟨[6, 7, 23, 24], [], [], [], [], []⟩, ⟨[4], [], [], [], [], []⟩]
def p_chunk_sizesk_0 : PC :=
  (.reg [1, 2] [⟨(some 2), none, false, .box (.s 0)⟩,
    ⟨(some 4), none, false, .mv (.v .nils)⟩])
def p_chunk_sizesk_1 : PC :=
  (.reg [1, 2, 10] [⟨(some 9), none, false, .ld false 1 (.s 2)⟩,
    ⟨(some 10), none, false, .bin .eql (.s 9) (.v (.int .i64 0))⟩])
def p_chunk_sizesk_2 : PC :=
  (.reg [4] [⟨(some 4), none, false, .mv (.v .nils)⟩])
def p_chunk_sizesk_3 : PC :=
  (.reg [1, 2, 5] [⟨(some 11), none, false, .ld false 1 (.s 2)⟩,
    ⟨(some 12), none, false, .mv (.s 1)⟩,
    ⟨(some 13), none, false, .bin .quo (.s 11) (.s 12)⟩,
    ⟨(some 5), none, false, .box (.v (.int .i64 0))⟩,
    ⟨none, none, false, .st 1 (.s 5) (.s 13)⟩])
def p_chunk_sizesk_4 : PC :=
  (.reg [2, 5, 17] [⟨(some 14), none, false, .ld false 1 (.s 2)⟩,
    ⟨(some 15), none, false, .mv (.s 1)⟩,
    ⟨(some 16), none, false, .bin .rem (.s 14) (.s 15)⟩,
    ⟨(some 17), none, false, .bin .gtr (.s 16) (.v (.int .i64 0))⟩])
def p_chunk_sizesk_5 : PC :=
  (.reg [2, 5] [⟨(some 18), none, false, .ld false 1 (.s 5)⟩,
    ⟨(some 19), none, false, .bin .add (.s 18) (.v (.int .i64 1))⟩,
    ⟨none, none, false, .st 1 (.s 5) (.s 19)⟩])
def p_chunk_sizesk_6 : PC :=
  (.reg [5, 6] [⟨(some 20), none, false, .mkf (.func F_chunk_sizesC1) [] [(.s 2), (.s 5)]⟩,
    ⟨(some 6), none, false, .mv (.s 20)⟩])
def p_chunk_sizesk_7 : PC :=
  (.reg [5, 6, 7] [⟨(some 21), none, false, .ld false 1 (.s 5)⟩,
    ⟨(some 22), none, false, .mkslice 1 8 (.int .i64 0) (.s 21) (.s 21)⟩,
    ⟨(some 7), none, false, .mv (.s 22)⟩])
def p_chunk_sizesk_8 : PC :=
  (.reg [6, 7, 23, 24] [⟨(some 23), none, false, .ld false 1 (.s 5)⟩,
    ⟨(some 24), none, false, .mv (.v (.int .i64 0))⟩])
def p_chunk_sizesk_9 : PC :=
  (.reg [6, 7, 23, 24, 25] [⟨(some 25), none, false, .bin .lss (.s 24) (.s 23)⟩])
def p_chunk_sizesk_10 : PC :=
  (.reg [6, 7, 8, 23, 24] [⟨(some 26), none, false, .mv (.s 24)⟩,
    ⟨(some 8), none, false, .mv (.s 26)⟩])
def p_chunk_sizesk_11 : PC :=
  (.reg [6, 7, 23, 24] [⟨(some 27), none, false, .mv (.s 7)⟩,
    ⟨(some 28), none, false, .mv (.s 8)⟩,
    ⟨(some 29), none, false, .mv (.s 6)⟩,
    ⟨(some 30), none, false, .mv (.s 8)⟩,
    ⟨(some 31), none, false, .call .norm (.s 29) [(.s 30)]⟩,
    ⟨(some 32), none, false, .ixS 1 (.s 27) (.s 28)⟩,
    ⟨none, none, false, .st 1 (.s 32) (.s 31)⟩])
def p_chunk_sizesk_12 : PC :=
  (.reg [6, 7, 23, 24] [⟨(some 33), none, false, .bin .add (.s 24) (.v (.int .i64 1))⟩,
    ⟨(some 24), none, false, .mv (.s 33)⟩])
def p_chunk_sizesk_13 : PC :=
  (.seq p_chunk_sizesk_9
  (.seq (.ite (.s 25)
    .skip
    (.exit 0))
  (.seq (.block 1
    (.seq p_chunk_sizesk_10
    p_chunk_sizesk_11))
  p_chunk_sizesk_12)))
def p_chunk_sizesk_14 : PC :=
  (.reg [4] [⟨(some 34), none, false, .mv (.s 7)⟩,
    ⟨(some 4), none, false, .mv (.s 34)⟩])
def p_chunk_sizesk : PF := ⟨true,
  (.seq p_chunk_sizesk_0
  (.seq (.seq p_chunk_sizesk_1
  (.ite (.s 10)
    (.seq p_chunk_sizesk_2
    .ret)
    .skip))
  (.seq p_chunk_sizesk_3
  (.seq (.seq p_chunk_sizesk_4
  (.ite (.s 17)
    p_chunk_sizesk_5
    .skip))
  (.seq p_chunk_sizesk_6
  (.seq p_chunk_sizesk_7
  (.seq (.seq p_chunk_sizesk_8
  (.block 0
    (.loop p_chunk_sizesk_13)))
  (.seq p_chunk_sizesk_14
  .ret)))))))),
  [.s 4]⟩
theorem c_chunk_sizesk : compF Go.Proofs.Try.prog true h_chunk_sizesk Go.Proofs.Try.f24 = some p_chunk_sizesk := by kernel_rfl
/-- quarto/chunk.sizes$1 -/
def h_chunk_sizesC1k : List Hint := [⟨[0, 1, 2], [], [], [], [], []⟩, ⟨[1, 2, 9], [], [], [], [], []⟩, ⟨[4], [], [], [], [], []⟩, ⟨[4], [], [], [], [], []⟩]
def p_chunk_sizesC1k_0 : PC :=
  (.reg [0, 1, 2] [⟨(some 4), none, false, .mv (.v (.int .i64 0))⟩])
def p_chunk_sizesC1k_1 : PC :=
  (.reg [1, 2, 9] [⟨(some 5), none, false, .mv (.s 0)⟩,
    ⟨(some 6), none, false, .ld false 1 (.s 1)⟩,
    ⟨(some 7), none, false, .ld false 1 (.s 2)⟩,
    ⟨(some 8), none, false, .bin .rem (.s 6) (.s 7)⟩,
    ⟨(some 9), none, false, .bin .lss (.s 5) (.s 8)⟩])
def p_chunk_sizesC1k_2 : PC :=
  (.reg [4] [⟨(some 10), none, false, .ld false 1 (.s 1)⟩,
    ⟨(some 11), none, false, .ld false 1 (.s 2)⟩,
    ⟨(some 12), none, false, .bin .quo (.s 10) (.s 11)⟩,
    ⟨(some 13), none, false, .bin .add (.s 12) (.v (.int .i64 1))⟩,
    ⟨(some 4), none, false, .mv (.s 13)⟩])
def p_chunk_sizesC1k_3 : PC :=
  (.reg [4] [⟨(some 14), none, false, .ld false 1 (.s 1)⟩,
    ⟨(some 15), none, false, .ld false 1 (.s 2)⟩,
    ⟨(some 16), none, false, .bin .quo (.s 14) (.s 15)⟩,
    ⟨(some 4), none, false, .mv (.s 16)⟩])
def p_chunk_sizesC1k : PF := ⟨false,
  (.seq p_chunk_sizesC1k_0
  (.seq (.seq p_chunk_sizesC1k_1
  (.ite (.s 9)
    (.seq p_chunk_sizesC1k_2
    .ret)
    .skip))
  (.seq p_chunk_sizesC1k_3
  .ret))),
  [.s 4]⟩
theorem c_chunk_sizesC1k : compF Go.Proofs.Try.prog false h_chunk_sizesC1k Go.Proofs.Try.f30 = some p_chunk_sizesC1k := by kernel_rfl
def tabLk : List (FuncId × Ent) := [(F_quartolaw14_ChunkOwn, .pf p_quartolaw14_ChunkOwnk), (F_chunk_Even, .pf p_chunk_Evenk), (F_chunk_Chunks, .pf p_chunk_Chunksk), (F_chunk_sizes, .pf p_chunk_sizesk), (F_chunk_sizesC1, .pf p_chunk_sizesC1k)]
def Tk : Tab := lookT tabLk
theorem tab_allk : AllOk Go.Proofs.Try.prog tabLk := ⟨⟨Go.Proofs.Try.call9, _, _, _, Go.Proofs.Try.func9, c_quartolaw14_ChunkOwnk⟩, ⟨⟨Go.Proofs.Try.call11, _, _, _, Go.Proofs.Try.func11, c_chunk_Evenk⟩, ⟨⟨Go.Proofs.Try.call16, _, _, _, Go.Proofs.Try.func16, c_chunk_Chunksk⟩, ⟨⟨Go.Proofs.Try.call24, _, _, _, Go.Proofs.Try.func24, c_chunk_sizesk⟩, ⟨⟨Go.Proofs.Try.call30, _, _, _, Go.Proofs.Try.func30, c_chunk_sizesC1k⟩, trivial⟩⟩⟩⟩⟩
theorem tab_okk : TabOk Go.Proofs.Try.prog Tk := tabOk_of tab_allk
end Go.Q14
