/- Resolved code of this seat's functions, printed by program. No condition. -/
import Derived.Test.YtmkjnglbfgajbaaQP9
import Derived.Test.YtmkjnglbfgajbaaProg
import Derived.KernelRfl
namespace Go.Q14
open Go Go.QAbs
set_option maxRecDepth 100000
abbrev F_main_main : FuncId := 0
abbrev F_gosem_cut : FuncId := 1
abbrev F_gosem_cut_init : FuncId := 2
abbrev F_quartolaw14_ChunkEvens : FuncId := 3
abbrev F_quartolaw14_ChunkSizes : FuncId := 4
abbrev F_quartolaw14_ChunkCuts : FuncId := 5
abbrev F_quartolaw14_ChunkBack : FuncId := 6
abbrev F_quartolaw14_ChunkNames : FuncId := 7
abbrev F_quartolaw14_ChunkParts : FuncId := 8
abbrev F_quartolaw14_ChunkOwn : FuncId := 9
abbrev F_quartolaw14_ChunkJoins : FuncId := 10
abbrev F_chunk_Even : FuncId := 11
abbrev F_quartoref14_Even : FuncId := 12
abbrev F_quartoref14_Ints : FuncId := 13
abbrev F_quartolaw14_works : FuncId := 14
abbrev F_quartoref14_Texts : FuncId := 15
abbrev F_chunk_Chunks : FuncId := 16
abbrev F_quartoref14_Chunks : FuncId := 17
abbrev F_chunk_Join : FuncId := 18
abbrev F_quartoref14_Join : FuncId := 19
abbrev F_chunk_Cut : FuncId := 20
abbrev F_quartoref14_Cut : FuncId := 21
abbrev F_strings_Join : FuncId := 22
abbrev F_quartoref14_Sizes : FuncId := 23
abbrev F_chunk_sizes : FuncId := 24
abbrev F_chunk_leaf : FuncId := 25
abbrev F_quartoref14_Leaf : FuncId := 26
abbrev F_strings_Builder_Grow : FuncId := 27
abbrev F_strings_Builder_WriteString : FuncId := 28
abbrev F_strings_Builder_String : FuncId := 29
abbrev F_chunk_sizesC1 : FuncId := 30
abbrev F_strings_Builder_copyCheck : FuncId := 31
abbrev F_strings_Builder_grow : FuncId := 32
abbrev F_internal_abi_NoEscape : FuncId := 33
abbrev F_internal_bytealg_MakeNoZero : FuncId := 34
abbrev F_runtime_boundsError_Error : FuncId := 35
abbrev F_runtime_boundsError_RuntimeError : FuncId := 36
abbrev F_runtime_errorString_Error : FuncId := 37
abbrev F_runtime_errorString_RuntimeError : FuncId := 38
abbrev F_runtime_plainError_Error : FuncId := 39
abbrev F_runtime_plainError_RuntimeError : FuncId := 40
abbrev F_runtime_errorAddressString_Error : FuncId := 41
abbrev F_runtime_errorAddressString_RuntimeError : FuncId := 42
abbrev F_runtime_TypeAssertionError_Error : FuncId := 43
abbrev F_runtime_TypeAssertionError_RuntimeError : FuncId := 44
abbrev F_runtime_PanicNilError_Error : FuncId := 45
abbrev F_runtime_PanicNilError_RuntimeError : FuncId := 46
abbrev F_internal_abi_Type_Align : FuncId := 47
abbrev F_internal_runtime_maps_unhashableTypeError_Error : FuncId := 48
abbrev F_internal_runtime_maps_unhashableTypeError_RuntimeError : FuncId := 49
abbrev F_strings_Builder_Reset : FuncId := 50
abbrev F_internal_abi_Kind_String : FuncId := 51
/-- gosem.cut.init -/
def h_gosem_cut_init : List Hint := [⟨[], [], [], [], [], []⟩]
def p_gosem_cut_init_0 : PC :=
  (.reg [] [⟨(some 0), none, false, .call .norm (.v (.func (.func F_gosem_cut) [] [])) []⟩])
def p_gosem_cut_init : PF := ⟨false,
  p_gosem_cut_init_0,
  []⟩
theorem c_gosem_cut_init : compF Go.Proofs.Try.prog false h_gosem_cut_init Go.Proofs.Try.f2 = some p_gosem_cut_init := by kernel_rfl
/-- quarto/quartolaw14.ChunkEvens -/
def h_quartolaw14_ChunkEvens : List Hint := [⟨[0, 1], [], [], [], [], []⟩, ⟨[0, 1, 5, 6], [], [], [], [], []⟩, ⟨[5, 6, 7, 8], [], [], [], [], []⟩, ⟨[4], [], [], [], [], []⟩]
def p_quartolaw14_ChunkEvens_0 : PC :=
  (.reg [0, 1] [⟨(some 4), none, false, .mv (.v (.bool false))⟩])
def p_quartolaw14_ChunkEvens_1 : PC :=
  (.reg [0, 1, 5, 6] [⟨(some 10), none, false, .mv (.s 0)⟩,
    ⟨(some 11), none, false, .mv (.s 1)⟩,
    ⟨(some 12), none, false, .call .norm (.v (.func (.func F_chunk_Even) [] [])) [(.s 10), (.s 11)]⟩,
    ⟨(some 9), none, false, .mv (.s 12)⟩,
    ⟨(some 13), none, false, .ext (.s 9) 0⟩,
    ⟨(some 14), none, false, .ext (.s 9) 1⟩,
    ⟨(some 5), none, false, .mv (.s 13)⟩,
    ⟨(some 6), none, false, .mv (.s 14)⟩])
def p_quartolaw14_ChunkEvens_2 : PC :=
  (.reg [5, 6, 7, 8] [⟨(some 16), none, false, .mv (.s 0)⟩,
    ⟨(some 17), none, false, .mv (.s 1)⟩,
    ⟨(some 18), none, false, .call .norm (.v (.func (.func F_quartoref14_Even) [] [])) [(.s 16), (.s 17)]⟩,
    ⟨(some 15), none, false, .mv (.s 18)⟩,
    ⟨(some 19), none, false, .ext (.s 15) 0⟩,
    ⟨(some 20), none, false, .ext (.s 15) 1⟩,
    ⟨(some 7), none, false, .mv (.s 19)⟩,
    ⟨(some 8), none, false, .mv (.s 20)⟩])
def p_quartolaw14_ChunkEvens_3 : PC :=
  (.reg [4] [⟨(some 21), none, false, .mv (.s 6)⟩,
    ⟨(some 22), none, false, .mv (.s 8)⟩,
    ⟨(some 23), none, false, .bin .eql (.s 21) (.s 22)⟩,
    ⟨(some 24), none, false, .mv (.s 23)⟩,
    ⟨(some 25), (some (24, true)), false, .mv (.s 5)⟩,
    ⟨(some 26), (some (24, true)), false, .mv (.s 7)⟩,
    ⟨(some 27), (some (24, true)), false, .call .norm (.v (.func (.func F_quartoref14_Ints) [] [])) [(.s 25), (.s 26)]⟩,
    ⟨(some 28), none, false, .pick (.s 24) (.s 27) (.v (.bool false))⟩,
    ⟨(some 29), none, false, .mv (.s 28)⟩,
    ⟨(some 30), (some (29, true)), false, .call .norm (.v (.func (.func F_quartolaw14_works) [] [])) []⟩,
    ⟨(some 31), none, false, .pick (.s 29) (.s 30) (.v (.bool false))⟩,
    ⟨(some 4), none, false, .mv (.s 31)⟩])
def p_quartolaw14_ChunkEvens : PF := ⟨false,
  (.seq p_quartolaw14_ChunkEvens_0
  (.seq p_quartolaw14_ChunkEvens_1
  (.seq p_quartolaw14_ChunkEvens_2
  (.seq p_quartolaw14_ChunkEvens_3
  .ret)))),
  [.s 4]⟩
theorem c_quartolaw14_ChunkEvens : compF Go.Proofs.Try.prog false h_quartolaw14_ChunkEvens Go.Proofs.Try.f3 = some p_quartolaw14_ChunkEvens := by kernel_rfl
/-- quarto/quartolaw14.ChunkSizes -/
def h_quartolaw14_ChunkSizes : List Hint := [⟨[0, 1], [], [], [], [], []⟩, ⟨[0, 1, 5, 6], [], [], [], [], []⟩, ⟨[0, 1, 5, 6, 24], [], [], [], [], []⟩, ⟨[4], [], [], [], [], []⟩, ⟨[0, 1, 5, 44], [], [], [], [], []⟩, ⟨[4], [], [], [], [], []⟩, ⟨[0, 1, 5, 7], [], [], [], [], []⟩, ⟨[0, 1, 5, 7, 8], [], [], [], [], []⟩, ⟨[0, 1, 5, 7, 8, 48], [], [], [], [], []⟩, ⟨[0, 1, 5, 7, 8, 114], [], [], [], [], []⟩, ⟨[4], [], [], [], [], []⟩, ⟨[0, 1, 5, 7, 8], [], [], [], [], []⟩, ⟨[0, 1, 5, 7, 8], [], [], [], [], []⟩, ⟨[4], [], [], [], [], []⟩]
def p_quartolaw14_ChunkSizes_0 : PC :=
  (.reg [0, 1] [⟨(some 4), none, false, .mv (.v (.bool false))⟩])
def p_quartolaw14_ChunkSizes_1 : PC :=
  (.reg [0, 1, 5, 6] [⟨(some 10), none, false, .mv (.s 0)⟩,
    ⟨(some 11), none, false, .mv (.s 1)⟩,
    ⟨(some 12), none, false, .call .norm (.v (.func (.func F_chunk_Even) [] [])) [(.s 10), (.s 11)]⟩,
    ⟨(some 9), none, false, .mv (.s 12)⟩,
    ⟨(some 13), none, false, .ext (.s 9) 0⟩,
    ⟨(some 14), none, false, .ext (.s 9) 1⟩,
    ⟨(some 5), none, false, .mv (.s 13)⟩,
    ⟨(some 6), none, false, .mv (.s 14)⟩])
def p_quartolaw14_ChunkSizes_2 : PC :=
  (.reg [0, 1, 5, 6, 24] [⟨(some 15), none, false, .mv (.s 0)⟩,
    ⟨(some 16), none, false, .bin .lss (.s 15) (.v (.int .i64 0))⟩,
    ⟨(some 17), none, false, .mv (.s 16)⟩,
    ⟨(some 18), (some (17, false)), false, .mv (.s 1)⟩,
    ⟨(some 19), (some (17, false)), false, .bin .lss (.s 18) (.v (.int .i64 1))⟩,
    ⟨(some 20), none, false, .pick (.s 17) (.v (.bool true)) (.s 19)⟩,
    ⟨(some 21), none, false, .mv (.s 20)⟩,
    ⟨(some 22), (some (21, false)), false, .mv (.s 0)⟩,
    ⟨(some 23), (some (21, false)), false, .bin .gtr (.s 22) (.v (.int .i64 65536))⟩,
    ⟨(some 24), none, false, .pick (.s 21) (.v (.bool true)) (.s 23)⟩])
def p_quartolaw14_ChunkSizes_3 : PC :=
  (.reg [4] [⟨(some 25), none, false, .call .norm (.v (.func (.func F_quartolaw14_works) [] [])) []⟩,
    ⟨(some 26), none, false, .mv (.s 25)⟩,
    ⟨(some 27), (some (26, true)), false, .mv (.s 6)⟩,
    ⟨(some 28), (some (26, true)), false, .bin .neq (.s 27) (.v (.int .i64 0))⟩,
    ⟨(some 29), none, false, .pick (.s 26) (.s 28) (.v (.bool false))⟩,
    ⟨(some 30), none, false, .mv (.s 29)⟩,
    ⟨(some 31), (some (30, true)), false, .mv (.s 5)⟩,
    ⟨(some 32), (some (30, true)), false, .len 1 (.s 31)⟩,
    ⟨(some 33), (some (30, true)), false, .bin .eql (.s 32) (.v (.int .i64 0))⟩,
    ⟨(some 34), none, false, .pick (.s 30) (.s 33) (.v (.bool false))⟩,
    ⟨(some 4), none, false, .mv (.s 34)⟩])
def p_quartolaw14_ChunkSizes_4 : PC :=
  (.reg [0, 1, 5, 44] [⟨(some 35), none, false, .mv (.s 6)⟩,
    ⟨(some 36), none, false, .bin .neq (.s 35) (.v (.int .i64 0))⟩,
    ⟨(some 37), none, false, .mv (.s 36)⟩,
    ⟨(some 38), (some (37, false)), false, .mv (.s 5)⟩,
    ⟨(some 39), (some (37, false)), false, .len 1 (.s 38)⟩,
    ⟨(some 40), (some (37, false)), false, .bin .eql (.s 39) (.v (.int .i64 0))⟩,
    ⟨(some 41), (some (37, false)), false, .mv (.s 0)⟩,
    ⟨(some 42), (some (37, false)), false, .bin .eql (.s 41) (.v (.int .i64 0))⟩,
    ⟨(some 43), (some (37, false)), false, .eqs true 6 [] (.s 40) (.s 42)⟩,
    ⟨(some 44), none, false, .pick (.s 37) (.v (.bool true)) (.s 43)⟩])
def p_quartolaw14_ChunkSizes_5 : PC :=
  (.reg [4] [⟨(some 4), none, false, .mv (.v (.bool false))⟩])
def p_quartolaw14_ChunkSizes_6 : PC :=
  (.reg [0, 1, 5, 7] [⟨(some 7), none, false, .mv (.v (.int .i64 0))⟩])
def p_quartolaw14_ChunkSizes_7 : PC :=
  (.reg [0, 1, 5, 7, 8] [⟨(some 8), none, false, .mv (.v (.int .i64 0))⟩])
def p_quartolaw14_ChunkSizes_8 : PC :=
  (.reg [0, 1, 5, 7, 8, 48] [⟨(some 45), none, false, .mv (.s 8)⟩,
    ⟨(some 46), none, false, .mv (.s 5)⟩,
    ⟨(some 47), none, false, .len 1 (.s 46)⟩,
    ⟨(some 48), none, false, .bin .lss (.s 45) (.s 47)⟩])
def p_quartolaw14_ChunkSizes_9 : PC :=
  (.reg [0, 1, 5, 7, 8, 114] [⟨(some 51), none, false, .mv (.s 5)⟩,
    ⟨(some 52), none, false, .mv (.s 8)⟩,
    ⟨(some 53), none, false, .ixS 1 (.s 51) (.s 52)⟩,
    ⟨(some 54), none, false, .ld false 1 (.s 53)⟩,
    ⟨(some 55), none, false, .bin .lss (.s 54) (.v (.int .i64 1))⟩,
    ⟨(some 56), none, false, .mv (.s 55)⟩,
    ⟨(some 57), (some (56, false)), false, .mv (.s 5)⟩,
    ⟨(some 58), (some (56, false)), false, .mv (.s 8)⟩,
    ⟨(some 59), (some (56, false)), false, .ixS 1 (.s 57) (.s 58)⟩,
    ⟨(some 60), (some (56, false)), false, .ld false 1 (.s 59)⟩,
    ⟨(some 61), (some (56, false)), false, .mv (.s 1)⟩,
    ⟨(some 62), (some (56, false)), false, .bin .gtr (.s 60) (.s 61)⟩,
    ⟨(some 63), none, false, .pick (.s 56) (.v (.bool true)) (.s 62)⟩,
    ⟨(some 64), none, false, .mv (.s 63)⟩,
    ⟨(some 65), (some (64, false)), false, .mv (.s 5)⟩,
    ⟨(some 66), (some (64, false)), false, .mv (.s 8)⟩,
    ⟨(some 67), (some (64, false)), false, .ixS 1 (.s 65) (.s 66)⟩,
    ⟨(some 68), (some (64, false)), false, .ld false 1 (.s 67)⟩,
    ⟨(some 69), (some (64, false)), false, .mv (.s 5)⟩,
    ⟨(some 70), (some (64, false)), false, .ixS 1 (.s 69) (.v (.int .i64 0))⟩,
    ⟨(some 71), (some (64, false)), false, .ld false 1 (.s 70)⟩,
    ⟨(some 72), (some (64, false)), false, .bin .gtr (.s 68) (.s 71)⟩,
    ⟨(some 73), none, false, .pick (.s 64) (.v (.bool true)) (.s 72)⟩,
    ⟨(some 74), none, false, .mv (.s 73)⟩,
    ⟨(some 75), (some (74, false)), false, .mv (.s 5)⟩,
    ⟨(some 76), (some (74, false)), false, .ixS 1 (.s 75) (.v (.int .i64 0))⟩,
    ⟨(some 77), (some (74, false)), false, .ld false 1 (.s 76)⟩,
    ⟨(some 78), (some (74, false)), false, .mv (.s 5)⟩,
    ⟨(some 79), (some (74, false)), false, .mv (.s 8)⟩,
    ⟨(some 80), (some (74, false)), false, .ixS 1 (.s 78) (.s 79)⟩,
    ⟨(some 81), (some (74, false)), false, .ld false 1 (.s 80)⟩,
    ⟨(some 82), (some (74, false)), false, .bin .sub (.s 77) (.s 81)⟩,
    ⟨(some 83), (some (74, false)), false, .bin .gtr (.s 82) (.v (.int .i64 1))⟩,
    ⟨(some 84), none, false, .pick (.s 74) (.v (.bool true)) (.s 83)⟩,
    ⟨(some 85), none, false, .mv (.s 84)⟩,
    ⟨(some 86), (some (85, false)), false, .mv (.s 8)⟩,
    ⟨(some 87), (some (85, false)), false, .bin .gtr (.s 86) (.v (.int .i64 0))⟩,
    ⟨(some 88), (some (85, false)), false, .mv (.s 87)⟩,
    ⟨(some 89), (some (88, true)), false, .mv (.s 5)⟩,
    ⟨(some 90), (some (88, true)), false, .mv (.s 8)⟩,
    ⟨(some 91), (some (88, true)), false, .ixS 1 (.s 89) (.s 90)⟩,
    ⟨(some 92), (some (88, true)), false, .ld false 1 (.s 91)⟩,
    ⟨(some 93), (some (88, true)), false, .mv (.s 5)⟩,
    ⟨(some 94), (some (88, true)), false, .mv (.s 8)⟩,
    ⟨(some 95), (some (88, true)), false, .bin .sub (.s 94) (.v (.int .i64 1))⟩,
    ⟨(some 96), (some (88, true)), false, .ixS 1 (.s 93) (.s 95)⟩,
    ⟨(some 97), (some (88, true)), false, .ld false 1 (.s 96)⟩,
    ⟨(some 98), (some (88, true)), false, .bin .gtr (.s 92) (.s 97)⟩,
    ⟨(some 99), (some (85, false)), false, .pick (.s 88) (.s 98) (.v (.bool false))⟩,
    ⟨(some 100), none, false, .pick (.s 85) (.v (.bool true)) (.s 99)⟩,
    ⟨(some 101), none, false, .mv (.s 100)⟩,
    ⟨(some 102), (some (101, false)), false, .mv (.s 5)⟩,
    ⟨(some 103), (some (101, false)), false, .len 1 (.s 102)⟩,
    ⟨(some 104), (some (101, false)), false, .bin .gtr (.s 103) (.v (.int .i64 1))⟩,
    ⟨(some 105), (some (101, false)), false, .mv (.s 104)⟩,
    ⟨(some 106), (some (105, true)), false, .mv (.s 5)⟩,
    ⟨(some 107), (some (105, true)), false, .mv (.s 8)⟩,
    ⟨(some 108), (some (105, true)), false, .ixS 1 (.s 106) (.s 107)⟩,
    ⟨(some 109), (some (105, true)), false, .ld false 1 (.s 108)⟩,
    ⟨(some 110), (some (105, true)), false, .mv (.s 1)⟩,
    ⟨(some 111), (some (105, true)), false, .bin .quo (.s 110) (.v (.int .i64 2))⟩,
    ⟨(some 112), (some (105, true)), false, .bin .lss (.s 109) (.s 111)⟩,
    ⟨(some 113), (some (101, false)), false, .pick (.s 105) (.s 112) (.v (.bool false))⟩,
    ⟨(some 114), none, false, .pick (.s 101) (.v (.bool true)) (.s 113)⟩])
def p_quartolaw14_ChunkSizes_10 : PC :=
  (.reg [4] [⟨(some 4), none, false, .mv (.v (.bool false))⟩])
def p_quartolaw14_ChunkSizes_11 : PC :=
  (.reg [0, 1, 5, 7, 8] [⟨(some 115), none, false, .mv (.s 7)⟩,
    ⟨(some 116), none, false, .mv (.s 5)⟩,
    ⟨(some 117), none, false, .mv (.s 8)⟩,
    ⟨(some 118), none, false, .ixS 1 (.s 116) (.s 117)⟩,
    ⟨(some 119), none, false, .ld false 1 (.s 118)⟩,
    ⟨(some 120), none, false, .bin .add (.s 115) (.s 119)⟩,
    ⟨(some 7), none, false, .mv (.s 120)⟩])
def p_quartolaw14_ChunkSizes_12 : PC :=
  (.reg [0, 1, 5, 7, 8] [⟨(some 49), none, false, .mv (.s 8)⟩,
    ⟨(some 50), none, false, .bin .add (.s 49) (.v (.int .i64 1))⟩,
    ⟨(some 8), none, false, .mv (.s 50)⟩])
def p_quartolaw14_ChunkSizes_13 : PC :=
  (.seq (.seq p_quartolaw14_ChunkSizes_8
  (.ite (.s 48)
    .skip
    (.exit 0)))
  (.seq (.block 1
    (.seq (.seq p_quartolaw14_ChunkSizes_9
    (.ite (.s 114)
      (.seq p_quartolaw14_ChunkSizes_10
      .ret)
      .skip))
    p_quartolaw14_ChunkSizes_11))
  p_quartolaw14_ChunkSizes_12))
def p_quartolaw14_ChunkSizes_14 : PC :=
  (.reg [4] [⟨(some 121), none, false, .mv (.s 7)⟩,
    ⟨(some 122), none, false, .mv (.s 0)⟩,
    ⟨(some 123), none, false, .bin .eql (.s 121) (.s 122)⟩,
    ⟨(some 124), none, false, .mv (.s 123)⟩,
    ⟨(some 125), (some (124, true)), false, .mv (.s 5)⟩,
    ⟨(some 126), (some (124, true)), false, .len 1 (.s 125)⟩,
    ⟨(some 127), (some (124, true)), false, .bin .lss (.s 126) (.v (.int .i64 2))⟩,
    ⟨(some 128), (some (124, true)), false, .mv (.s 127)⟩,
    ⟨(some 129), (some (128, false)), false, .mv (.s 1)⟩,
    ⟨(some 130), (some (128, false)), false, .bin .leq (.s 129) (.v (.int .i64 65536))⟩,
    ⟨(some 131), (some (128, false)), false, .mv (.s 130)⟩,
    ⟨(some 132), (some (131, true)), false, .mv (.s 5)⟩,
    ⟨(some 133), (some (131, true)), false, .len 1 (.s 132)⟩,
    ⟨(some 134), (some (131, true)), false, .bin .sub (.s 133) (.v (.int .i64 1))⟩,
    ⟨(some 135), (some (131, true)), false, .mv (.s 1)⟩,
    ⟨(some 136), (some (131, true)), false, .bin .mul (.s 134) (.s 135)⟩,
    ⟨(some 137), (some (131, true)), false, .mv (.s 0)⟩,
    ⟨(some 138), (some (131, true)), false, .bin .lss (.s 136) (.s 137)⟩,
    ⟨(some 139), (some (128, false)), false, .pick (.s 131) (.s 138) (.v (.bool false))⟩,
    ⟨(some 140), (some (124, true)), false, .pick (.s 128) (.v (.bool true)) (.s 139)⟩,
    ⟨(some 141), none, false, .pick (.s 124) (.s 140) (.v (.bool false))⟩,
    ⟨(some 4), none, false, .mv (.s 141)⟩])
def p_quartolaw14_ChunkSizes : PF := ⟨false,
  (.seq p_quartolaw14_ChunkSizes_0
  (.seq p_quartolaw14_ChunkSizes_1
  (.seq (.seq p_quartolaw14_ChunkSizes_2
  (.ite (.s 24)
    (.seq p_quartolaw14_ChunkSizes_3
    .ret)
    .skip))
  (.seq (.seq p_quartolaw14_ChunkSizes_4
  (.ite (.s 44)
    (.seq p_quartolaw14_ChunkSizes_5
    .ret)
    .skip))
  (.seq p_quartolaw14_ChunkSizes_6
  (.seq (.seq p_quartolaw14_ChunkSizes_7
  (.block 0
    (.loop p_quartolaw14_ChunkSizes_13)))
  (.seq p_quartolaw14_ChunkSizes_14
  .ret))))))),
  [.s 4]⟩
theorem c_quartolaw14_ChunkSizes : compF Go.Proofs.Try.prog false h_quartolaw14_ChunkSizes Go.Proofs.Try.f4 = some p_quartolaw14_ChunkSizes := by kernel_rfl
/-- quarto/quartolaw14.ChunkCuts -/
def h_quartolaw14_ChunkCuts : List Hint := [⟨[0, 1, 2, 3], [], [], [], [], []⟩, ⟨[0, 1, 2, 3, 19], [], [], [], [], []⟩, ⟨[8], [], [], [], [], []⟩, ⟨[1, 2, 3, 26], [], [], [], [], []⟩, ⟨[8], [], [], [], [], []⟩, ⟨[1, 2, 3, 9, 10], [], [], [], [], []⟩, ⟨[1, 3, 9, 10, 11, 12], [], [], [], [], []⟩, ⟨[1, 3, 47], [], [], [], [], []⟩, ⟨[8], [], [], [], [], []⟩, ⟨[1, 3, 10, 13, 14], [], [], [], [], []⟩, ⟨[10, 12, 13, 14, 15, 16], [], [], [], [], []⟩, ⟨[8], [], [], [], [], []⟩]
def p_quartolaw14_ChunkCuts_0 : PC :=
  (.reg [0, 1, 2, 3] [⟨(some 8), none, false, .mv (.v (.bool false))⟩])
def p_quartolaw14_ChunkCuts_1 : PC :=
  (.reg [0, 1, 2, 3, 19] [⟨(some 17), none, false, .mv (.s 0)⟩,
    ⟨(some 18), none, false, .len 0 (.s 17)⟩,
    ⟨(some 19), none, false, .bin .gtr (.s 18) (.v (.int .i64 3000))⟩])
def p_quartolaw14_ChunkCuts_2 : PC :=
  (.reg [8] [⟨(some 20), none, false, .call .norm (.v (.func (.func F_quartolaw14_works) [] [])) []⟩,
    ⟨(some 8), none, false, .mv (.s 20)⟩])
def p_quartolaw14_ChunkCuts_3 : PC :=
  (.reg [1, 2, 3, 26] [⟨(some 21), none, false, .mv (.s 0)⟩,
    ⟨(some 22), none, false, .call .norm (.v (.func (.func F_chunk_Chunks) [] [])) [(.s 21)]⟩,
    ⟨(some 23), none, false, .mv (.s 0)⟩,
    ⟨(some 24), none, false, .call .norm (.v (.func (.func F_quartoref14_Chunks) [] [])) [(.s 23)]⟩,
    ⟨(some 25), none, false, .call .norm (.v (.func (.func F_quartoref14_Texts) [] [])) [(.s 22), (.s 24)]⟩,
    ⟨(some 26), none, false, .un .not (.s 25)⟩])
def p_quartolaw14_ChunkCuts_4 : PC :=
  (.reg [8] [⟨(some 8), none, false, .mv (.v (.bool false))⟩])
def p_quartolaw14_ChunkCuts_5 : PC :=
  (.reg [1, 2, 3, 9, 10] [⟨(some 28), none, false, .mv (.s 1)⟩,
    ⟨(some 29), none, false, .mv (.s 2)⟩,
    ⟨(some 30), none, false, .call .norm (.v (.func (.func F_chunk_Join) [] [])) [(.s 28), (.s 29)]⟩,
    ⟨(some 27), none, false, .mv (.s 30)⟩,
    ⟨(some 31), none, false, .ext (.s 27) 0⟩,
    ⟨(some 32), none, false, .ext (.s 27) 1⟩,
    ⟨(some 9), none, false, .mv (.s 31)⟩,
    ⟨(some 10), none, false, .mv (.s 32)⟩])
def p_quartolaw14_ChunkCuts_6 : PC :=
  (.reg [1, 3, 9, 10, 11, 12] [⟨(some 34), none, false, .mv (.s 1)⟩,
    ⟨(some 35), none, false, .mv (.s 2)⟩,
    ⟨(some 36), none, false, .call .norm (.v (.func (.func F_quartoref14_Join) [] [])) [(.s 34), (.s 35)]⟩,
    ⟨(some 33), none, false, .mv (.s 36)⟩,
    ⟨(some 37), none, false, .ext (.s 33) 0⟩,
    ⟨(some 38), none, false, .ext (.s 33) 1⟩,
    ⟨(some 11), none, false, .mv (.s 37)⟩,
    ⟨(some 12), none, false, .mv (.s 38)⟩])
def p_quartolaw14_ChunkCuts_7 : PC :=
  (.reg [1, 3, 47] [⟨(some 39), none, false, .mv (.s 10)⟩,
    ⟨(some 40), none, false, .mv (.s 12)⟩,
    ⟨(some 41), none, false, .bin .neq (.s 39) (.s 40)⟩,
    ⟨(some 42), none, false, .mv (.s 41)⟩,
    ⟨(some 43), (some (42, false)), false, .mv (.s 9)⟩,
    ⟨(some 44), (some (42, false)), false, .mv (.s 11)⟩,
    ⟨(some 45), (some (42, false)), false, .call .norm (.v (.func (.func F_quartoref14_Texts) [] [])) [(.s 43), (.s 44)]⟩,
    ⟨(some 46), (some (42, false)), false, .un .not (.s 45)⟩,
    ⟨(some 47), none, false, .pick (.s 42) (.v (.bool true)) (.s 46)⟩])
def p_quartolaw14_ChunkCuts_8 : PC :=
  (.reg [8] [⟨(some 8), none, false, .mv (.v (.bool false))⟩])
def p_quartolaw14_ChunkCuts_9 : PC :=
  (.reg [1, 3, 10, 13, 14] [⟨(some 49), none, false, .mv (.s 1)⟩,
    ⟨(some 50), none, false, .mv (.s 3)⟩,
    ⟨(some 51), none, false, .call .norm (.v (.func (.func F_chunk_Cut) [] [])) [(.s 49), (.s 50)]⟩,
    ⟨(some 48), none, false, .mv (.s 51)⟩,
    ⟨(some 52), none, false, .ext (.s 48) 0⟩,
    ⟨(some 53), none, false, .ext (.s 48) 1⟩,
    ⟨(some 54), none, false, .ext (.s 48) 2⟩,
    ⟨(some 13), none, false, .mv (.s 52)⟩,
    ⟨(some 14), none, false, .mv (.s 53)⟩,
    ⟨(some 10), none, false, .mv (.s 54)⟩])
def p_quartolaw14_ChunkCuts_10 : PC :=
  (.reg [10, 12, 13, 14, 15, 16] [⟨(some 56), none, false, .mv (.s 1)⟩,
    ⟨(some 57), none, false, .mv (.s 3)⟩,
    ⟨(some 58), none, false, .call .norm (.v (.func (.func F_quartoref14_Cut) [] [])) [(.s 56), (.s 57)]⟩,
    ⟨(some 55), none, false, .mv (.s 58)⟩,
    ⟨(some 59), none, false, .ext (.s 55) 0⟩,
    ⟨(some 60), none, false, .ext (.s 55) 1⟩,
    ⟨(some 61), none, false, .ext (.s 55) 2⟩,
    ⟨(some 15), none, false, .mv (.s 59)⟩,
    ⟨(some 16), none, false, .mv (.s 60)⟩,
    ⟨(some 12), none, false, .mv (.s 61)⟩])
def p_quartolaw14_ChunkCuts_11 : PC :=
  (.reg [8] [⟨(some 62), none, false, .mv (.s 13)⟩,
    ⟨(some 63), none, false, .mv (.s 15)⟩,
    ⟨(some 64), none, false, .bin .eql (.s 62) (.s 63)⟩,
    ⟨(some 65), none, false, .mv (.s 64)⟩,
    ⟨(some 66), (some (65, true)), false, .mv (.s 14)⟩,
    ⟨(some 67), (some (65, true)), false, .mv (.s 16)⟩,
    ⟨(some 68), (some (65, true)), false, .bin .eql (.s 66) (.s 67)⟩,
    ⟨(some 69), none, false, .pick (.s 65) (.s 68) (.v (.bool false))⟩,
    ⟨(some 70), none, false, .mv (.s 69)⟩,
    ⟨(some 71), (some (70, true)), false, .mv (.s 10)⟩,
    ⟨(some 72), (some (70, true)), false, .mv (.s 12)⟩,
    ⟨(some 73), (some (70, true)), false, .bin .eql (.s 71) (.s 72)⟩,
    ⟨(some 74), none, false, .pick (.s 70) (.s 73) (.v (.bool false))⟩,
    ⟨(some 8), none, false, .mv (.s 74)⟩])
def p_quartolaw14_ChunkCuts : PF := ⟨false,
  (.seq p_quartolaw14_ChunkCuts_0
  (.seq (.seq p_quartolaw14_ChunkCuts_1
  (.ite (.s 19)
    (.seq p_quartolaw14_ChunkCuts_2
    .ret)
    .skip))
  (.seq (.seq p_quartolaw14_ChunkCuts_3
  (.ite (.s 26)
    (.seq p_quartolaw14_ChunkCuts_4
    .ret)
    .skip))
  (.seq p_quartolaw14_ChunkCuts_5
  (.seq p_quartolaw14_ChunkCuts_6
  (.seq (.seq p_quartolaw14_ChunkCuts_7
  (.ite (.s 47)
    (.seq p_quartolaw14_ChunkCuts_8
    .ret)
    .skip))
  (.seq p_quartolaw14_ChunkCuts_9
  (.seq p_quartolaw14_ChunkCuts_10
  (.seq p_quartolaw14_ChunkCuts_11
  .ret))))))))),
  [.s 8]⟩
theorem c_quartolaw14_ChunkCuts : compF Go.Proofs.Try.prog false h_quartolaw14_ChunkCuts Go.Proofs.Try.f5 = some p_quartolaw14_ChunkCuts := by kernel_rfl
/-- quarto/quartolaw14.ChunkBack -/
def h_quartolaw14_ChunkBack : List Hint := [⟨[0, 1], [], [], [], [], []⟩, ⟨[0, 1, 5, 6, 7], [], [], [], [], []⟩, ⟨[0, 1, 5, 6, 7, 33], [], [], [], [], []⟩, ⟨[4], [], [], [], [], []⟩, ⟨[0, 5, 6, 61], [], [], [], [], []⟩, ⟨[4], [], [], [], [], []⟩, ⟨[0, 5, 6, 67], [], [], [], [], []⟩, ⟨[4], [], [], [], [], []⟩, ⟨[0, 7, 8], [], [], [], [], []⟩, ⟨[4], [], [], [], [], []⟩]
def p_quartolaw14_ChunkBack_0 : PC :=
  (.reg [0, 1] [⟨(some 4), none, false, .mv (.v (.bool false))⟩])
def p_quartolaw14_ChunkBack_1 : PC :=
  (.reg [0, 1, 5, 6, 7] [⟨(some 10), none, false, .mv (.s 0)⟩,
    ⟨(some 11), none, false, .mv (.s 1)⟩,
    ⟨(some 12), none, false, .call .norm (.v (.func (.func F_chunk_Cut) [] [])) [(.s 10), (.s 11)]⟩,
    ⟨(some 9), none, false, .mv (.s 12)⟩,
    ⟨(some 13), none, false, .ext (.s 9) 0⟩,
    ⟨(some 14), none, false, .ext (.s 9) 1⟩,
    ⟨(some 15), none, false, .ext (.s 9) 2⟩,
    ⟨(some 5), none, false, .mv (.s 13)⟩,
    ⟨(some 6), none, false, .mv (.s 14)⟩,
    ⟨(some 7), none, false, .mv (.s 15)⟩])
def p_quartolaw14_ChunkBack_2 : PC :=
  (.reg [0, 1, 5, 6, 7, 33] [⟨(some 16), none, false, .mv (.s 0)⟩,
    ⟨(some 17), none, false, .len 0 (.s 16)⟩,
    ⟨(some 18), none, false, .bin .lss (.s 17) (.v (.int .i64 1))⟩,
    ⟨(some 19), none, false, .mv (.s 18)⟩,
    ⟨(some 20), (some (19, false)), false, .mv (.s 0)⟩,
    ⟨(some 21), (some (19, false)), false, .len 0 (.s 20)⟩,
    ⟨(some 22), (some (19, false)), false, .bin .gtr (.s 21) (.v (.int .i64 16))⟩,
    ⟨(some 23), none, false, .pick (.s 19) (.v (.bool true)) (.s 22)⟩,
    ⟨(some 24), none, false, .mv (.s 23)⟩,
    ⟨(some 25), (some (24, false)), false, .mv (.s 1)⟩,
    ⟨(some 26), (some (24, false)), false, .bin .lss (.s 25) (.v (.int .i64 0))⟩,
    ⟨(some 27), none, false, .pick (.s 24) (.v (.bool true)) (.s 26)⟩,
    ⟨(some 28), none, false, .mv (.s 27)⟩,
    ⟨(some 29), (some (28, false)), false, .mv (.s 1)⟩,
    ⟨(some 30), (some (28, false)), false, .mv (.s 0)⟩,
    ⟨(some 31), (some (28, false)), false, .len 0 (.s 30)⟩,
    ⟨(some 32), (some (28, false)), false, .bin .gtr (.s 29) (.s 31)⟩,
    ⟨(some 33), none, false, .pick (.s 28) (.v (.bool true)) (.s 32)⟩])
def p_quartolaw14_ChunkBack_3 : PC :=
  (.reg [4] [⟨(some 34), none, false, .call .norm (.v (.func (.func F_quartolaw14_works) [] [])) []⟩,
    ⟨(some 35), none, false, .mv (.s 34)⟩,
    ⟨(some 36), (some (35, true)), false, .mv (.s 7)⟩,
    ⟨(some 37), (some (35, true)), false, .bin .neq (.s 36) (.v (.int .i64 0))⟩,
    ⟨(some 38), none, false, .pick (.s 35) (.s 37) (.v (.bool false))⟩,
    ⟨(some 39), none, false, .mv (.s 38)⟩,
    ⟨(some 40), (some (39, true)), false, .mv (.s 5)⟩,
    ⟨(some 41), (some (39, true)), false, .bin .eql (.s 40) (.v (.str []))⟩,
    ⟨(some 42), none, false, .pick (.s 39) (.s 41) (.v (.bool false))⟩,
    ⟨(some 43), none, false, .mv (.s 42)⟩,
    ⟨(some 44), (some (43, true)), false, .mv (.s 6)⟩,
    ⟨(some 45), (some (43, true)), false, .bin .eql (.s 44) (.v (.str []))⟩,
    ⟨(some 46), none, false, .pick (.s 43) (.s 45) (.v (.bool false))⟩,
    ⟨(some 4), none, false, .mv (.s 46)⟩])
def p_quartolaw14_ChunkBack_4 : PC :=
  (.reg [0, 5, 6, 61] [⟨(some 47), none, false, .mv (.s 7)⟩,
    ⟨(some 48), none, false, .bin .neq (.s 47) (.v (.int .i64 0))⟩,
    ⟨(some 49), none, false, .mv (.s 48)⟩,
    ⟨(some 50), (some (49, false)), false, .mv (.s 5)⟩,
    ⟨(some 51), (some (49, false)), false, .mv (.s 6)⟩,
    ⟨(some 52), (some (49, false)), false, .bin .add (.s 50) (.s 51)⟩,
    ⟨(some 53), (some (49, false)), false, .mv (.s 0)⟩,
    ⟨(some 54), (some (49, false)), false, .bin .neq (.s 52) (.s 53)⟩,
    ⟨(some 55), none, false, .pick (.s 49) (.v (.bool true)) (.s 54)⟩,
    ⟨(some 56), none, false, .mv (.s 55)⟩,
    ⟨(some 57), (some (56, false)), false, .mv (.s 5)⟩,
    ⟨(some 58), (some (56, false)), false, .len 0 (.s 57)⟩,
    ⟨(some 59), (some (56, false)), false, .mv (.s 1)⟩,
    ⟨(some 60), (some (56, false)), false, .bin .neq (.s 58) (.s 59)⟩,
    ⟨(some 61), none, false, .pick (.s 56) (.v (.bool true)) (.s 60)⟩])
def p_quartolaw14_ChunkBack_5 : PC :=
  (.reg [4] [⟨(some 4), none, false, .mv (.v (.bool false))⟩])
def p_quartolaw14_ChunkBack_6 : PC :=
  (.reg [0, 5, 6, 67] [⟨(some 62), none, false, .mv (.s 5)⟩,
    ⟨(some 63), none, false, .bin .eql (.s 62) (.v (.str []))⟩,
    ⟨(some 64), none, false, .mv (.s 63)⟩,
    ⟨(some 65), (some (64, false)), false, .mv (.s 6)⟩,
    ⟨(some 66), (some (64, false)), false, .bin .eql (.s 65) (.v (.str []))⟩,
    ⟨(some 67), none, false, .pick (.s 64) (.v (.bool true)) (.s 66)⟩])
def p_quartolaw14_ChunkBack_7 : PC :=
  (.reg [4] [⟨(some 68), none, false, .call .norm (.v (.func (.func F_quartolaw14_works) [] [])) []⟩,
    ⟨(some 4), none, false, .mv (.s 68)⟩])
def p_quartolaw14_ChunkBack_8 : PC :=
  (.reg [0, 7, 8] [⟨(some 70), none, false, .mv (.s 5)⟩,
    ⟨(some 71), none, false, .mv (.s 6)⟩,
    ⟨(some 72), none, false, .call .norm (.v (.func (.func F_chunk_Join) [] [])) [(.s 70), (.s 71)]⟩,
    ⟨(some 69), none, false, .mv (.s 72)⟩,
    ⟨(some 73), none, false, .ext (.s 69) 0⟩,
    ⟨(some 74), none, false, .ext (.s 69) 1⟩,
    ⟨(some 8), none, false, .mv (.s 73)⟩,
    ⟨(some 7), none, false, .mv (.s 74)⟩])
def p_quartolaw14_ChunkBack_9 : PC :=
  (.reg [4] [⟨(some 75), none, false, .mv (.s 7)⟩,
    ⟨(some 76), none, false, .bin .eql (.s 75) (.v (.int .i64 0))⟩,
    ⟨(some 77), none, false, .mv (.s 76)⟩,
    ⟨(some 78), (some (77, true)), false, .mv (.s 8)⟩,
    ⟨(some 79), (some (77, true)), false, .len 1 (.s 78)⟩,
    ⟨(some 80), (some (77, true)), false, .bin .eql (.s 79) (.v (.int .i64 1))⟩,
    ⟨(some 81), none, false, .pick (.s 77) (.s 80) (.v (.bool false))⟩,
    ⟨(some 82), none, false, .mv (.s 81)⟩,
    ⟨(some 83), (some (82, true)), false, .mv (.s 8)⟩,
    ⟨(some 84), (some (82, true)), false, .ixS 1 (.s 83) (.v (.int .i64 0))⟩,
    ⟨(some 85), (some (82, true)), false, .ld false 1 (.s 84)⟩,
    ⟨(some 86), (some (82, true)), false, .mv (.s 0)⟩,
    ⟨(some 87), (some (82, true)), false, .bin .eql (.s 85) (.s 86)⟩,
    ⟨(some 88), none, false, .pick (.s 82) (.s 87) (.v (.bool false))⟩,
    ⟨(some 4), none, false, .mv (.s 88)⟩])
def p_quartolaw14_ChunkBack : PF := ⟨false,
  (.seq p_quartolaw14_ChunkBack_0
  (.seq p_quartolaw14_ChunkBack_1
  (.seq (.seq p_quartolaw14_ChunkBack_2
  (.ite (.s 33)
    (.seq p_quartolaw14_ChunkBack_3
    .ret)
    .skip))
  (.seq (.seq p_quartolaw14_ChunkBack_4
  (.ite (.s 61)
    (.seq p_quartolaw14_ChunkBack_5
    .ret)
    .skip))
  (.seq (.seq p_quartolaw14_ChunkBack_6
  (.ite (.s 67)
    (.seq p_quartolaw14_ChunkBack_7
    .ret)
    .skip))
  (.seq p_quartolaw14_ChunkBack_8
  (.seq p_quartolaw14_ChunkBack_9
  .ret))))))),
  [.s 4]⟩
theorem c_quartolaw14_ChunkBack : compF Go.Proofs.Try.prog false h_quartolaw14_ChunkBack Go.Proofs.Try.f6 = some p_quartolaw14_ChunkBack := by kernel_rfl
/-- quarto/quartolaw14.ChunkNames -/
def h_quartolaw14_ChunkNames : List Hint := [⟨[], [], [], [], [], []⟩, ⟨[34], [], [], [], [], []⟩, ⟨[0], [], [], [], [], []⟩, ⟨[1], [], [], [], [], []⟩, ⟨[1, 2], [], [], [], [], []⟩, ⟨[1, 2, 55], [], [], [], [], []⟩, ⟨[1, 2, 3, 4], [], [], [], [], []⟩, ⟨[1, 2, 88], [], [], [], [], []⟩, ⟨[0], [], [], [], [], []⟩, ⟨[1, 2], [], [], [], [], []⟩, ⟨[5], [], [], [], [], []⟩, ⟨[5, 6], [], [], [], [], []⟩, ⟨[5, 6, 104], [], [], [], [], []⟩, ⟨[5, 6, 7, 8], [], [], [], [], []⟩, ⟨[5, 6, 137], [], [], [], [], []⟩, ⟨[0], [], [], [], [], []⟩, ⟨[5, 6], [], [], [], [], []⟩, ⟨[9], [], [], [], [], []⟩, ⟨[9, 10], [], [], [], [], []⟩, ⟨[9, 10, 149], [], [], [], [], []⟩, ⟨[9, 10, 11, 12, 13], [], [], [], [], []⟩, ⟨[9, 10, 191], [], [], [], [], []⟩, ⟨[0], [], [], [], [], []⟩, ⟨[9, 10], [], [], [], [], []⟩, ⟨[0], [], [], [], [], []⟩]
def p_quartolaw14_ChunkNames_0 : PC :=
  (.reg [] [⟨(some 0), none, false, .mv (.v (.bool false))⟩])
def p_quartolaw14_ChunkNames_1 : PC :=
  (.reg [34] [⟨(some 14), none, false, .call .norm (.v (.func (.func F_quartolaw14_works) [] [])) []⟩,
    ⟨(some 15), none, false, .un .not (.s 14)⟩,
    ⟨(some 16), none, false, .mv (.s 15)⟩,
    ⟨(some 17), none, false, .pick (.s 16) (.v (.bool true)) (.v (.bool false))⟩,
    ⟨(some 18), none, false, .mv (.s 17)⟩,
    ⟨(some 19), none, false, .pick (.s 18) (.v (.bool true)) (.v (.bool false))⟩,
    ⟨(some 20), none, false, .mv (.s 19)⟩,
    ⟨(some 21), none, false, .pick (.s 20) (.v (.bool true)) (.v (.bool false))⟩,
    ⟨(some 22), none, false, .mv (.s 21)⟩,
    ⟨(some 23), none, false, .pick (.s 22) (.v (.bool true)) (.v (.bool false))⟩,
    ⟨(some 24), none, false, .mv (.s 23)⟩,
    ⟨(some 25), (some (24, false)), false, .call .norm (.v (.func (.func F_chunk_Chunks) [] [])) [(.v (.str []))]⟩,
    ⟨(some 26), (some (24, false)), false, .len 1 (.s 25)⟩,
    ⟨(some 27), (some (24, false)), false, .bin .neq (.s 26) (.v (.int .i64 0))⟩,
    ⟨(some 28), none, false, .pick (.s 24) (.v (.bool true)) (.s 27)⟩,
    ⟨(some 29), none, false, .mv (.s 28)⟩,
    ⟨(some 30), (some (29, false)), false, .call .norm (.v (.func (.func F_chunk_Chunks) [] [])) [(.v (.str [97, 98, 99]))]⟩,
    ⟨(some 31), (some (29, false)), false, .bslice false 1 [(.str [])] [(0, (.v (.str [97, 98, 99])))]⟩,
    ⟨(some 32), (some (29, false)), false, .call .norm (.v (.func (.func F_quartoref14_Texts) [] [])) [(.s 30), (.s 31)]⟩,
    ⟨(some 33), (some (29, false)), false, .un .not (.s 32)⟩,
    ⟨(some 34), none, false, .pick (.s 29) (.v (.bool true)) (.s 33)⟩])
def p_quartolaw14_ChunkNames_2 : PC :=
  (.reg [0] [⟨(some 0), none, false, .mv (.v (.bool false))⟩])
def p_quartolaw14_ChunkNames_3 : PC :=
  (.reg [1] [⟨(some 35), none, false, .bslice false 1 [(.int .i64 0), (.int .i64 0)] [(0, (.v (.int .i64 9))), (1, (.v (.int .i64 8)))]⟩,
    ⟨(some 36), none, false, .build [(.int .i64 0), (.int .i64 0), (.lit []), (.int .i64 0)] [(0, 1, (.v (.int .i64 17))), (1, 1, (.v (.int .i64 16))), (2, 1, (.s 35)), (3, 1, (.v (.int .i64 0)))]⟩,
    ⟨(some 37), none, false, .bslice false 1 [(.int .i64 0), (.int .i64 0), (.int .i64 0)] [(0, (.v (.int .i64 11))), (1, (.v (.int .i64 11))), (2, (.v (.int .i64 11)))]⟩,
    ⟨(some 38), none, false, .build [(.int .i64 0), (.int .i64 0), (.lit []), (.int .i64 0)] [(0, 1, (.v (.int .i64 33))), (1, 1, (.v (.int .i64 16))), (2, 1, (.s 37)), (3, 1, (.v (.int .i64 0)))]⟩,
    ⟨(some 39), none, false, .bslice false 1 [(.int .i64 0), (.int .i64 0)] [(0, (.v (.int .i64 3))), (1, (.v (.int .i64 2)))]⟩,
    ⟨(some 40), none, false, .build [(.int .i64 0), (.int .i64 0), (.lit []), (.int .i64 0)] [(0, 1, (.v (.int .i64 5))), (1, 1, (.v (.int .i64 4))), (2, 1, (.s 39)), (3, 1, (.v (.int .i64 0)))]⟩,
    ⟨(some 41), none, false, .build [(.int .i64 0), (.int .i64 0), (.lit []), (.int .i64 0)] [(0, 1, (.v (.int .i64 0))), (1, 1, (.v (.int .i64 4))), (2, 1, (.v .nils)), (3, 1, (.v (.int .i64 0)))]⟩,
    ⟨(some 42), none, false, .build [(.int .i64 0), (.int .i64 0), (.lit []), (.int .i64 0)] [(0, 1, (.v (.int .i64 (-1)))), (1, 1, (.v (.int .i64 4))), (2, 1, (.v .nils)), (3, 1, (.v (.int .i64 2)))]⟩,
    ⟨(some 43), none, false, .build [(.int .i64 0), (.int .i64 0), (.lit []), (.int .i64 0)] [(0, 1, (.v (.int .i64 1))), (1, 1, (.v (.int .i64 0))), (2, 1, (.v .nils)), (3, 1, (.v (.int .i64 2)))]⟩,
    ⟨(some 44), none, false, .build [(.int .i64 0), (.int .i64 0), (.lit []), (.int .i64 0)] [(0, 1, (.v (.int .i64 65537))), (1, 1, (.v (.int .i64 1))), (2, 1, (.v .nils)), (3, 1, (.v (.int .i64 5)))]⟩,
    ⟨(some 45), none, false, .bslice false 1 [(.int .i64 0)] [(0, (.v (.int .i64 65536)))]⟩,
    ⟨(some 46), none, false, .build [(.int .i64 0), (.int .i64 0), (.lit []), (.int .i64 0)] [(0, 1, (.v (.int .i64 65536))), (1, 1, (.v (.int .i64 65536))), (2, 1, (.s 45)), (3, 1, (.v (.int .i64 0)))]⟩,
    ⟨(some 47), none, false, .build [(.int .i64 0), (.int .i64 0), (.lit []), (.int .i64 0)] [(0, 1, (.v (.int .i64 65537))), (1, 1, (.v (.int .i64 0))), (2, 1, (.v .nils)), (3, 1, (.v (.int .i64 2)))]⟩,
    ⟨(some 48), none, false, .bslice false 1 [(.int .i64 0)] [(0, (.v (.int .i64 1)))]⟩,
    ⟨(some 49), none, false, .build [(.int .i64 0), (.int .i64 0), (.lit []), (.int .i64 0)] [(0, 1, (.v (.int .i64 1))), (1, 1, (.v (.int .i64 9223372036854775807))), (2, 1, (.s 48)), (3, 1, (.v (.int .i64 0)))]⟩,
    ⟨(some 50), none, false, .build [(.int .i64 0), (.int .i64 0), (.lit []), (.int .i64 0)] [(0, 1, (.v (.int .i64 65537))), (1, 1, (.v (.int .i64 9223372036854775807))), (2, 1, (.v .nils)), (3, 1, (.v (.int .i64 5)))]⟩,
    ⟨(some 51), none, false, .bslice false 4 [(.agg [(.int .i64 0), (.int .i64 0), (.lit []), (.int .i64 0)]), (.agg [(.int .i64 0), (.int .i64 0), (.lit []), (.int .i64 0)]), (.agg [(.int .i64 0), (.int .i64 0), (.lit []), (.int .i64 0)]), (.agg [(.int .i64 0), (.int .i64 0), (.lit []), (.int .i64 0)]), (.agg [(.int .i64 0), (.int .i64 0), (.lit []), (.int .i64 0)]), (.agg [(.int .i64 0), (.int .i64 0), (.lit []), (.int .i64 0)]), (.agg [(.int .i64 0), (.int .i64 0), (.lit []), (.int .i64 0)]), (.agg [(.int .i64 0), (.int .i64 0), (.lit []), (.int .i64 0)]), (.agg [(.int .i64 0), (.int .i64 0), (.lit []), (.int .i64 0)]), (.agg [(.int .i64 0), (.int .i64 0), (.lit []), (.int .i64 0)]), (.agg [(.int .i64 0), (.int .i64 0), (.lit []), (.int .i64 0)])] [(0, (.s 36)), (1, (.s 38)), (2, (.s 40)), (3, (.s 41)), (4, (.s 42)), (5, (.s 43)), (6, (.s 44)), (7, (.s 46)), (8, (.s 47)), (9, (.s 49)), (10, (.s 50))]⟩,
    ⟨(some 1), none, false, .mv (.s 51)⟩])
def p_quartolaw14_ChunkNames_4 : PC :=
  (.reg [1, 2] [⟨(some 2), none, false, .mv (.v (.int .i64 0))⟩])
def p_quartolaw14_ChunkNames_5 : PC :=
  (.reg [1, 2, 55] [⟨(some 52), none, false, .mv (.s 2)⟩,
    ⟨(some 53), none, false, .mv (.s 1)⟩,
    ⟨(some 54), none, false, .len 1 (.s 53)⟩,
    ⟨(some 55), none, false, .bin .lss (.s 52) (.s 54)⟩])
def p_quartolaw14_ChunkNames_6 : PC :=
  (.reg [1, 2, 3, 4] [⟨(some 59), none, false, .mv (.s 1)⟩,
    ⟨(some 60), none, false, .mv (.s 2)⟩,
    ⟨(some 61), none, false, .ixS 4 (.s 59) (.s 60)⟩,
    ⟨(some 62), none, false, .fadr 0 (.s 61)⟩,
    ⟨(some 63), none, false, .ld false 1 (.s 62)⟩,
    ⟨(some 64), none, false, .mv (.s 1)⟩,
    ⟨(some 65), none, false, .mv (.s 2)⟩,
    ⟨(some 66), none, false, .ixS 4 (.s 64) (.s 65)⟩,
    ⟨(some 67), none, false, .fadr 1 (.s 66)⟩,
    ⟨(some 68), none, false, .ld false 1 (.s 67)⟩,
    ⟨(some 69), none, false, .call .norm (.v (.func (.func F_chunk_Even) [] [])) [(.s 63), (.s 68)]⟩,
    ⟨(some 58), none, false, .mv (.s 69)⟩,
    ⟨(some 70), none, false, .ext (.s 58) 0⟩,
    ⟨(some 71), none, false, .ext (.s 58) 1⟩,
    ⟨(some 3), none, false, .mv (.s 70)⟩,
    ⟨(some 4), none, false, .mv (.s 71)⟩])
def p_quartolaw14_ChunkNames_7 : PC :=
  (.reg [1, 2, 88] [⟨(some 72), none, false, .mv (.s 4)⟩,
    ⟨(some 73), none, false, .mv (.s 1)⟩,
    ⟨(some 74), none, false, .mv (.s 2)⟩,
    ⟨(some 75), none, false, .ixS 4 (.s 73) (.s 74)⟩,
    ⟨(some 76), none, false, .fadr 3 (.s 75)⟩,
    ⟨(some 77), none, false, .ld false 1 (.s 76)⟩,
    ⟨(some 78), none, false, .bin .neq (.s 72) (.s 77)⟩,
    ⟨(some 79), none, false, .mv (.s 78)⟩,
    ⟨(some 80), (some (79, false)), false, .mv (.s 3)⟩,
    ⟨(some 81), (some (79, false)), false, .mv (.s 1)⟩,
    ⟨(some 82), (some (79, false)), false, .mv (.s 2)⟩,
    ⟨(some 83), (some (79, false)), false, .ixS 4 (.s 81) (.s 82)⟩,
    ⟨(some 84), (some (79, false)), false, .fadr 2 (.s 83)⟩,
    ⟨(some 85), (some (79, false)), false, .ld false 1 (.s 84)⟩,
    ⟨(some 86), (some (79, false)), false, .call .norm (.v (.func (.func F_quartoref14_Ints) [] [])) [(.s 80), (.s 85)]⟩,
    ⟨(some 87), (some (79, false)), false, .un .not (.s 86)⟩,
    ⟨(some 88), none, false, .pick (.s 79) (.v (.bool true)) (.s 87)⟩])
def p_quartolaw14_ChunkNames_8 : PC :=
  (.reg [0] [⟨(some 0), none, false, .mv (.v (.bool false))⟩])
def p_quartolaw14_ChunkNames_9 : PC :=
  (.reg [1, 2] [⟨(some 56), none, false, .mv (.s 2)⟩,
    ⟨(some 57), none, false, .bin .add (.s 56) (.v (.int .i64 1))⟩,
    ⟨(some 2), none, false, .mv (.s 57)⟩])
def p_quartolaw14_ChunkNames_10 : PC :=
  (.seq (.seq p_quartolaw14_ChunkNames_5
  (.ite (.s 55)
    .skip
    (.exit 0)))
  (.seq (.block 1
    (.seq p_quartolaw14_ChunkNames_6
    (.seq p_quartolaw14_ChunkNames_7
    (.ite (.s 88)
      (.seq p_quartolaw14_ChunkNames_8
      .ret)
      .skip))))
  p_quartolaw14_ChunkNames_9))
def p_quartolaw14_ChunkNames_11 : PC :=
  (.reg [5] [⟨(some 89), none, false, .bslice false 1 [(.str [])] [(0, (.v (.str [97, 98, 99, 100, 101, 102])))]⟩,
    ⟨(some 90), none, false, .build [(.str []), (.str []), (.lit []), (.int .i64 0)] [(0, 1, (.v (.str [97, 98, 99]))), (1, 1, (.v (.str [100, 101, 102]))), (2, 1, (.s 89)), (3, 1, (.v (.int .i64 0)))]⟩,
    ⟨(some 91), none, false, .bslice false 1 [(.str []), (.str [])] [(0, (.v (.str [97, 98, 99, 100, 101, 102, 103, 104]))), (1, (.v (.str [105, 106, 107, 108, 109, 110, 111, 112, 113])))]⟩,
    ⟨(some 92), none, false, .build [(.str []), (.str []), (.lit []), (.int .i64 0)] [(0, 1, (.v (.str [97, 98, 99, 100, 101, 102, 103, 104]))), (1, 1, (.v (.str [105, 106, 107, 108, 109, 110, 111, 112, 113]))), (2, 1, (.s 91)), (3, 1, (.v (.int .i64 0)))]⟩,
    ⟨(some 93), none, false, .bslice false 1 [(.str []), (.str [])] [(0, (.v (.str [97, 98, 99, 100, 101, 102, 103, 104, 105, 106]))), (1, (.v (.str [107, 108, 109, 110, 111, 112, 113, 114, 115])))]⟩,
    ⟨(some 94), none, false, .build [(.str []), (.str []), (.lit []), (.int .i64 0)] [(0, 1, (.v (.str [97, 98, 99]))), (1, 1, (.v (.str [100, 101, 102, 103, 104, 105, 106, 107, 108, 109, 110, 111, 112, 113, 114, 115]))), (2, 1, (.s 93)), (3, 1, (.v (.int .i64 0)))]⟩,
    ⟨(some 95), none, false, .build [(.str []), (.str []), (.lit []), (.int .i64 0)] [(0, 1, (.v (.str []))), (1, 1, (.v (.str [97]))), (2, 1, (.v .nils)), (3, 1, (.v (.int .i64 2)))]⟩,
    ⟨(some 96), none, false, .build [(.str []), (.str []), (.lit []), (.int .i64 0)] [(0, 1, (.v (.str [97]))), (1, 1, (.v (.str []))), (2, 1, (.v .nils)), (3, 1, (.v (.int .i64 2)))]⟩,
    ⟨(some 97), none, false, .bslice false 1 [(.str [])] [(0, (.v (.str [97, 98, 99, 100, 101, 102, 103, 104, 105, 106, 107, 108, 109, 110, 111, 112])))]⟩,
    ⟨(some 98), none, false, .build [(.str []), (.str []), (.lit []), (.int .i64 0)] [(0, 1, (.v (.str [97, 98, 99, 100, 101, 102, 103, 104]))), (1, 1, (.v (.str [105, 106, 107, 108, 109, 110, 111, 112]))), (2, 1, (.s 97)), (3, 1, (.v (.int .i64 0)))]⟩,
    ⟨(some 99), none, false, .build [(.str []), (.str []), (.lit []), (.int .i64 0)] [(0, 1, (.v (.str [97]))), (1, 1, (.v (.str [48, 49, 50, 51, 52, 53, 54, 55, 56, 57, 97, 98, 99, 100, 101, 102, 103]))), (2, 1, (.v .nils)), (3, 1, (.v (.int .i64 2)))]⟩,
    ⟨(some 100), none, false, .bslice false 4 [(.agg [(.str []), (.str []), (.lit []), (.int .i64 0)]), (.agg [(.str []), (.str []), (.lit []), (.int .i64 0)]), (.agg [(.str []), (.str []), (.lit []), (.int .i64 0)]), (.agg [(.str []), (.str []), (.lit []), (.int .i64 0)]), (.agg [(.str []), (.str []), (.lit []), (.int .i64 0)]), (.agg [(.str []), (.str []), (.lit []), (.int .i64 0)]), (.agg [(.str []), (.str []), (.lit []), (.int .i64 0)])] [(0, (.s 90)), (1, (.s 92)), (2, (.s 94)), (3, (.s 95)), (4, (.s 96)), (5, (.s 98)), (6, (.s 99))]⟩,
    ⟨(some 5), none, false, .mv (.s 100)⟩])
def p_quartolaw14_ChunkNames_12 : PC :=
  (.reg [5, 6] [⟨(some 6), none, false, .mv (.v (.int .i64 0))⟩])
def p_quartolaw14_ChunkNames_13 : PC :=
  (.reg [5, 6, 104] [⟨(some 101), none, false, .mv (.s 6)⟩,
    ⟨(some 102), none, false, .mv (.s 5)⟩,
    ⟨(some 103), none, false, .len 1 (.s 102)⟩,
    ⟨(some 104), none, false, .bin .lss (.s 101) (.s 103)⟩])
def p_quartolaw14_ChunkNames_14 : PC :=
  (.reg [5, 6, 7, 8] [⟨(some 108), none, false, .mv (.s 5)⟩,
    ⟨(some 109), none, false, .mv (.s 6)⟩,
    ⟨(some 110), none, false, .ixS 4 (.s 108) (.s 109)⟩,
    ⟨(some 111), none, false, .fadr 0 (.s 110)⟩,
    ⟨(some 112), none, false, .ld false 1 (.s 111)⟩,
    ⟨(some 113), none, false, .mv (.s 5)⟩,
    ⟨(some 114), none, false, .mv (.s 6)⟩,
    ⟨(some 115), none, false, .ixS 4 (.s 113) (.s 114)⟩,
    ⟨(some 116), none, false, .fadr 1 (.s 115)⟩,
    ⟨(some 117), none, false, .ld false 1 (.s 116)⟩,
    ⟨(some 118), none, false, .call .norm (.v (.func (.func F_chunk_Join) [] [])) [(.s 112), (.s 117)]⟩,
    ⟨(some 107), none, false, .mv (.s 118)⟩,
    ⟨(some 119), none, false, .ext (.s 107) 0⟩,
    ⟨(some 120), none, false, .ext (.s 107) 1⟩,
    ⟨(some 7), none, false, .mv (.s 119)⟩,
    ⟨(some 8), none, false, .mv (.s 120)⟩])
def p_quartolaw14_ChunkNames_15 : PC :=
  (.reg [5, 6, 137] [⟨(some 121), none, false, .mv (.s 8)⟩,
    ⟨(some 122), none, false, .mv (.s 5)⟩,
    ⟨(some 123), none, false, .mv (.s 6)⟩,
    ⟨(some 124), none, false, .ixS 4 (.s 122) (.s 123)⟩,
    ⟨(some 125), none, false, .fadr 3 (.s 124)⟩,
    ⟨(some 126), none, false, .ld false 1 (.s 125)⟩,
    ⟨(some 127), none, false, .bin .neq (.s 121) (.s 126)⟩,
    ⟨(some 128), none, false, .mv (.s 127)⟩,
    ⟨(some 129), (some (128, false)), false, .mv (.s 7)⟩,
    ⟨(some 130), (some (128, false)), false, .mv (.s 5)⟩,
    ⟨(some 131), (some (128, false)), false, .mv (.s 6)⟩,
    ⟨(some 132), (some (128, false)), false, .ixS 4 (.s 130) (.s 131)⟩,
    ⟨(some 133), (some (128, false)), false, .fadr 2 (.s 132)⟩,
    ⟨(some 134), (some (128, false)), false, .ld false 1 (.s 133)⟩,
    ⟨(some 135), (some (128, false)), false, .call .norm (.v (.func (.func F_quartoref14_Texts) [] [])) [(.s 129), (.s 134)]⟩,
    ⟨(some 136), (some (128, false)), false, .un .not (.s 135)⟩,
    ⟨(some 137), none, false, .pick (.s 128) (.v (.bool true)) (.s 136)⟩])
def p_quartolaw14_ChunkNames_16 : PC :=
  (.reg [0] [⟨(some 0), none, false, .mv (.v (.bool false))⟩])
def p_quartolaw14_ChunkNames_17 : PC :=
  (.reg [5, 6] [⟨(some 105), none, false, .mv (.s 6)⟩,
    ⟨(some 106), none, false, .bin .add (.s 105) (.v (.int .i64 1))⟩,
    ⟨(some 6), none, false, .mv (.s 106)⟩])
def p_quartolaw14_ChunkNames_18 : PC :=
  (.seq (.seq p_quartolaw14_ChunkNames_13
  (.ite (.s 104)
    .skip
    (.exit 2)))
  (.seq (.block 3
    (.seq p_quartolaw14_ChunkNames_14
    (.seq p_quartolaw14_ChunkNames_15
    (.ite (.s 137)
      (.seq p_quartolaw14_ChunkNames_16
      .ret)
      .skip))))
  p_quartolaw14_ChunkNames_17))
def p_quartolaw14_ChunkNames_19 : PC :=
  (.reg [9] [⟨(some 138), none, false, .build [(.str []), (.int .i64 0), (.str []), (.str []), (.int .i64 0)] [(0, 1, (.v (.str [97, 98, 99]))), (1, 1, (.v (.int .i64 1))), (2, 1, (.v (.str [97]))), (3, 1, (.v (.str [98, 99]))), (4, 1, (.v (.int .i64 0)))]⟩,
    ⟨(some 139), none, false, .build [(.str []), (.int .i64 0), (.str []), (.str []), (.int .i64 0)] [(0, 1, (.v (.str [97, 98, 99]))), (1, 1, (.v (.int .i64 0))), (2, 1, (.v (.str []))), (3, 1, (.v (.str [97, 98, 99]))), (4, 1, (.v (.int .i64 0)))]⟩,
    ⟨(some 140), none, false, .build [(.str []), (.int .i64 0), (.str []), (.str []), (.int .i64 0)] [(0, 1, (.v (.str [97, 98, 99]))), (1, 1, (.v (.int .i64 3))), (2, 1, (.v (.str [97, 98, 99]))), (3, 1, (.v (.str []))), (4, 1, (.v (.int .i64 0)))]⟩,
    ⟨(some 141), none, false, .build [(.str []), (.int .i64 0), (.str []), (.str []), (.int .i64 0)] [(0, 1, (.v (.str [97, 98, 99]))), (1, 1, (.v (.int .i64 4))), (2, 1, (.v (.str []))), (3, 1, (.v (.str []))), (4, 1, (.v (.int .i64 3)))]⟩,
    ⟨(some 142), none, false, .build [(.str []), (.int .i64 0), (.str []), (.str []), (.int .i64 0)] [(0, 1, (.v (.str [97, 98, 99]))), (1, 1, (.v (.int .i64 (-1)))), (2, 1, (.v (.str []))), (3, 1, (.v (.str []))), (4, 1, (.v (.int .i64 3)))]⟩,
    ⟨(some 143), none, false, .build [(.str []), (.int .i64 0), (.str []), (.str []), (.int .i64 0)] [(0, 1, (.v (.str []))), (1, 1, (.v (.int .i64 0))), (2, 1, (.v (.str []))), (3, 1, (.v (.str []))), (4, 1, (.v (.int .i64 2)))]⟩,
    ⟨(some 144), none, false, .build [(.str []), (.int .i64 0), (.str []), (.str []), (.int .i64 0)] [(0, 1, (.v (.str [48, 49, 50, 51, 52, 53, 54, 55, 56, 57, 97, 98, 99, 100, 101, 102, 103]))), (1, 1, (.v (.int .i64 99))), (2, 1, (.v (.str []))), (3, 1, (.v (.str []))), (4, 1, (.v (.int .i64 2)))]⟩,
    ⟨(some 145), none, false, .bslice false 5 [(.agg [(.str []), (.int .i64 0), (.str []), (.str []), (.int .i64 0)]), (.agg [(.str []), (.int .i64 0), (.str []), (.str []), (.int .i64 0)]), (.agg [(.str []), (.int .i64 0), (.str []), (.str []), (.int .i64 0)]), (.agg [(.str []), (.int .i64 0), (.str []), (.str []), (.int .i64 0)]), (.agg [(.str []), (.int .i64 0), (.str []), (.str []), (.int .i64 0)]), (.agg [(.str []), (.int .i64 0), (.str []), (.str []), (.int .i64 0)]), (.agg [(.str []), (.int .i64 0), (.str []), (.str []), (.int .i64 0)])] [(0, (.s 138)), (1, (.s 139)), (2, (.s 140)), (3, (.s 141)), (4, (.s 142)), (5, (.s 143)), (6, (.s 144))]⟩,
    ⟨(some 9), none, false, .mv (.s 145)⟩])
def p_quartolaw14_ChunkNames_20 : PC :=
  (.reg [9, 10] [⟨(some 10), none, false, .mv (.v (.int .i64 0))⟩])
def p_quartolaw14_ChunkNames_21 : PC :=
  (.reg [9, 10, 149] [⟨(some 146), none, false, .mv (.s 10)⟩,
    ⟨(some 147), none, false, .mv (.s 9)⟩,
    ⟨(some 148), none, false, .len 1 (.s 147)⟩,
    ⟨(some 149), none, false, .bin .lss (.s 146) (.s 148)⟩])
def p_quartolaw14_ChunkNames_22 : PC :=
  (.reg [9, 10, 11, 12, 13] [⟨(some 153), none, false, .mv (.s 9)⟩,
    ⟨(some 154), none, false, .mv (.s 10)⟩,
    ⟨(some 155), none, false, .ixS 5 (.s 153) (.s 154)⟩,
    ⟨(some 156), none, false, .fadr 0 (.s 155)⟩,
    ⟨(some 157), none, false, .ld false 1 (.s 156)⟩,
    ⟨(some 158), none, false, .mv (.s 9)⟩,
    ⟨(some 159), none, false, .mv (.s 10)⟩,
    ⟨(some 160), none, false, .ixS 5 (.s 158) (.s 159)⟩,
    ⟨(some 161), none, false, .fadr 1 (.s 160)⟩,
    ⟨(some 162), none, false, .ld false 1 (.s 161)⟩,
    ⟨(some 163), none, false, .call .norm (.v (.func (.func F_chunk_Cut) [] [])) [(.s 157), (.s 162)]⟩,
    ⟨(some 152), none, false, .mv (.s 163)⟩,
    ⟨(some 164), none, false, .ext (.s 152) 0⟩,
    ⟨(some 165), none, false, .ext (.s 152) 1⟩,
    ⟨(some 166), none, false, .ext (.s 152) 2⟩,
    ⟨(some 11), none, false, .mv (.s 164)⟩,
    ⟨(some 12), none, false, .mv (.s 165)⟩,
    ⟨(some 13), none, false, .mv (.s 166)⟩])
def p_quartolaw14_ChunkNames_23 : PC :=
  (.reg [9, 10, 191] [⟨(some 167), none, false, .mv (.s 13)⟩,
    ⟨(some 168), none, false, .mv (.s 9)⟩,
    ⟨(some 169), none, false, .mv (.s 10)⟩,
    ⟨(some 170), none, false, .ixS 5 (.s 168) (.s 169)⟩,
    ⟨(some 171), none, false, .fadr 4 (.s 170)⟩,
    ⟨(some 172), none, false, .ld false 1 (.s 171)⟩,
    ⟨(some 173), none, false, .bin .neq (.s 167) (.s 172)⟩,
    ⟨(some 174), none, false, .mv (.s 173)⟩,
    ⟨(some 175), (some (174, false)), false, .mv (.s 11)⟩,
    ⟨(some 176), (some (174, false)), false, .mv (.s 9)⟩,
    ⟨(some 177), (some (174, false)), false, .mv (.s 10)⟩,
    ⟨(some 178), (some (174, false)), false, .ixS 5 (.s 176) (.s 177)⟩,
    ⟨(some 179), (some (174, false)), false, .fadr 2 (.s 178)⟩,
    ⟨(some 180), (some (174, false)), false, .ld false 1 (.s 179)⟩,
    ⟨(some 181), (some (174, false)), false, .bin .neq (.s 175) (.s 180)⟩,
    ⟨(some 182), none, false, .pick (.s 174) (.v (.bool true)) (.s 181)⟩,
    ⟨(some 183), none, false, .mv (.s 182)⟩,
    ⟨(some 184), (some (183, false)), false, .mv (.s 12)⟩,
    ⟨(some 185), (some (183, false)), false, .mv (.s 9)⟩,
    ⟨(some 186), (some (183, false)), false, .mv (.s 10)⟩,
    ⟨(some 187), (some (183, false)), false, .ixS 5 (.s 185) (.s 186)⟩,
    ⟨(some 188), (some (183, false)), false, .fadr 3 (.s 187)⟩,
    ⟨(some 189), (some (183, false)), false, .ld false 1 (.s 188)⟩,
    ⟨(some 190), (some (183, false)), false, .bin .neq (.s 184) (.s 189)⟩,
    ⟨(some 191), none, false, .pick (.s 183) (.v (.bool true)) (.s 190)⟩])
def p_quartolaw14_ChunkNames_24 : PC :=
  (.reg [0] [⟨(some 0), none, false, .mv (.v (.bool false))⟩])
def p_quartolaw14_ChunkNames_25 : PC :=
  (.reg [9, 10] [⟨(some 150), none, false, .mv (.s 10)⟩,
    ⟨(some 151), none, false, .bin .add (.s 150) (.v (.int .i64 1))⟩,
    ⟨(some 10), none, false, .mv (.s 151)⟩])
def p_quartolaw14_ChunkNames_26 : PC :=
  (.seq (.seq p_quartolaw14_ChunkNames_21
  (.ite (.s 149)
    .skip
    (.exit 4)))
  (.seq (.block 5
    (.seq p_quartolaw14_ChunkNames_22
    (.seq p_quartolaw14_ChunkNames_23
    (.ite (.s 191)
      (.seq p_quartolaw14_ChunkNames_24
      .ret)
      .skip))))
  p_quartolaw14_ChunkNames_25))
def p_quartolaw14_ChunkNames_27 : PC :=
  (.reg [0] [⟨(some 0), none, false, .mv (.v (.bool true))⟩])
def p_quartolaw14_ChunkNames : PF := ⟨false,
  (.seq p_quartolaw14_ChunkNames_0
  (.seq (.seq p_quartolaw14_ChunkNames_1
  (.ite (.s 34)
    (.seq p_quartolaw14_ChunkNames_2
    .ret)
    .skip))
  (.seq p_quartolaw14_ChunkNames_3
  (.seq (.seq p_quartolaw14_ChunkNames_4
  (.block 0
    (.loop p_quartolaw14_ChunkNames_10)))
  (.seq p_quartolaw14_ChunkNames_11
  (.seq (.seq p_quartolaw14_ChunkNames_12
  (.block 2
    (.loop p_quartolaw14_ChunkNames_18)))
  (.seq p_quartolaw14_ChunkNames_19
  (.seq (.seq p_quartolaw14_ChunkNames_20
  (.block 4
    (.loop p_quartolaw14_ChunkNames_26)))
  (.seq p_quartolaw14_ChunkNames_27
  .ret))))))))),
  [.s 0]⟩
theorem c_quartolaw14_ChunkNames : compF Go.Proofs.Try.prog false h_quartolaw14_ChunkNames Go.Proofs.Try.f7 = some p_quartolaw14_ChunkNames := by kernel_rfl
/-- quarto/quartolaw14.ChunkParts -/
def h_quartolaw14_ChunkParts : List Hint := [⟨[0], [], [], [], [], []⟩, ⟨[0, 9], [], [], [], [], []⟩, ⟨[2], [], [], [], [], []⟩, ⟨[0, 3], [], [], [], [], []⟩, ⟨[0, 3, 4, 5], [], [], [], [], []⟩, ⟨[0, 3, 4, 43], [], [], [], [], []⟩, ⟨[2], [], [], [], [], []⟩, ⟨[0, 3, 4, 6], [], [], [], [], []⟩, ⟨[0, 3, 4, 6, 47], [], [], [], [], []⟩, ⟨[0, 3, 4, 6, 88], [], [], [], [], []⟩, ⟨[2], [], [], [], [], []⟩, ⟨[0, 3, 4, 6], [], [], [], [], []⟩, ⟨[2], [], [], [], [], []⟩]
def p_quartolaw14_ChunkParts_0 : PC :=
  (.reg [0] [⟨(some 2), none, false, .mv (.v (.bool false))⟩])
def p_quartolaw14_ChunkParts_1 : PC :=
  (.reg [0, 9] [⟨(some 7), none, false, .mv (.s 0)⟩,
    ⟨(some 8), none, false, .len 0 (.s 7)⟩,
    ⟨(some 9), none, false, .bin .gtr (.s 8) (.v (.int .i64 3000))⟩])
def p_quartolaw14_ChunkParts_2 : PC :=
  (.reg [2] [⟨(some 10), none, false, .call .norm (.v (.func (.func F_quartolaw14_works) [] [])) []⟩,
    ⟨(some 2), none, false, .mv (.s 10)⟩])
def p_quartolaw14_ChunkParts_3 : PC :=
  (.reg [0, 3] [⟨(some 11), none, false, .mv (.s 0)⟩,
    ⟨(some 12), none, false, .call .norm (.v (.func (.func F_chunk_Chunks) [] [])) [(.s 11)]⟩,
    ⟨(some 3), none, false, .mv (.s 12)⟩])
def p_quartolaw14_ChunkParts_4 : PC :=
  (.reg [0, 3, 4, 5] [⟨(some 14), none, false, .mv (.s 0)⟩,
    ⟨(some 15), none, false, .len 0 (.s 14)⟩,
    ⟨(some 16), none, false, .call .norm (.v (.func (.func F_chunk_Even) [] [])) [(.s 15), (.v (.int .i64 16))]⟩,
    ⟨(some 13), none, false, .mv (.s 16)⟩,
    ⟨(some 17), none, false, .ext (.s 13) 0⟩,
    ⟨(some 18), none, false, .ext (.s 13) 1⟩,
    ⟨(some 4), none, false, .mv (.s 17)⟩,
    ⟨(some 5), none, false, .mv (.s 18)⟩])
def p_quartolaw14_ChunkParts_5 : PC :=
  (.reg [0, 3, 4, 43] [⟨(some 19), none, false, .mv (.s 5)⟩,
    ⟨(some 20), none, false, .bin .neq (.s 19) (.v (.int .i64 0))⟩,
    ⟨(some 21), none, false, .mv (.s 20)⟩,
    ⟨(some 22), (some (21, false)), false, .mv (.s 3)⟩,
    ⟨(some 23), (some (21, false)), false, .len 1 (.s 22)⟩,
    ⟨(some 24), (some (21, false)), false, .mv (.s 4)⟩,
    ⟨(some 25), (some (21, false)), false, .len 1 (.s 24)⟩,
    ⟨(some 26), (some (21, false)), false, .bin .neq (.s 23) (.s 25)⟩,
    ⟨(some 27), none, false, .pick (.s 21) (.v (.bool true)) (.s 26)⟩,
    ⟨(some 28), none, false, .mv (.s 27)⟩,
    ⟨(some 29), (some (28, false)), false, .mv (.s 3)⟩,
    ⟨(some 30), (some (28, false)), false, .call .norm (.v (.func (.func F_strings_Join) [] [])) [(.s 29), (.v (.str []))]⟩,
    ⟨(some 31), (some (28, false)), false, .mv (.s 0)⟩,
    ⟨(some 32), (some (28, false)), false, .bin .neq (.s 30) (.s 31)⟩,
    ⟨(some 33), none, false, .pick (.s 28) (.v (.bool true)) (.s 32)⟩,
    ⟨(some 34), none, false, .mv (.s 33)⟩,
    ⟨(some 35), (some (34, false)), false, .mv (.s 3)⟩,
    ⟨(some 36), (some (34, false)), false, .len 1 (.s 35)⟩,
    ⟨(some 37), (some (34, false)), false, .mv (.s 0)⟩,
    ⟨(some 38), (some (34, false)), false, .len 0 (.s 37)⟩,
    ⟨(some 39), (some (34, false)), false, .bin .add (.s 38) (.v (.int .i64 16))⟩,
    ⟨(some 40), (some (34, false)), false, .bin .sub (.s 39) (.v (.int .i64 1))⟩,
    ⟨(some 41), (some (34, false)), false, .bin .quo (.s 40) (.v (.int .i64 16))⟩,
    ⟨(some 42), (some (34, false)), false, .bin .neq (.s 36) (.s 41)⟩,
    ⟨(some 43), none, false, .pick (.s 34) (.v (.bool true)) (.s 42)⟩])
def p_quartolaw14_ChunkParts_6 : PC :=
  (.reg [2] [⟨(some 2), none, false, .mv (.v (.bool false))⟩])
def p_quartolaw14_ChunkParts_7 : PC :=
  (.reg [0, 3, 4, 6] [⟨(some 6), none, false, .mv (.v (.int .i64 0))⟩])
def p_quartolaw14_ChunkParts_8 : PC :=
  (.reg [0, 3, 4, 6, 47] [⟨(some 44), none, false, .mv (.s 6)⟩,
    ⟨(some 45), none, false, .mv (.s 3)⟩,
    ⟨(some 46), none, false, .len 1 (.s 45)⟩,
    ⟨(some 47), none, false, .bin .lss (.s 44) (.s 46)⟩])
def p_quartolaw14_ChunkParts_9 : PC :=
  (.reg [0, 3, 4, 6, 88] [⟨(some 50), none, false, .mv (.s 3)⟩,
    ⟨(some 51), none, false, .mv (.s 6)⟩,
    ⟨(some 52), none, false, .ixS 1 (.s 50) (.s 51)⟩,
    ⟨(some 53), none, false, .ld false 1 (.s 52)⟩,
    ⟨(some 54), none, false, .len 0 (.s 53)⟩,
    ⟨(some 55), none, false, .mv (.s 4)⟩,
    ⟨(some 56), none, false, .mv (.s 6)⟩,
    ⟨(some 57), none, false, .ixS 1 (.s 55) (.s 56)⟩,
    ⟨(some 58), none, false, .ld false 1 (.s 57)⟩,
    ⟨(some 59), none, false, .bin .neq (.s 54) (.s 58)⟩,
    ⟨(some 60), none, false, .mv (.s 59)⟩,
    ⟨(some 61), (some (60, false)), false, .mv (.s 3)⟩,
    ⟨(some 62), (some (60, false)), false, .mv (.s 6)⟩,
    ⟨(some 63), (some (60, false)), false, .ixS 1 (.s 61) (.s 62)⟩,
    ⟨(some 64), (some (60, false)), false, .ld false 1 (.s 63)⟩,
    ⟨(some 65), (some (60, false)), false, .len 0 (.s 64)⟩,
    ⟨(some 66), (some (60, false)), false, .bin .lss (.s 65) (.v (.int .i64 1))⟩,
    ⟨(some 67), none, false, .pick (.s 60) (.v (.bool true)) (.s 66)⟩,
    ⟨(some 68), none, false, .mv (.s 67)⟩,
    ⟨(some 69), (some (68, false)), false, .mv (.s 3)⟩,
    ⟨(some 70), (some (68, false)), false, .mv (.s 6)⟩,
    ⟨(some 71), (some (68, false)), false, .ixS 1 (.s 69) (.s 70)⟩,
    ⟨(some 72), (some (68, false)), false, .ld false 1 (.s 71)⟩,
    ⟨(some 73), (some (68, false)), false, .len 0 (.s 72)⟩,
    ⟨(some 74), (some (68, false)), false, .bin .gtr (.s 73) (.v (.int .i64 16))⟩,
    ⟨(some 75), none, false, .pick (.s 68) (.v (.bool true)) (.s 74)⟩,
    ⟨(some 76), none, false, .mv (.s 75)⟩,
    ⟨(some 77), (some (76, false)), false, .mv (.s 0)⟩,
    ⟨(some 78), (some (76, false)), false, .len 0 (.s 77)⟩,
    ⟨(some 79), (some (76, false)), false, .bin .geq (.s 78) (.v (.int .i64 8))⟩,
    ⟨(some 80), (some (76, false)), false, .mv (.s 79)⟩,
    ⟨(some 81), (some (80, true)), false, .mv (.s 3)⟩,
    ⟨(some 82), (some (80, true)), false, .mv (.s 6)⟩,
    ⟨(some 83), (some (80, true)), false, .ixS 1 (.s 81) (.s 82)⟩,
    ⟨(some 84), (some (80, true)), false, .ld false 1 (.s 83)⟩,
    ⟨(some 85), (some (80, true)), false, .len 0 (.s 84)⟩,
    ⟨(some 86), (some (80, true)), false, .bin .lss (.s 85) (.v (.int .i64 8))⟩,
    ⟨(some 87), (some (76, false)), false, .pick (.s 80) (.s 86) (.v (.bool false))⟩,
    ⟨(some 88), none, false, .pick (.s 76) (.v (.bool true)) (.s 87)⟩])
def p_quartolaw14_ChunkParts_10 : PC :=
  (.reg [2] [⟨(some 2), none, false, .mv (.v (.bool false))⟩])
def p_quartolaw14_ChunkParts_11 : PC :=
  (.reg [0, 3, 4, 6] [⟨(some 48), none, false, .mv (.s 6)⟩,
    ⟨(some 49), none, false, .bin .add (.s 48) (.v (.int .i64 1))⟩,
    ⟨(some 6), none, false, .mv (.s 49)⟩])
def p_quartolaw14_ChunkParts_12 : PC :=
  (.seq (.seq p_quartolaw14_ChunkParts_8
  (.ite (.s 47)
    .skip
    (.exit 0)))
  (.seq (.block 1
    (.seq p_quartolaw14_ChunkParts_9
    (.ite (.s 88)
      (.seq p_quartolaw14_ChunkParts_10
      .ret)
      .skip)))
  p_quartolaw14_ChunkParts_11))
def p_quartolaw14_ChunkParts_13 : PC :=
  (.reg [2] [⟨(some 89), none, false, .call .norm (.v (.func (.func F_quartolaw14_works) [] [])) []⟩,
    ⟨(some 2), none, false, .mv (.s 89)⟩])
def p_quartolaw14_ChunkParts : PF := ⟨false,
  (.seq p_quartolaw14_ChunkParts_0
  (.seq (.seq p_quartolaw14_ChunkParts_1
  (.ite (.s 9)
    (.seq p_quartolaw14_ChunkParts_2
    .ret)
    .skip))
  (.seq p_quartolaw14_ChunkParts_3
  (.seq p_quartolaw14_ChunkParts_4
  (.seq (.seq p_quartolaw14_ChunkParts_5
  (.ite (.s 43)
    (.seq p_quartolaw14_ChunkParts_6
    .ret)
    .skip))
  (.seq (.seq p_quartolaw14_ChunkParts_7
  (.block 0
    (.loop p_quartolaw14_ChunkParts_12)))
  (.seq p_quartolaw14_ChunkParts_13
  .ret))))))),
  [.s 2]⟩
theorem c_quartolaw14_ChunkParts : compF Go.Proofs.Try.prog false h_quartolaw14_ChunkParts Go.Proofs.Try.f8 = some p_quartolaw14_ChunkParts := by kernel_rfl
/-- quarto/quartolaw14.ChunkOwn -/
def h_quartolaw14_ChunkOwn : List Hint := [⟨[0, 1], [], [], [], [], []⟩, ⟨[0, 1, 21], [], [], [], [], []⟩, ⟨[4], [], [], [], [], []⟩, ⟨[0, 1, 5], [], [], [], [], []⟩, ⟨[0, 1, 5, 24], [], [], [], [], []⟩, ⟨[0, 1, 5, 6], [], [], [], [], []⟩, ⟨[0, 1, 5, 6, 7, 8], [], [], [], [], []⟩, ⟨[0, 1, 5, 6, 7, 48], [], [], [], [], []⟩, ⟨[4], [], [], [], [], []⟩, ⟨[0, 1, 5, 6, 7, 9], [], [], [], [], []⟩, ⟨[0, 1, 5, 6, 7, 9, 52], [], [], [], [], []⟩, ⟨[0, 1, 5, 6, 7, 9], [], [], [], [], []⟩, ⟨[0, 1, 5, 6, 7, 9], [], [], [], [], []⟩, ⟨[0, 1, 5, 7, 10], [], [], [], [], []⟩, ⟨[0, 1, 5, 7, 10, 61], [], [], [], [], []⟩, ⟨[0, 1, 5, 7, 10], [], [], [], [], []⟩, ⟨[0, 1, 5, 7, 10], [], [], [], [], []⟩, ⟨[0, 1, 5], [], [], [], [], []⟩, ⟨[4], [], [], [], [], []⟩]
def p_quartolaw14_ChunkOwn_0 : PC :=
  (.reg [0, 1] [⟨(some 4), none, false, .mv (.v (.bool false))⟩])
def p_quartolaw14_ChunkOwn_1 : PC :=
  (.reg [0, 1, 21] [⟨(some 11), none, false, .mv (.s 0)⟩,
    ⟨(some 12), none, false, .len 0 (.s 11)⟩,
    ⟨(some 13), none, false, .bin .gtr (.s 12) (.v (.int .i64 1000))⟩,
    ⟨(some 14), none, false, .mv (.s 13)⟩,
    ⟨(some 15), (some (14, false)), false, .mv (.s 1)⟩,
    ⟨(some 16), (some (14, false)), false, .bin .lss (.s 15) (.v (.int .i64 0))⟩,
    ⟨(some 17), none, false, .pick (.s 14) (.v (.bool true)) (.s 16)⟩,
    ⟨(some 18), none, false, .mv (.s 17)⟩,
    ⟨(some 19), (some (18, false)), false, .mv (.s 1)⟩,
    ⟨(some 20), (some (18, false)), false, .bin .gtr (.s 19) (.v (.int .i64 1000))⟩,
    ⟨(some 21), none, false, .pick (.s 18) (.v (.bool true)) (.s 20)⟩])
def p_quartolaw14_ChunkOwn_2 : PC :=
  (.reg [4] [⟨(some 22), none, false, .call .norm (.v (.func (.func F_quartolaw14_works) [] [])) []⟩,
    ⟨(some 4), none, false, .mv (.s 22)⟩])
def p_quartolaw14_ChunkOwn_3 : PC :=
  (.reg [0, 1, 5] [⟨(some 5), none, false, .mv (.v (.int .i64 0))⟩])
def p_quartolaw14_ChunkOwn_4 : PC :=
  (.reg [0, 1, 5, 24] [⟨(some 23), none, false, .mv (.s 5)⟩,
    ⟨(some 24), none, false, .bin .lss (.s 23) (.v (.int .i64 2))⟩])
def p_quartolaw14_ChunkOwn_5 : PC :=
  (.reg [0, 1, 5, 6] [⟨(some 27), none, false, .mv (.s 0)⟩,
    ⟨(some 28), none, false, .call .norm (.v (.func (.func F_chunk_Chunks) [] [])) [(.s 27)]⟩,
    ⟨(some 6), none, false, .mv (.s 28)⟩])
def p_quartolaw14_ChunkOwn_6 : PC :=
  (.reg [0, 1, 5, 6, 7, 8] [⟨(some 30), none, false, .mv (.s 1)⟩,
    ⟨(some 31), none, false, .call .norm (.v (.func (.func F_chunk_Even) [] [])) [(.s 30), (.v (.int .i64 3))]⟩,
    ⟨(some 29), none, false, .mv (.s 31)⟩,
    ⟨(some 32), none, false, .ext (.s 29) 0⟩,
    ⟨(some 33), none, false, .ext (.s 29) 1⟩,
    ⟨(some 7), none, false, .mv (.s 32)⟩,
    ⟨(some 8), none, false, .mv (.s 33)⟩])
def p_quartolaw14_ChunkOwn_7 : PC :=
  (.reg [0, 1, 5, 6, 7, 48] [⟨(some 34), none, false, .mv (.s 8)⟩,
    ⟨(some 35), none, false, .bin .neq (.s 34) (.v (.int .i64 0))⟩,
    ⟨(some 36), none, false, .mv (.s 35)⟩,
    ⟨(some 37), (some (36, false)), false, .mv (.s 6)⟩,
    ⟨(some 38), (some (36, false)), false, .call .norm (.v (.func (.func F_strings_Join) [] [])) [(.s 37), (.v (.str []))]⟩,
    ⟨(some 39), (some (36, false)), false, .mv (.s 0)⟩,
    ⟨(some 40), (some (36, false)), false, .bin .neq (.s 38) (.s 39)⟩,
    ⟨(some 41), none, false, .pick (.s 36) (.v (.bool true)) (.s 40)⟩,
    ⟨(some 42), none, false, .mv (.s 41)⟩,
    ⟨(some 43), (some (42, false)), false, .mv (.s 7)⟩,
    ⟨(some 44), (some (42, false)), false, .mv (.s 1)⟩,
    ⟨(some 45), (some (42, false)), false, .call .norm (.v (.func (.func F_quartoref14_Sizes) [] [])) [(.s 44), (.v (.int .i64 3))]⟩,
    ⟨(some 46), (some (42, false)), false, .call .norm (.v (.func (.func F_quartoref14_Ints) [] [])) [(.s 43), (.s 45)]⟩,
    ⟨(some 47), (some (42, false)), false, .un .not (.s 46)⟩,
    ⟨(some 48), none, false, .pick (.s 42) (.v (.bool true)) (.s 47)⟩])
def p_quartolaw14_ChunkOwn_8 : PC :=
  (.reg [4] [⟨(some 4), none, false, .mv (.v (.bool false))⟩])
def p_quartolaw14_ChunkOwn_9 : PC :=
  (.reg [0, 1, 5, 6, 7, 9] [⟨(some 9), none, false, .mv (.v (.int .i64 0))⟩])
def p_quartolaw14_ChunkOwn_10 : PC :=
  (.reg [0, 1, 5, 6, 7, 9, 52] [⟨(some 49), none, false, .mv (.s 9)⟩,
    ⟨(some 50), none, false, .mv (.s 6)⟩,
    ⟨(some 51), none, false, .len 1 (.s 50)⟩,
    ⟨(some 52), none, false, .bin .lss (.s 49) (.s 51)⟩])
def p_quartolaw14_ChunkOwn_11 : PC :=
  (.reg [0, 1, 5, 6, 7, 9] [⟨(some 55), none, false, .mv (.s 6)⟩,
    ⟨(some 56), none, false, .mv (.s 9)⟩,
    ⟨(some 57), none, false, .ixS 1 (.s 55) (.s 56)⟩,
    ⟨none, none, false, .st 1 (.s 57) (.v (.str [115, 112, 111, 105, 108, 116]))⟩])
def p_quartolaw14_ChunkOwn_12 : PC :=
  (.reg [0, 1, 5, 6, 7, 9] [⟨(some 53), none, false, .mv (.s 9)⟩,
    ⟨(some 54), none, false, .bin .add (.s 53) (.v (.int .i64 1))⟩,
    ⟨(some 9), none, false, .mv (.s 54)⟩])
def p_quartolaw14_ChunkOwn_13 : PC :=
  (.seq (.seq p_quartolaw14_ChunkOwn_10
  (.ite (.s 52)
    .skip
    (.exit 2)))
  (.seq (.block 3
    p_quartolaw14_ChunkOwn_11)
  p_quartolaw14_ChunkOwn_12))
def p_quartolaw14_ChunkOwn_14 : PC :=
  (.reg [0, 1, 5, 7, 10] [⟨(some 10), none, false, .mv (.v (.int .i64 0))⟩])
def p_quartolaw14_ChunkOwn_15 : PC :=
  (.reg [0, 1, 5, 7, 10, 61] [⟨(some 58), none, false, .mv (.s 10)⟩,
    ⟨(some 59), none, false, .mv (.s 7)⟩,
    ⟨(some 60), none, false, .len 1 (.s 59)⟩,
    ⟨(some 61), none, false, .bin .lss (.s 58) (.s 60)⟩])
def p_quartolaw14_ChunkOwn_16 : PC :=
  (.reg [0, 1, 5, 7, 10] [⟨(some 64), none, false, .mv (.s 7)⟩,
    ⟨(some 65), none, false, .mv (.s 10)⟩,
    ⟨(some 66), none, false, .ixS 1 (.s 64) (.s 65)⟩,
    ⟨none, none, false, .st 1 (.s 66) (.v (.int .i64 (-1)))⟩])
def p_quartolaw14_ChunkOwn_17 : PC :=
  (.reg [0, 1, 5, 7, 10] [⟨(some 62), none, false, .mv (.s 10)⟩,
    ⟨(some 63), none, false, .bin .add (.s 62) (.v (.int .i64 1))⟩,
    ⟨(some 10), none, false, .mv (.s 63)⟩])
def p_quartolaw14_ChunkOwn_18 : PC :=
  (.seq (.seq p_quartolaw14_ChunkOwn_15
  (.ite (.s 61)
    .skip
    (.exit 4)))
  (.seq (.block 5
    p_quartolaw14_ChunkOwn_16)
  p_quartolaw14_ChunkOwn_17))
def p_quartolaw14_ChunkOwn_19 : PC :=
  (.reg [0, 1, 5] [⟨(some 25), none, false, .mv (.s 5)⟩,
    ⟨(some 26), none, false, .bin .add (.s 25) (.v (.int .i64 1))⟩,
    ⟨(some 5), none, false, .mv (.s 26)⟩])
def p_quartolaw14_ChunkOwn_20 : PC :=
  (.seq (.seq p_quartolaw14_ChunkOwn_4
  (.ite (.s 24)
    .skip
    (.exit 0)))
  (.seq (.block 1
    (.seq p_quartolaw14_ChunkOwn_5
    (.seq p_quartolaw14_ChunkOwn_6
    (.seq (.seq p_quartolaw14_ChunkOwn_7
    (.ite (.s 48)
      (.seq p_quartolaw14_ChunkOwn_8
      .ret)
      .skip))
    (.seq (.seq p_quartolaw14_ChunkOwn_9
    (.block 2
      (.loop p_quartolaw14_ChunkOwn_13)))
    (.seq p_quartolaw14_ChunkOwn_14
    (.block 4
      (.loop p_quartolaw14_ChunkOwn_18))))))))
  p_quartolaw14_ChunkOwn_19))
def p_quartolaw14_ChunkOwn_21 : PC :=
  (.reg [4] [⟨(some 67), none, false, .call .norm (.v (.func (.func F_quartolaw14_works) [] [])) []⟩,
    ⟨(some 4), none, false, .mv (.s 67)⟩])
def p_quartolaw14_ChunkOwn : PF := ⟨false,
  (.seq p_quartolaw14_ChunkOwn_0
  (.seq (.seq p_quartolaw14_ChunkOwn_1
  (.ite (.s 21)
    (.seq p_quartolaw14_ChunkOwn_2
    .ret)
    .skip))
  (.seq (.seq p_quartolaw14_ChunkOwn_3
  (.block 0
    (.loop p_quartolaw14_ChunkOwn_20)))
  (.seq p_quartolaw14_ChunkOwn_21
  .ret)))),
  [.s 4]⟩
theorem c_quartolaw14_ChunkOwn : compF Go.Proofs.Try.prog false h_quartolaw14_ChunkOwn Go.Proofs.Try.f9 = some p_quartolaw14_ChunkOwn := by kernel_rfl
/-- quarto/quartolaw14.ChunkJoins -/
def h_quartolaw14_ChunkJoins : List Hint := [⟨[0, 1], [], [], [], [], []⟩, ⟨[0, 1, 5, 6], [], [], [], [], []⟩, ⟨[0, 1, 5, 6, 32], [], [], [], [], []⟩, ⟨[4], [], [], [], [], []⟩, ⟨[5, 64], [], [], [], [], []⟩, ⟨[4], [], [], [], [], []⟩, ⟨[5, 67], [], [], [], [], []⟩, ⟨[4], [], [], [], [], []⟩, ⟨[5, 99], [], [], [], [], []⟩, ⟨[4], [], [], [], [], []⟩, ⟨[5, 7, 8], [], [], [], [], []⟩, ⟨[4], [], [], [], [], []⟩]
def p_quartolaw14_ChunkJoins_0 : PC :=
  (.reg [0, 1] [⟨(some 4), none, false, .mv (.v (.bool false))⟩])
def p_quartolaw14_ChunkJoins_1 : PC :=
  (.reg [0, 1, 5, 6] [⟨(some 10), none, false, .mv (.s 0)⟩,
    ⟨(some 11), none, false, .mv (.s 1)⟩,
    ⟨(some 12), none, false, .call .norm (.v (.func (.func F_chunk_Join) [] [])) [(.s 10), (.s 11)]⟩,
    ⟨(some 9), none, false, .mv (.s 12)⟩,
    ⟨(some 13), none, false, .ext (.s 9) 0⟩,
    ⟨(some 14), none, false, .ext (.s 9) 1⟩,
    ⟨(some 5), none, false, .mv (.s 13)⟩,
    ⟨(some 6), none, false, .mv (.s 14)⟩])
def p_quartolaw14_ChunkJoins_2 : PC :=
  (.reg [0, 1, 5, 6, 32] [⟨(some 15), none, false, .mv (.s 0)⟩,
    ⟨(some 16), none, false, .len 0 (.s 15)⟩,
    ⟨(some 17), none, false, .bin .lss (.s 16) (.v (.int .i64 1))⟩,
    ⟨(some 18), none, false, .mv (.s 17)⟩,
    ⟨(some 19), (some (18, false)), false, .mv (.s 0)⟩,
    ⟨(some 20), (some (18, false)), false, .len 0 (.s 19)⟩,
    ⟨(some 21), (some (18, false)), false, .bin .gtr (.s 20) (.v (.int .i64 16))⟩,
    ⟨(some 22), none, false, .pick (.s 18) (.v (.bool true)) (.s 21)⟩,
    ⟨(some 23), none, false, .mv (.s 22)⟩,
    ⟨(some 24), (some (23, false)), false, .mv (.s 1)⟩,
    ⟨(some 25), (some (23, false)), false, .len 0 (.s 24)⟩,
    ⟨(some 26), (some (23, false)), false, .bin .lss (.s 25) (.v (.int .i64 1))⟩,
    ⟨(some 27), none, false, .pick (.s 23) (.v (.bool true)) (.s 26)⟩,
    ⟨(some 28), none, false, .mv (.s 27)⟩,
    ⟨(some 29), (some (28, false)), false, .mv (.s 1)⟩,
    ⟨(some 30), (some (28, false)), false, .len 0 (.s 29)⟩,
    ⟨(some 31), (some (28, false)), false, .bin .gtr (.s 30) (.v (.int .i64 16))⟩,
    ⟨(some 32), none, false, .pick (.s 28) (.v (.bool true)) (.s 31)⟩])
def p_quartolaw14_ChunkJoins_3 : PC :=
  (.reg [4] [⟨(some 33), none, false, .call .norm (.v (.func (.func F_quartolaw14_works) [] [])) []⟩,
    ⟨(some 34), none, false, .mv (.s 33)⟩,
    ⟨(some 35), (some (34, true)), false, .mv (.s 6)⟩,
    ⟨(some 36), (some (34, true)), false, .bin .eql (.s 35) (.v (.int .i64 2))⟩,
    ⟨(some 37), none, false, .pick (.s 34) (.s 36) (.v (.bool false))⟩,
    ⟨(some 38), none, false, .mv (.s 37)⟩,
    ⟨(some 39), (some (38, true)), false, .mv (.s 5)⟩,
    ⟨(some 40), (some (38, true)), false, .len 1 (.s 39)⟩,
    ⟨(some 41), (some (38, true)), false, .bin .eql (.s 40) (.v (.int .i64 0))⟩,
    ⟨(some 42), none, false, .pick (.s 38) (.s 41) (.v (.bool false))⟩,
    ⟨(some 4), none, false, .mv (.s 42)⟩])
def p_quartolaw14_ChunkJoins_4 : PC :=
  (.reg [5, 64] [⟨(some 43), none, false, .mv (.s 6)⟩,
    ⟨(some 44), none, false, .bin .neq (.s 43) (.v (.int .i64 0))⟩,
    ⟨(some 45), none, false, .mv (.s 44)⟩,
    ⟨(some 46), (some (45, false)), false, .mv (.s 5)⟩,
    ⟨(some 47), (some (45, false)), false, .call .norm (.v (.func (.func F_strings_Join) [] [])) [(.s 46), (.v (.str []))]⟩,
    ⟨(some 48), (some (45, false)), false, .mv (.s 0)⟩,
    ⟨(some 49), (some (45, false)), false, .mv (.s 1)⟩,
    ⟨(some 50), (some (45, false)), false, .bin .add (.s 48) (.s 49)⟩,
    ⟨(some 51), (some (45, false)), false, .bin .neq (.s 47) (.s 50)⟩,
    ⟨(some 52), none, false, .pick (.s 45) (.v (.bool true)) (.s 51)⟩,
    ⟨(some 53), none, false, .mv (.s 52)⟩,
    ⟨(some 54), (some (53, false)), false, .mv (.s 5)⟩,
    ⟨(some 55), (some (53, false)), false, .len 1 (.s 54)⟩,
    ⟨(some 56), (some (53, false)), false, .bin .eql (.s 55) (.v (.int .i64 1))⟩,
    ⟨(some 57), (some (53, false)), false, .mv (.s 0)⟩,
    ⟨(some 58), (some (53, false)), false, .len 0 (.s 57)⟩,
    ⟨(some 59), (some (53, false)), false, .mv (.s 1)⟩,
    ⟨(some 60), (some (53, false)), false, .len 0 (.s 59)⟩,
    ⟨(some 61), (some (53, false)), false, .bin .add (.s 58) (.s 60)⟩,
    ⟨(some 62), (some (53, false)), false, .bin .leq (.s 61) (.v (.int .i64 16))⟩,
    ⟨(some 63), (some (53, false)), false, .eqs true 6 [] (.s 56) (.s 62)⟩,
    ⟨(some 64), none, false, .pick (.s 53) (.v (.bool true)) (.s 63)⟩])
def p_quartolaw14_ChunkJoins_5 : PC :=
  (.reg [4] [⟨(some 4), none, false, .mv (.v (.bool false))⟩])
def p_quartolaw14_ChunkJoins_6 : PC :=
  (.reg [5, 67] [⟨(some 65), none, false, .mv (.s 5)⟩,
    ⟨(some 66), none, false, .len 1 (.s 65)⟩,
    ⟨(some 67), none, false, .bin .eql (.s 66) (.v (.int .i64 1))⟩])
def p_quartolaw14_ChunkJoins_7 : PC :=
  (.reg [4] [⟨(some 68), none, false, .call .norm (.v (.func (.func F_quartolaw14_works) [] [])) []⟩,
    ⟨(some 4), none, false, .mv (.s 68)⟩])
def p_quartolaw14_ChunkJoins_8 : PC :=
  (.reg [5, 99] [⟨(some 69), none, false, .mv (.s 5)⟩,
    ⟨(some 70), none, false, .len 1 (.s 69)⟩,
    ⟨(some 71), none, false, .bin .neq (.s 70) (.v (.int .i64 2))⟩,
    ⟨(some 72), none, false, .mv (.s 71)⟩,
    ⟨(some 73), (some (72, false)), false, .mv (.s 5)⟩,
    ⟨(some 74), (some (72, false)), false, .ixS 1 (.s 73) (.v (.int .i64 0))⟩,
    ⟨(some 75), (some (72, false)), false, .ld false 1 (.s 74)⟩,
    ⟨(some 76), (some (72, false)), false, .len 0 (.s 75)⟩,
    ⟨(some 77), (some (72, false)), false, .bin .lss (.s 76) (.v (.int .i64 8))⟩,
    ⟨(some 78), none, false, .pick (.s 72) (.v (.bool true)) (.s 77)⟩,
    ⟨(some 79), none, false, .mv (.s 78)⟩,
    ⟨(some 80), (some (79, false)), false, .mv (.s 5)⟩,
    ⟨(some 81), (some (79, false)), false, .ixS 1 (.s 80) (.v (.int .i64 1))⟩,
    ⟨(some 82), (some (79, false)), false, .ld false 1 (.s 81)⟩,
    ⟨(some 83), (some (79, false)), false, .len 0 (.s 82)⟩,
    ⟨(some 84), (some (79, false)), false, .bin .lss (.s 83) (.v (.int .i64 8))⟩,
    ⟨(some 85), none, false, .pick (.s 79) (.v (.bool true)) (.s 84)⟩,
    ⟨(some 86), none, false, .mv (.s 85)⟩,
    ⟨(some 87), (some (86, false)), false, .mv (.s 5)⟩,
    ⟨(some 88), (some (86, false)), false, .ixS 1 (.s 87) (.v (.int .i64 0))⟩,
    ⟨(some 89), (some (86, false)), false, .ld false 1 (.s 88)⟩,
    ⟨(some 90), (some (86, false)), false, .len 0 (.s 89)⟩,
    ⟨(some 91), (some (86, false)), false, .bin .gtr (.s 90) (.v (.int .i64 16))⟩,
    ⟨(some 92), none, false, .pick (.s 86) (.v (.bool true)) (.s 91)⟩,
    ⟨(some 93), none, false, .mv (.s 92)⟩,
    ⟨(some 94), (some (93, false)), false, .mv (.s 5)⟩,
    ⟨(some 95), (some (93, false)), false, .ixS 1 (.s 94) (.v (.int .i64 1))⟩,
    ⟨(some 96), (some (93, false)), false, .ld false 1 (.s 95)⟩,
    ⟨(some 97), (some (93, false)), false, .len 0 (.s 96)⟩,
    ⟨(some 98), (some (93, false)), false, .bin .gtr (.s 97) (.v (.int .i64 16))⟩,
    ⟨(some 99), none, false, .pick (.s 93) (.v (.bool true)) (.s 98)⟩])
def p_quartolaw14_ChunkJoins_9 : PC :=
  (.reg [4] [⟨(some 4), none, false, .mv (.v (.bool false))⟩])
def p_quartolaw14_ChunkJoins_10 : PC :=
  (.reg [5, 7, 8] [⟨(some 101), none, false, .mv (.s 5)⟩,
    ⟨(some 102), none, false, .ixS 1 (.s 101) (.v (.int .i64 0))⟩,
    ⟨(some 103), none, false, .ld false 1 (.s 102)⟩,
    ⟨(some 104), none, false, .mv (.s 5)⟩,
    ⟨(some 105), none, false, .ixS 1 (.s 104) (.v (.int .i64 1))⟩,
    ⟨(some 106), none, false, .ld false 1 (.s 105)⟩,
    ⟨(some 107), none, false, .call .norm (.v (.func (.func F_chunk_Join) [] [])) [(.s 103), (.s 106)]⟩,
    ⟨(some 100), none, false, .mv (.s 107)⟩,
    ⟨(some 108), none, false, .ext (.s 100) 0⟩,
    ⟨(some 109), none, false, .ext (.s 100) 1⟩,
    ⟨(some 7), none, false, .mv (.s 108)⟩,
    ⟨(some 8), none, false, .mv (.s 109)⟩])
def p_quartolaw14_ChunkJoins_11 : PC :=
  (.reg [4] [⟨(some 110), none, false, .mv (.s 8)⟩,
    ⟨(some 111), none, false, .bin .eql (.s 110) (.v (.int .i64 0))⟩,
    ⟨(some 112), none, false, .mv (.s 111)⟩,
    ⟨(some 113), (some (112, true)), false, .mv (.s 5)⟩,
    ⟨(some 114), (some (112, true)), false, .mv (.s 7)⟩,
    ⟨(some 115), (some (112, true)), false, .call .norm (.v (.func (.func F_quartoref14_Texts) [] [])) [(.s 113), (.s 114)]⟩,
    ⟨(some 116), none, false, .pick (.s 112) (.s 115) (.v (.bool false))⟩,
    ⟨(some 117), none, false, .mv (.s 116)⟩,
    ⟨(some 118), (some (117, true)), false, .call .norm (.v (.func (.func F_quartolaw14_works) [] [])) []⟩,
    ⟨(some 119), none, false, .pick (.s 117) (.s 118) (.v (.bool false))⟩,
    ⟨(some 4), none, false, .mv (.s 119)⟩])
def p_quartolaw14_ChunkJoins : PF := ⟨false,
  (.seq p_quartolaw14_ChunkJoins_0
  (.seq p_quartolaw14_ChunkJoins_1
  (.seq (.seq p_quartolaw14_ChunkJoins_2
  (.ite (.s 32)
    (.seq p_quartolaw14_ChunkJoins_3
    .ret)
    .skip))
  (.seq (.seq p_quartolaw14_ChunkJoins_4
  (.ite (.s 64)
    (.seq p_quartolaw14_ChunkJoins_5
    .ret)
    .skip))
  (.seq (.seq p_quartolaw14_ChunkJoins_6
  (.ite (.s 67)
    (.seq p_quartolaw14_ChunkJoins_7
    .ret)
    .skip))
  (.seq (.seq p_quartolaw14_ChunkJoins_8
  (.ite (.s 99)
    (.seq p_quartolaw14_ChunkJoins_9
    .ret)
    .skip))
  (.seq p_quartolaw14_ChunkJoins_10
  (.seq p_quartolaw14_ChunkJoins_11
  .ret)))))))),
  [.s 4]⟩
theorem c_quartolaw14_ChunkJoins : compF Go.Proofs.Try.prog false h_quartolaw14_ChunkJoins Go.Proofs.Try.f10 = some p_quartolaw14_ChunkJoins := by kernel_rfl
/-- quarto/chunk.Even -/
def h_chunk_Even : List Hint := [⟨[0, 1], [], [], [], [], []⟩, ⟨[0, 1, 11], [], [], [], [], []⟩, ⟨[4, 5], [], [], [], [], []⟩, ⟨[0, 1, 13], [], [], [], [], []⟩, ⟨[4, 5], [], [], [], [], []⟩, ⟨[4, 5], [], [], [], [], []⟩]
def p_chunk_Even_0 : PC :=
  (.reg [0, 1] [⟨(some 4), none, false, .mv (.v .nils)⟩,
    ⟨(some 5), none, false, .mv (.v (.int .i64 0))⟩])
def p_chunk_Even_1 : PC :=
  (.reg [0, 1, 11] [⟨(some 6), none, false, .mv (.s 0)⟩,
    ⟨(some 7), none, false, .bin .lss (.s 6) (.v (.int .i64 0))⟩,
    ⟨(some 8), none, false, .mv (.s 7)⟩,
    ⟨(some 9), (some (8, false)), false, .mv (.s 1)⟩,
    ⟨(some 10), (some (8, false)), false, .bin .lss (.s 9) (.v (.int .i64 1))⟩,
    ⟨(some 11), none, false, .pick (.s 8) (.v (.bool true)) (.s 10)⟩])
def p_chunk_Even_2 : PC :=
  (.reg [4, 5] [⟨(some 4), none, false, .mv (.v .nils)⟩,
    ⟨(some 5), none, false, .mv (.v (.int .i64 2))⟩])
def p_chunk_Even_3 : PC :=
  (.reg [0, 1, 13] [⟨(some 12), none, false, .mv (.s 0)⟩,
    ⟨(some 13), none, false, .bin .gtr (.s 12) (.v (.int .i64 65536))⟩])
def p_chunk_Even_4 : PC :=
  (.reg [4, 5] [⟨(some 4), none, false, .mv (.v .nils)⟩,
    ⟨(some 5), none, false, .mv (.v (.int .i64 5))⟩])
def p_chunk_Even_5 : PC :=
  (.reg [4, 5] [⟨(some 14), none, false, .mv (.s 0)⟩,
    ⟨(some 15), none, false, .mv (.s 1)⟩,
    ⟨(some 16), none, false, .call .norm (.v (.func (.func F_chunk_sizes) [] [])) [(.s 14), (.s 15)]⟩,
    ⟨(some 4), none, false, .mv (.s 16)⟩,
    ⟨(some 5), none, false, .mv (.v (.int .i64 0))⟩])
def p_chunk_Even : PF := ⟨false,
  (.seq p_chunk_Even_0
  (.seq (.seq p_chunk_Even_1
  (.ite (.s 11)
    (.seq p_chunk_Even_2
    .ret)
    .skip))
  (.seq (.seq p_chunk_Even_3
  (.ite (.s 13)
    (.seq p_chunk_Even_4
    .ret)
    .skip))
  (.seq p_chunk_Even_5
  .ret)))),
  [.s 4, .s 5]⟩
theorem c_chunk_Even : compF Go.Proofs.Try.prog false h_chunk_Even Go.Proofs.Try.f11 = some p_chunk_Even := by kernel_rfl
/-- quarto/quartoref14.Even -/
def h_quartoref14_Even : List Hint := [⟨[0, 1], [], [], [], [], []⟩, ⟨[0, 1, 11], [], [], [], [], []⟩, ⟨[4, 5], [], [], [], [], []⟩, ⟨[0, 1, 13], [], [], [], [], []⟩, ⟨[4, 5], [], [], [], [], []⟩, ⟨[4, 5], [], [], [], [], []⟩]
def p_quartoref14_Even_0 : PC :=
  (.reg [0, 1] [⟨(some 4), none, false, .mv (.v .nils)⟩,
    ⟨(some 5), none, false, .mv (.v (.int .i64 0))⟩])
def p_quartoref14_Even_1 : PC :=
  (.reg [0, 1, 11] [⟨(some 6), none, false, .mv (.s 0)⟩,
    ⟨(some 7), none, false, .bin .lss (.s 6) (.v (.int .i64 0))⟩,
    ⟨(some 8), none, false, .mv (.s 7)⟩,
    ⟨(some 9), (some (8, false)), false, .mv (.s 1)⟩,
    ⟨(some 10), (some (8, false)), false, .bin .lss (.s 9) (.v (.int .i64 1))⟩,
    ⟨(some 11), none, false, .pick (.s 8) (.v (.bool true)) (.s 10)⟩])
def p_quartoref14_Even_2 : PC :=
  (.reg [4, 5] [⟨(some 4), none, false, .mv (.v .nils)⟩,
    ⟨(some 5), none, false, .mv (.v (.int .i64 2))⟩])
def p_quartoref14_Even_3 : PC :=
  (.reg [0, 1, 13] [⟨(some 12), none, false, .mv (.s 0)⟩,
    ⟨(some 13), none, false, .bin .gtr (.s 12) (.v (.int .i64 65536))⟩])
def p_quartoref14_Even_4 : PC :=
  (.reg [4, 5] [⟨(some 4), none, false, .mv (.v .nils)⟩,
    ⟨(some 5), none, false, .mv (.v (.int .i64 5))⟩])
def p_quartoref14_Even_5 : PC :=
  (.reg [4, 5] [⟨(some 14), none, false, .mv (.s 0)⟩,
    ⟨(some 15), none, false, .mv (.s 1)⟩,
    ⟨(some 16), none, false, .call .norm (.v (.func (.func F_quartoref14_Sizes) [] [])) [(.s 14), (.s 15)]⟩,
    ⟨(some 4), none, false, .mv (.s 16)⟩,
    ⟨(some 5), none, false, .mv (.v (.int .i64 0))⟩])
def p_quartoref14_Even : PF := ⟨false,
  (.seq p_quartoref14_Even_0
  (.seq (.seq p_quartoref14_Even_1
  (.ite (.s 11)
    (.seq p_quartoref14_Even_2
    .ret)
    .skip))
  (.seq (.seq p_quartoref14_Even_3
  (.ite (.s 13)
    (.seq p_quartoref14_Even_4
    .ret)
    .skip))
  (.seq p_quartoref14_Even_5
  .ret)))),
  [.s 4, .s 5]⟩
theorem c_quartoref14_Even : compF Go.Proofs.Try.prog false h_quartoref14_Even Go.Proofs.Try.f12 = some p_quartoref14_Even := by kernel_rfl
/-- quarto/quartoref14.Ints -/
def h_quartoref14_Ints : List Hint := [⟨[0, 1], [], [], [], [], []⟩, ⟨[0, 1, 10], [], [], [], [], []⟩, ⟨[4], [], [], [], [], []⟩, ⟨[0, 1, 5], [], [], [], [], []⟩, ⟨[0, 1, 5, 14], [], [], [], [], []⟩, ⟨[0, 1, 5, 25], [], [], [], [], []⟩, ⟨[4], [], [], [], [], []⟩, ⟨[0, 1, 5], [], [], [], [], []⟩, ⟨[4], [], [], [], [], []⟩]
def p_quartoref14_Ints_0 : PC :=
  (.reg [0, 1] [⟨(some 4), none, false, .mv (.v (.bool false))⟩])
def p_quartoref14_Ints_1 : PC :=
  (.reg [0, 1, 10] [⟨(some 6), none, false, .mv (.s 0)⟩,
    ⟨(some 7), none, false, .len 1 (.s 6)⟩,
    ⟨(some 8), none, false, .mv (.s 1)⟩,
    ⟨(some 9), none, false, .len 1 (.s 8)⟩,
    ⟨(some 10), none, false, .bin .neq (.s 7) (.s 9)⟩])
def p_quartoref14_Ints_2 : PC :=
  (.reg [4] [⟨(some 4), none, false, .mv (.v (.bool false))⟩])
def p_quartoref14_Ints_3 : PC :=
  (.reg [0, 1, 5] [⟨(some 5), none, false, .mv (.v (.int .i64 0))⟩])
def p_quartoref14_Ints_4 : PC :=
  (.reg [0, 1, 5, 14] [⟨(some 11), none, false, .mv (.s 5)⟩,
    ⟨(some 12), none, false, .mv (.s 0)⟩,
    ⟨(some 13), none, false, .len 1 (.s 12)⟩,
    ⟨(some 14), none, false, .bin .lss (.s 11) (.s 13)⟩])
def p_quartoref14_Ints_5 : PC :=
  (.reg [0, 1, 5, 25] [⟨(some 17), none, false, .mv (.s 0)⟩,
    ⟨(some 18), none, false, .mv (.s 5)⟩,
    ⟨(some 19), none, false, .ixS 1 (.s 17) (.s 18)⟩,
    ⟨(some 20), none, false, .ld false 1 (.s 19)⟩,
    ⟨(some 21), none, false, .mv (.s 1)⟩,
    ⟨(some 22), none, false, .mv (.s 5)⟩,
    ⟨(some 23), none, false, .ixS 1 (.s 21) (.s 22)⟩,
    ⟨(some 24), none, false, .ld false 1 (.s 23)⟩,
    ⟨(some 25), none, false, .bin .neq (.s 20) (.s 24)⟩])
def p_quartoref14_Ints_6 : PC :=
  (.reg [4] [⟨(some 4), none, false, .mv (.v (.bool false))⟩])
def p_quartoref14_Ints_7 : PC :=
  (.reg [0, 1, 5] [⟨(some 15), none, false, .mv (.s 5)⟩,
    ⟨(some 16), none, false, .bin .add (.s 15) (.v (.int .i64 1))⟩,
    ⟨(some 5), none, false, .mv (.s 16)⟩])
def p_quartoref14_Ints_8 : PC :=
  (.seq (.seq p_quartoref14_Ints_4
  (.ite (.s 14)
    .skip
    (.exit 0)))
  (.seq (.block 1
    (.seq p_quartoref14_Ints_5
    (.ite (.s 25)
      (.seq p_quartoref14_Ints_6
      .ret)
      .skip)))
  p_quartoref14_Ints_7))
def p_quartoref14_Ints_9 : PC :=
  (.reg [4] [⟨(some 4), none, false, .mv (.v (.bool true))⟩])
def p_quartoref14_Ints : PF := ⟨false,
  (.seq p_quartoref14_Ints_0
  (.seq (.seq p_quartoref14_Ints_1
  (.ite (.s 10)
    (.seq p_quartoref14_Ints_2
    .ret)
    .skip))
  (.seq (.seq p_quartoref14_Ints_3
  (.block 0
    (.loop p_quartoref14_Ints_8)))
  (.seq p_quartoref14_Ints_9
  .ret)))),
  [.s 4]⟩
theorem c_quartoref14_Ints : compF Go.Proofs.Try.prog false h_quartoref14_Ints Go.Proofs.Try.f13 = some p_quartoref14_Ints := by kernel_rfl
/-- quarto/quartolaw14.works -/
def h_quartolaw14_works : List Hint := [⟨[], [], [], [], [], []⟩, ⟨[1], [], [], [], [], []⟩, ⟨[0], [], [], [], [], []⟩]
def p_quartolaw14_works_0 : PC :=
  (.reg [] [⟨(some 0), none, false, .mv (.v (.bool false))⟩])
def p_quartolaw14_works_1 : PC :=
  (.reg [1] [⟨(some 2), none, false, .call .norm (.v (.func (.func F_chunk_Chunks) [] [])) [(.v (.str [97, 98, 99, 100, 101, 102, 103, 104, 105, 106, 107, 108, 109, 110, 111, 112, 113]))]⟩,
    ⟨(some 1), none, false, .mv (.s 2)⟩])
def p_quartolaw14_works_2 : PC :=
  (.reg [0] [⟨(some 3), none, false, .mv (.s 1)⟩,
    ⟨(some 4), none, false, .len 1 (.s 3)⟩,
    ⟨(some 5), none, false, .bin .eql (.s 4) (.v (.int .i64 2))⟩,
    ⟨(some 6), none, false, .mv (.s 5)⟩,
    ⟨(some 7), (some (6, true)), false, .mv (.s 1)⟩,
    ⟨(some 8), (some (6, true)), false, .ixS 1 (.s 7) (.v (.int .i64 0))⟩,
    ⟨(some 9), (some (6, true)), false, .ld false 1 (.s 8)⟩,
    ⟨(some 10), (some (6, true)), false, .bin .eql (.s 9) (.v (.str [97, 98, 99, 100, 101, 102, 103, 104, 105]))⟩,
    ⟨(some 11), none, false, .pick (.s 6) (.s 10) (.v (.bool false))⟩,
    ⟨(some 12), none, false, .mv (.s 11)⟩,
    ⟨(some 13), (some (12, true)), false, .mv (.s 1)⟩,
    ⟨(some 14), (some (12, true)), false, .ixS 1 (.s 13) (.v (.int .i64 1))⟩,
    ⟨(some 15), (some (12, true)), false, .ld false 1 (.s 14)⟩,
    ⟨(some 16), (some (12, true)), false, .bin .eql (.s 15) (.v (.str [106, 107, 108, 109, 110, 111, 112, 113]))⟩,
    ⟨(some 17), none, false, .pick (.s 12) (.s 16) (.v (.bool false))⟩,
    ⟨(some 0), none, false, .mv (.s 17)⟩])
def p_quartolaw14_works : PF := ⟨false,
  (.seq p_quartolaw14_works_0
  (.seq p_quartolaw14_works_1
  (.seq p_quartolaw14_works_2
  .ret))),
  [.s 0]⟩
theorem c_quartolaw14_works : compF Go.Proofs.Try.prog false h_quartolaw14_works Go.Proofs.Try.f14 = some p_quartolaw14_works := by kernel_rfl
/-- quarto/quartoref14.Texts -/
def h_quartoref14_Texts : List Hint := [⟨[0, 1], [], [], [], [], []⟩, ⟨[0, 1, 10], [], [], [], [], []⟩, ⟨[4], [], [], [], [], []⟩, ⟨[0, 1, 5], [], [], [], [], []⟩, ⟨[0, 1, 5, 14], [], [], [], [], []⟩, ⟨[0, 1, 5, 25], [], [], [], [], []⟩, ⟨[4], [], [], [], [], []⟩, ⟨[0, 1, 5], [], [], [], [], []⟩, ⟨[4], [], [], [], [], []⟩]
def p_quartoref14_Texts_0 : PC :=
  (.reg [0, 1] [⟨(some 4), none, false, .mv (.v (.bool false))⟩])
def p_quartoref14_Texts_1 : PC :=
  (.reg [0, 1, 10] [⟨(some 6), none, false, .mv (.s 0)⟩,
    ⟨(some 7), none, false, .len 1 (.s 6)⟩,
    ⟨(some 8), none, false, .mv (.s 1)⟩,
    ⟨(some 9), none, false, .len 1 (.s 8)⟩,
    ⟨(some 10), none, false, .bin .neq (.s 7) (.s 9)⟩])
def p_quartoref14_Texts_2 : PC :=
  (.reg [4] [⟨(some 4), none, false, .mv (.v (.bool false))⟩])
def p_quartoref14_Texts_3 : PC :=
  (.reg [0, 1, 5] [⟨(some 5), none, false, .mv (.v (.int .i64 0))⟩])
def p_quartoref14_Texts_4 : PC :=
  (.reg [0, 1, 5, 14] [⟨(some 11), none, false, .mv (.s 5)⟩,
    ⟨(some 12), none, false, .mv (.s 0)⟩,
    ⟨(some 13), none, false, .len 1 (.s 12)⟩,
    ⟨(some 14), none, false, .bin .lss (.s 11) (.s 13)⟩])
def p_quartoref14_Texts_5 : PC :=
  (.reg [0, 1, 5, 25] [⟨(some 17), none, false, .mv (.s 0)⟩,
    ⟨(some 18), none, false, .mv (.s 5)⟩,
    ⟨(some 19), none, false, .ixS 1 (.s 17) (.s 18)⟩,
    ⟨(some 20), none, false, .ld false 1 (.s 19)⟩,
    ⟨(some 21), none, false, .mv (.s 1)⟩,
    ⟨(some 22), none, false, .mv (.s 5)⟩,
    ⟨(some 23), none, false, .ixS 1 (.s 21) (.s 22)⟩,
    ⟨(some 24), none, false, .ld false 1 (.s 23)⟩,
    ⟨(some 25), none, false, .bin .neq (.s 20) (.s 24)⟩])
def p_quartoref14_Texts_6 : PC :=
  (.reg [4] [⟨(some 4), none, false, .mv (.v (.bool false))⟩])
def p_quartoref14_Texts_7 : PC :=
  (.reg [0, 1, 5] [⟨(some 15), none, false, .mv (.s 5)⟩,
    ⟨(some 16), none, false, .bin .add (.s 15) (.v (.int .i64 1))⟩,
    ⟨(some 5), none, false, .mv (.s 16)⟩])
def p_quartoref14_Texts_8 : PC :=
  (.seq (.seq p_quartoref14_Texts_4
  (.ite (.s 14)
    .skip
    (.exit 0)))
  (.seq (.block 1
    (.seq p_quartoref14_Texts_5
    (.ite (.s 25)
      (.seq p_quartoref14_Texts_6
      .ret)
      .skip)))
  p_quartoref14_Texts_7))
def p_quartoref14_Texts_9 : PC :=
  (.reg [4] [⟨(some 4), none, false, .mv (.v (.bool true))⟩])
def p_quartoref14_Texts : PF := ⟨false,
  (.seq p_quartoref14_Texts_0
  (.seq (.seq p_quartoref14_Texts_1
  (.ite (.s 10)
    (.seq p_quartoref14_Texts_2
    .ret)
    .skip))
  (.seq (.seq p_quartoref14_Texts_3
  (.block 0
    (.loop p_quartoref14_Texts_8)))
  (.seq p_quartoref14_Texts_9
  .ret)))),
  [.s 4]⟩
theorem c_quartoref14_Texts : compF Go.Proofs.Try.prog false h_quartoref14_Texts Go.Proofs.Try.f15 = some p_quartoref14_Texts := by kernel_rfl
/-- quarto/chunk.Chunks -/
def h_chunk_Chunks : List Hint := [⟨[0], [], [], [], [], []⟩, ⟨[0, 3], [0], [], [], [], []⟩, ⟨[0, 3, 8, 9, 10], [], [], [], [], []⟩, ⟨[0, 3, 8, 9, 10, 11], [], [], [], [], []⟩, ⟨[0, 3, 5, 8, 9, 10], [], [], [], [], []⟩, ⟨[0, 3, 5, 8, 9, 10], [], [], [], [], []⟩, ⟨[0, 3, 8, 9, 10], [], [], [], [], []⟩, ⟨[0, 3, 8, 9, 10], [], [], [], [], []⟩, ⟨[2], [], [], [], [], []⟩]
def p_chunk_Chunks_0 : PC :=
  (.reg [0] [⟨(some 2), none, false, .mv (.v .nils)⟩])
def p_chunk_Chunks_1 : PC :=
  (.reg [0, 3] [⟨(some 3), none, false, .onil 1⟩])
def p_chunk_Chunks_2 : PC :=
  (.reg [0, 3, 8, 9, 10] [⟨(some 6), none, false, .mv (.s 0)⟩,
    ⟨(some 7), none, false, .len 0 (.s 6)⟩,
    ⟨(some 8), none, false, .call .norm (.v (.func (.func F_chunk_sizes) [] [])) [(.s 7), (.v (.int .i64 16))]⟩,
    ⟨(some 9), none, false, .len 1 (.s 8)⟩,
    ⟨(some 10), none, false, .mv (.v (.int .i64 0))⟩])
def p_chunk_Chunks_3 : PC :=
  (.reg [0, 3, 8, 9, 10, 11] [⟨(some 11), none, false, .bin .lss (.s 10) (.s 9)⟩])
def p_chunk_Chunks_4 : PC :=
  (.reg [0, 3, 5, 8, 9, 10] [⟨(some 12), none, false, .ixS 1 (.s 8) (.s 10)⟩,
    ⟨(some 13), none, false, .ld false 1 (.s 12)⟩,
    ⟨(some 5), none, false, .mv (.s 13)⟩])
def p_chunk_Chunks_5 : PC :=
  (.reg [0, 3, 5, 8, 9, 10] [⟨(some 14), none, false, .mv (.s 3)⟩,
    ⟨(some 15), none, false, .mv (.s 0)⟩,
    ⟨(some 16), none, false, .mv (.s 5)⟩,
    ⟨(some 17), none, false, .slcS (.s 15) none (some (.s 16))⟩,
    ⟨(some 18), none, false, .bslice false 1 [(.str [])] [(0, (.s 17))]⟩,
    ⟨(some 19), none, false, .app 1 16 (.s 14) (.s 18)⟩,
    ⟨(some 3), none, false, .mv (.s 19)⟩])
def p_chunk_Chunks_6 : PC :=
  (.reg [0, 3, 8, 9, 10] [⟨(some 20), none, false, .mv (.s 0)⟩,
    ⟨(some 21), none, false, .mv (.s 5)⟩,
    ⟨(some 22), none, false, .slcS (.s 20) (some (.s 21)) none⟩,
    ⟨(some 0), none, false, .mv (.s 22)⟩])
def p_chunk_Chunks_7 : PC :=
  (.reg [0, 3, 8, 9, 10] [⟨(some 23), none, false, .bin .add (.s 10) (.v (.int .i64 1))⟩,
    ⟨(some 10), none, false, .mv (.s 23)⟩])
def p_chunk_Chunks_8 : PC :=
  (.seq p_chunk_Chunks_3
  (.seq (.ite (.s 11)
    .skip
    (.exit 0))
  (.seq (.block 1
    (.seq p_chunk_Chunks_4
    (.seq p_chunk_Chunks_5
    p_chunk_Chunks_6)))
  p_chunk_Chunks_7)))
def p_chunk_Chunks_9 : PC :=
  (.reg [2] [⟨(some 24), none, false, .mv (.s 3)⟩,
    ⟨(some 2), none, false, .mv (.s 24)⟩])
def p_chunk_Chunks : PF := ⟨false,
  (.seq p_chunk_Chunks_0
  (.seq p_chunk_Chunks_1
  (.seq (.seq p_chunk_Chunks_2
  (.block 0
    (.loop p_chunk_Chunks_8)))
  (.seq p_chunk_Chunks_9
  .ret)))),
  [.s 2]⟩
theorem c_chunk_Chunks : compF Go.Proofs.Try.prog false h_chunk_Chunks Go.Proofs.Try.f16 = some p_chunk_Chunks := by kernel_rfl
/-- quarto/quartoref14.Chunks -/
def h_quartoref14_Chunks : List Hint := [⟨[0], [], [], [], [], []⟩, ⟨[0, 3], [0], [], [], [], []⟩, ⟨[0, 3, 4], [], [], [], [], []⟩, ⟨[0, 3, 4, 5], [], [], [], [], []⟩, ⟨[0, 3, 4, 5, 12], [], [], [], [], []⟩, ⟨[0, 3, 4, 5], [], [], [], [], []⟩, ⟨[0, 3, 4, 5], [], [], [], [], []⟩, ⟨[0, 3, 4, 5], [], [], [], [], []⟩, ⟨[2], [], [], [], [], []⟩]
def p_quartoref14_Chunks_0 : PC :=
  (.reg [0] [⟨(some 2), none, false, .mv (.v .nils)⟩])
def p_quartoref14_Chunks_1 : PC :=
  (.reg [0, 3] [⟨(some 3), none, false, .onil 1⟩])
def p_quartoref14_Chunks_2 : PC :=
  (.reg [0, 3, 4] [⟨(some 6), none, false, .mv (.s 0)⟩,
    ⟨(some 7), none, false, .len 0 (.s 6)⟩,
    ⟨(some 8), none, false, .call .norm (.v (.func (.func F_quartoref14_Sizes) [] [])) [(.s 7), (.v (.int .i64 16))]⟩,
    ⟨(some 4), none, false, .mv (.s 8)⟩])
def p_quartoref14_Chunks_3 : PC :=
  (.reg [0, 3, 4, 5] [⟨(some 5), none, false, .mv (.v (.int .i64 0))⟩])
def p_quartoref14_Chunks_4 : PC :=
  (.reg [0, 3, 4, 5, 12] [⟨(some 9), none, false, .mv (.s 5)⟩,
    ⟨(some 10), none, false, .mv (.s 4)⟩,
    ⟨(some 11), none, false, .len 1 (.s 10)⟩,
    ⟨(some 12), none, false, .bin .lss (.s 9) (.s 11)⟩])
def p_quartoref14_Chunks_5 : PC :=
  (.reg [0, 3, 4, 5] [⟨(some 15), none, false, .mv (.s 3)⟩,
    ⟨(some 16), none, false, .mv (.s 0)⟩,
    ⟨(some 17), none, false, .mv (.s 4)⟩,
    ⟨(some 18), none, false, .mv (.s 5)⟩,
    ⟨(some 19), none, false, .ixS 1 (.s 17) (.s 18)⟩,
    ⟨(some 20), none, false, .ld false 1 (.s 19)⟩,
    ⟨(some 21), none, false, .slcS (.s 16) none (some (.s 20))⟩,
    ⟨(some 22), none, false, .bslice false 1 [(.str [])] [(0, (.s 21))]⟩,
    ⟨(some 23), none, false, .app 1 16 (.s 15) (.s 22)⟩,
    ⟨(some 3), none, false, .mv (.s 23)⟩])
def p_quartoref14_Chunks_6 : PC :=
  (.reg [0, 3, 4, 5] [⟨(some 24), none, false, .mv (.s 0)⟩,
    ⟨(some 25), none, false, .mv (.s 4)⟩,
    ⟨(some 26), none, false, .mv (.s 5)⟩,
    ⟨(some 27), none, false, .ixS 1 (.s 25) (.s 26)⟩,
    ⟨(some 28), none, false, .ld false 1 (.s 27)⟩,
    ⟨(some 29), none, false, .slcS (.s 24) (some (.s 28)) none⟩,
    ⟨(some 0), none, false, .mv (.s 29)⟩])
def p_quartoref14_Chunks_7 : PC :=
  (.reg [0, 3, 4, 5] [⟨(some 13), none, false, .mv (.s 5)⟩,
    ⟨(some 14), none, false, .bin .add (.s 13) (.v (.int .i64 1))⟩,
    ⟨(some 5), none, false, .mv (.s 14)⟩])
def p_quartoref14_Chunks_8 : PC :=
  (.seq (.seq p_quartoref14_Chunks_4
  (.ite (.s 12)
    .skip
    (.exit 0)))
  (.seq (.block 1
    (.seq p_quartoref14_Chunks_5
    p_quartoref14_Chunks_6))
  p_quartoref14_Chunks_7))
def p_quartoref14_Chunks_9 : PC :=
  (.reg [2] [⟨(some 30), none, false, .mv (.s 3)⟩,
    ⟨(some 2), none, false, .mv (.s 30)⟩])
def p_quartoref14_Chunks : PF := ⟨false,
  (.seq p_quartoref14_Chunks_0
  (.seq p_quartoref14_Chunks_1
  (.seq p_quartoref14_Chunks_2
  (.seq (.seq p_quartoref14_Chunks_3
  (.block 0
    (.loop p_quartoref14_Chunks_8)))
  (.seq p_quartoref14_Chunks_9
  .ret))))),
  [.s 2]⟩
theorem c_quartoref14_Chunks : compF Go.Proofs.Try.prog false h_quartoref14_Chunks Go.Proofs.Try.f17 = some p_quartoref14_Chunks := by kernel_rfl
/-- quarto/chunk.Join -/
def h_chunk_Join : List Hint := [⟨[0, 1], [], [], [], [], []⟩, ⟨[0, 1, 15], [], [], [], [], []⟩, ⟨[4, 5], [], [], [], [], []⟩, ⟨[0, 1, 6], [], [], [], [], []⟩, ⟨[0, 1, 6, 21], [], [], [], [], []⟩, ⟨[4, 5], [], [], [], [], []⟩, ⟨[0, 1, 6, 31], [], [], [], [], []⟩, ⟨[4, 5], [], [], [], [], []⟩, ⟨[6, 7], [], [], [], [], []⟩, ⟨[4, 5], [], [], [], [], []⟩]
def p_chunk_Join_0 : PC :=
  (.reg [0, 1] [⟨(some 4), none, false, .mv (.v .nils)⟩,
    ⟨(some 5), none, false, .mv (.v (.int .i64 0))⟩])
def p_chunk_Join_1 : PC :=
  (.reg [0, 1, 15] [⟨(some 8), none, false, .mv (.s 0)⟩,
    ⟨(some 9), none, false, .call .norm (.v (.func (.func F_chunk_leaf) [] [])) [(.s 8)]⟩,
    ⟨(some 10), none, false, .un .not (.s 9)⟩,
    ⟨(some 11), none, false, .mv (.s 10)⟩,
    ⟨(some 12), (some (11, false)), false, .mv (.s 1)⟩,
    ⟨(some 13), (some (11, false)), false, .call .norm (.v (.func (.func F_chunk_leaf) [] [])) [(.s 12)]⟩,
    ⟨(some 14), (some (11, false)), false, .un .not (.s 13)⟩,
    ⟨(some 15), none, false, .pick (.s 11) (.v (.bool true)) (.s 14)⟩])
def p_chunk_Join_2 : PC :=
  (.reg [4, 5] [⟨(some 4), none, false, .mv (.v .nils)⟩,
    ⟨(some 5), none, false, .mv (.v (.int .i64 2))⟩])
def p_chunk_Join_3 : PC :=
  (.reg [0, 1, 6] [⟨(some 16), none, false, .mv (.s 0)⟩,
    ⟨(some 17), none, false, .mv (.s 1)⟩,
    ⟨(some 18), none, false, .bin .add (.s 16) (.s 17)⟩,
    ⟨(some 6), none, false, .mv (.s 18)⟩])
def p_chunk_Join_4 : PC :=
  (.reg [0, 1, 6, 21] [⟨(some 19), none, false, .mv (.s 6)⟩,
    ⟨(some 20), none, false, .len 0 (.s 19)⟩,
    ⟨(some 21), none, false, .bin .leq (.s 20) (.v (.int .i64 16))⟩])
def p_chunk_Join_5 : PC :=
  (.reg [4, 5] [⟨(some 22), none, false, .mv (.s 6)⟩,
    ⟨(some 23), none, false, .bslice false 1 [(.str [])] [(0, (.s 22))]⟩,
    ⟨(some 4), none, false, .mv (.s 23)⟩,
    ⟨(some 5), none, false, .mv (.v (.int .i64 0))⟩])
def p_chunk_Join_6 : PC :=
  (.reg [0, 1, 6, 31] [⟨(some 24), none, false, .mv (.s 0)⟩,
    ⟨(some 25), none, false, .len 0 (.s 24)⟩,
    ⟨(some 26), none, false, .bin .geq (.s 25) (.v (.int .i64 8))⟩,
    ⟨(some 27), none, false, .mv (.s 26)⟩,
    ⟨(some 28), (some (27, true)), false, .mv (.s 1)⟩,
    ⟨(some 29), (some (27, true)), false, .len 0 (.s 28)⟩,
    ⟨(some 30), (some (27, true)), false, .bin .geq (.s 29) (.v (.int .i64 8))⟩,
    ⟨(some 31), none, false, .pick (.s 27) (.s 30) (.v (.bool false))⟩])
def p_chunk_Join_7 : PC :=
  (.reg [4, 5] [⟨(some 32), none, false, .mv (.s 0)⟩,
    ⟨(some 33), none, false, .mv (.s 1)⟩,
    ⟨(some 34), none, false, .bslice false 1 [(.str []), (.str [])] [(0, (.s 32)), (1, (.s 33))]⟩,
    ⟨(some 4), none, false, .mv (.s 34)⟩,
    ⟨(some 5), none, false, .mv (.v (.int .i64 0))⟩])
def p_chunk_Join_8 : PC :=
  (.reg [6, 7] [⟨(some 35), none, false, .mv (.s 6)⟩,
    ⟨(some 36), none, false, .len 0 (.s 35)⟩,
    ⟨(some 37), none, false, .bin .add (.s 36) (.v (.int .i64 1))⟩,
    ⟨(some 38), none, false, .bin .quo (.s 37) (.v (.int .i64 2))⟩,
    ⟨(some 7), none, false, .mv (.s 38)⟩])
def p_chunk_Join_9 : PC :=
  (.reg [4, 5] [⟨(some 39), none, false, .mv (.s 6)⟩,
    ⟨(some 40), none, false, .mv (.s 7)⟩,
    ⟨(some 41), none, false, .slcS (.s 39) none (some (.s 40))⟩,
    ⟨(some 42), none, false, .mv (.s 6)⟩,
    ⟨(some 43), none, false, .mv (.s 7)⟩,
    ⟨(some 44), none, false, .slcS (.s 42) (some (.s 43)) none⟩,
    ⟨(some 45), none, false, .bslice false 1 [(.str []), (.str [])] [(0, (.s 41)), (1, (.s 44))]⟩,
    ⟨(some 4), none, false, .mv (.s 45)⟩,
    ⟨(some 5), none, false, .mv (.v (.int .i64 0))⟩])
def p_chunk_Join : PF := ⟨false,
  (.seq p_chunk_Join_0
  (.seq (.seq p_chunk_Join_1
  (.ite (.s 15)
    (.seq p_chunk_Join_2
    .ret)
    .skip))
  (.seq p_chunk_Join_3
  (.seq (.seq p_chunk_Join_4
  (.ite (.s 21)
    (.seq p_chunk_Join_5
    .ret)
    .skip))
  (.seq (.seq p_chunk_Join_6
  (.ite (.s 31)
    (.seq p_chunk_Join_7
    .ret)
    .skip))
  (.seq p_chunk_Join_8
  (.seq p_chunk_Join_9
  .ret))))))),
  [.s 4, .s 5]⟩
theorem c_chunk_Join : compF Go.Proofs.Try.prog false h_chunk_Join Go.Proofs.Try.f18 = some p_chunk_Join := by kernel_rfl
/-- quarto/quartoref14.Join -/
def h_quartoref14_Join : List Hint := [⟨[0, 1], [], [], [], [], []⟩, ⟨[0, 1, 15], [], [], [], [], []⟩, ⟨[4, 5], [], [], [], [], []⟩, ⟨[0, 1, 6], [], [], [], [], []⟩, ⟨[0, 1, 6, 21], [], [], [], [], []⟩, ⟨[4, 5], [], [], [], [], []⟩, ⟨[0, 1, 6, 31], [], [], [], [], []⟩, ⟨[4, 5], [], [], [], [], []⟩, ⟨[6, 7], [], [], [], [], []⟩, ⟨[4, 5], [], [], [], [], []⟩]
def p_quartoref14_Join_0 : PC :=
  (.reg [0, 1] [⟨(some 4), none, false, .mv (.v .nils)⟩,
    ⟨(some 5), none, false, .mv (.v (.int .i64 0))⟩])
def p_quartoref14_Join_1 : PC :=
  (.reg [0, 1, 15] [⟨(some 8), none, false, .mv (.s 0)⟩,
    ⟨(some 9), none, false, .call .norm (.v (.func (.func F_quartoref14_Leaf) [] [])) [(.s 8)]⟩,
    ⟨(some 10), none, false, .un .not (.s 9)⟩,
    ⟨(some 11), none, false, .mv (.s 10)⟩,
    ⟨(some 12), (some (11, false)), false, .mv (.s 1)⟩,
    ⟨(some 13), (some (11, false)), false, .call .norm (.v (.func (.func F_quartoref14_Leaf) [] [])) [(.s 12)]⟩,
    ⟨(some 14), (some (11, false)), false, .un .not (.s 13)⟩,
    ⟨(some 15), none, false, .pick (.s 11) (.v (.bool true)) (.s 14)⟩])
def p_quartoref14_Join_2 : PC :=
  (.reg [4, 5] [⟨(some 4), none, false, .mv (.v .nils)⟩,
    ⟨(some 5), none, false, .mv (.v (.int .i64 2))⟩])
def p_quartoref14_Join_3 : PC :=
  (.reg [0, 1, 6] [⟨(some 16), none, false, .mv (.s 0)⟩,
    ⟨(some 17), none, false, .mv (.s 1)⟩,
    ⟨(some 18), none, false, .bin .add (.s 16) (.s 17)⟩,
    ⟨(some 6), none, false, .mv (.s 18)⟩])
def p_quartoref14_Join_4 : PC :=
  (.reg [0, 1, 6, 21] [⟨(some 19), none, false, .mv (.s 6)⟩,
    ⟨(some 20), none, false, .len 0 (.s 19)⟩,
    ⟨(some 21), none, false, .bin .leq (.s 20) (.v (.int .i64 16))⟩])
def p_quartoref14_Join_5 : PC :=
  (.reg [4, 5] [⟨(some 22), none, false, .mv (.s 6)⟩,
    ⟨(some 23), none, false, .bslice false 1 [(.str [])] [(0, (.s 22))]⟩,
    ⟨(some 4), none, false, .mv (.s 23)⟩,
    ⟨(some 5), none, false, .mv (.v (.int .i64 0))⟩])
def p_quartoref14_Join_6 : PC :=
  (.reg [0, 1, 6, 31] [⟨(some 24), none, false, .mv (.s 0)⟩,
    ⟨(some 25), none, false, .len 0 (.s 24)⟩,
    ⟨(some 26), none, false, .bin .geq (.s 25) (.v (.int .i64 8))⟩,
    ⟨(some 27), none, false, .mv (.s 26)⟩,
    ⟨(some 28), (some (27, true)), false, .mv (.s 1)⟩,
    ⟨(some 29), (some (27, true)), false, .len 0 (.s 28)⟩,
    ⟨(some 30), (some (27, true)), false, .bin .geq (.s 29) (.v (.int .i64 8))⟩,
    ⟨(some 31), none, false, .pick (.s 27) (.s 30) (.v (.bool false))⟩])
def p_quartoref14_Join_7 : PC :=
  (.reg [4, 5] [⟨(some 32), none, false, .mv (.s 0)⟩,
    ⟨(some 33), none, false, .mv (.s 1)⟩,
    ⟨(some 34), none, false, .bslice false 1 [(.str []), (.str [])] [(0, (.s 32)), (1, (.s 33))]⟩,
    ⟨(some 4), none, false, .mv (.s 34)⟩,
    ⟨(some 5), none, false, .mv (.v (.int .i64 0))⟩])
def p_quartoref14_Join_8 : PC :=
  (.reg [6, 7] [⟨(some 35), none, false, .mv (.s 6)⟩,
    ⟨(some 36), none, false, .len 0 (.s 35)⟩,
    ⟨(some 37), none, false, .bin .add (.s 36) (.v (.int .i64 1))⟩,
    ⟨(some 38), none, false, .bin .quo (.s 37) (.v (.int .i64 2))⟩,
    ⟨(some 7), none, false, .mv (.s 38)⟩])
def p_quartoref14_Join_9 : PC :=
  (.reg [4, 5] [⟨(some 39), none, false, .mv (.s 6)⟩,
    ⟨(some 40), none, false, .mv (.s 7)⟩,
    ⟨(some 41), none, false, .slcS (.s 39) none (some (.s 40))⟩,
    ⟨(some 42), none, false, .mv (.s 6)⟩,
    ⟨(some 43), none, false, .mv (.s 7)⟩,
    ⟨(some 44), none, false, .slcS (.s 42) (some (.s 43)) none⟩,
    ⟨(some 45), none, false, .bslice false 1 [(.str []), (.str [])] [(0, (.s 41)), (1, (.s 44))]⟩,
    ⟨(some 4), none, false, .mv (.s 45)⟩,
    ⟨(some 5), none, false, .mv (.v (.int .i64 0))⟩])
def p_quartoref14_Join : PF := ⟨false,
  (.seq p_quartoref14_Join_0
  (.seq (.seq p_quartoref14_Join_1
  (.ite (.s 15)
    (.seq p_quartoref14_Join_2
    .ret)
    .skip))
  (.seq p_quartoref14_Join_3
  (.seq (.seq p_quartoref14_Join_4
  (.ite (.s 21)
    (.seq p_quartoref14_Join_5
    .ret)
    .skip))
  (.seq (.seq p_quartoref14_Join_6
  (.ite (.s 31)
    (.seq p_quartoref14_Join_7
    .ret)
    .skip))
  (.seq p_quartoref14_Join_8
  (.seq p_quartoref14_Join_9
  .ret))))))),
  [.s 4, .s 5]⟩
theorem c_quartoref14_Join : compF Go.Proofs.Try.prog false h_quartoref14_Join Go.Proofs.Try.f19 = some p_quartoref14_Join := by kernel_rfl
/-- quarto/chunk.Cut -/
def h_chunk_Cut : List Hint := [⟨[0, 1], [], [], [], [], []⟩, ⟨[0, 1, 9], [], [], [], [], []⟩, ⟨[4, 5, 6], [], [], [], [], []⟩, ⟨[0, 1, 17], [], [], [], [], []⟩, ⟨[4, 5, 6], [], [], [], [], []⟩, ⟨[4, 5, 6], [], [], [], [], []⟩]
def p_chunk_Cut_0 : PC :=
  (.reg [0, 1] [⟨(some 4), none, false, .mv (.v (.str []))⟩,
    ⟨(some 5), none, false, .mv (.v (.str []))⟩,
    ⟨(some 6), none, false, .mv (.v (.int .i64 0))⟩])
def p_chunk_Cut_1 : PC :=
  (.reg [0, 1, 9] [⟨(some 7), none, false, .mv (.s 0)⟩,
    ⟨(some 8), none, false, .call .norm (.v (.func (.func F_chunk_leaf) [] [])) [(.s 7)]⟩,
    ⟨(some 9), none, false, .un .not (.s 8)⟩])
def p_chunk_Cut_2 : PC :=
  (.reg [4, 5, 6] [⟨(some 4), none, false, .mv (.v (.str []))⟩,
    ⟨(some 5), none, false, .mv (.v (.str []))⟩,
    ⟨(some 6), none, false, .mv (.v (.int .i64 2))⟩])
def p_chunk_Cut_3 : PC :=
  (.reg [0, 1, 17] [⟨(some 10), none, false, .mv (.s 1)⟩,
    ⟨(some 11), none, false, .bin .lss (.s 10) (.v (.int .i64 0))⟩,
    ⟨(some 12), none, false, .mv (.s 11)⟩,
    ⟨(some 13), (some (12, false)), false, .mv (.s 1)⟩,
    ⟨(some 14), (some (12, false)), false, .mv (.s 0)⟩,
    ⟨(some 15), (some (12, false)), false, .len 0 (.s 14)⟩,
    ⟨(some 16), (some (12, false)), false, .bin .gtr (.s 13) (.s 15)⟩,
    ⟨(some 17), none, false, .pick (.s 12) (.v (.bool true)) (.s 16)⟩])
def p_chunk_Cut_4 : PC :=
  (.reg [4, 5, 6] [⟨(some 4), none, false, .mv (.v (.str []))⟩,
    ⟨(some 5), none, false, .mv (.v (.str []))⟩,
    ⟨(some 6), none, false, .mv (.v (.int .i64 3))⟩])
def p_chunk_Cut_5 : PC :=
  (.reg [4, 5, 6] [⟨(some 18), none, false, .mv (.s 0)⟩,
    ⟨(some 19), none, false, .mv (.s 1)⟩,
    ⟨(some 20), none, false, .slcS (.s 18) none (some (.s 19))⟩,
    ⟨(some 21), none, false, .mv (.s 0)⟩,
    ⟨(some 22), none, false, .mv (.s 1)⟩,
    ⟨(some 23), none, false, .slcS (.s 21) (some (.s 22)) none⟩,
    ⟨(some 4), none, false, .mv (.s 20)⟩,
    ⟨(some 5), none, false, .mv (.s 23)⟩,
    ⟨(some 6), none, false, .mv (.v (.int .i64 0))⟩])
def p_chunk_Cut : PF := ⟨false,
  (.seq p_chunk_Cut_0
  (.seq (.seq p_chunk_Cut_1
  (.ite (.s 9)
    (.seq p_chunk_Cut_2
    .ret)
    .skip))
  (.seq (.seq p_chunk_Cut_3
  (.ite (.s 17)
    (.seq p_chunk_Cut_4
    .ret)
    .skip))
  (.seq p_chunk_Cut_5
  .ret)))),
  [.s 4, .s 5, .s 6]⟩
theorem c_chunk_Cut : compF Go.Proofs.Try.prog false h_chunk_Cut Go.Proofs.Try.f20 = some p_chunk_Cut := by kernel_rfl
/-- quarto/quartoref14.Cut -/
def h_quartoref14_Cut : List Hint := [⟨[0, 1], [], [], [], [], []⟩, ⟨[0, 1, 9], [], [], [], [], []⟩, ⟨[4, 5, 6], [], [], [], [], []⟩, ⟨[0, 1, 17], [], [], [], [], []⟩, ⟨[4, 5, 6], [], [], [], [], []⟩, ⟨[4, 5, 6], [], [], [], [], []⟩]
def p_quartoref14_Cut_0 : PC :=
  (.reg [0, 1] [⟨(some 4), none, false, .mv (.v (.str []))⟩,
    ⟨(some 5), none, false, .mv (.v (.str []))⟩,
    ⟨(some 6), none, false, .mv (.v (.int .i64 0))⟩])
def p_quartoref14_Cut_1 : PC :=
  (.reg [0, 1, 9] [⟨(some 7), none, false, .mv (.s 0)⟩,
    ⟨(some 8), none, false, .call .norm (.v (.func (.func F_quartoref14_Leaf) [] [])) [(.s 7)]⟩,
    ⟨(some 9), none, false, .un .not (.s 8)⟩])
def p_quartoref14_Cut_2 : PC :=
  (.reg [4, 5, 6] [⟨(some 4), none, false, .mv (.v (.str []))⟩,
    ⟨(some 5), none, false, .mv (.v (.str []))⟩,
    ⟨(some 6), none, false, .mv (.v (.int .i64 2))⟩])
def p_quartoref14_Cut_3 : PC :=
  (.reg [0, 1, 17] [⟨(some 10), none, false, .mv (.s 1)⟩,
    ⟨(some 11), none, false, .bin .lss (.s 10) (.v (.int .i64 0))⟩,
    ⟨(some 12), none, false, .mv (.s 11)⟩,
    ⟨(some 13), (some (12, false)), false, .mv (.s 1)⟩,
    ⟨(some 14), (some (12, false)), false, .mv (.s 0)⟩,
    ⟨(some 15), (some (12, false)), false, .len 0 (.s 14)⟩,
    ⟨(some 16), (some (12, false)), false, .bin .gtr (.s 13) (.s 15)⟩,
    ⟨(some 17), none, false, .pick (.s 12) (.v (.bool true)) (.s 16)⟩])
def p_quartoref14_Cut_4 : PC :=
  (.reg [4, 5, 6] [⟨(some 4), none, false, .mv (.v (.str []))⟩,
    ⟨(some 5), none, false, .mv (.v (.str []))⟩,
    ⟨(some 6), none, false, .mv (.v (.int .i64 3))⟩])
def p_quartoref14_Cut_5 : PC :=
  (.reg [4, 5, 6] [⟨(some 18), none, false, .mv (.s 0)⟩,
    ⟨(some 19), none, false, .mv (.s 1)⟩,
    ⟨(some 20), none, false, .slcS (.s 18) none (some (.s 19))⟩,
    ⟨(some 21), none, false, .mv (.s 0)⟩,
    ⟨(some 22), none, false, .mv (.s 1)⟩,
    ⟨(some 23), none, false, .slcS (.s 21) (some (.s 22)) none⟩,
    ⟨(some 4), none, false, .mv (.s 20)⟩,
    ⟨(some 5), none, false, .mv (.s 23)⟩,
    ⟨(some 6), none, false, .mv (.v (.int .i64 0))⟩])
def p_quartoref14_Cut : PF := ⟨false,
  (.seq p_quartoref14_Cut_0
  (.seq (.seq p_quartoref14_Cut_1
  (.ite (.s 9)
    (.seq p_quartoref14_Cut_2
    .ret)
    .skip))
  (.seq (.seq p_quartoref14_Cut_3
  (.ite (.s 17)
    (.seq p_quartoref14_Cut_4
    .ret)
    .skip))
  (.seq p_quartoref14_Cut_5
  .ret)))),
  [.s 4, .s 5, .s 6]⟩
theorem c_quartoref14_Cut : compF Go.Proofs.Try.prog false h_quartoref14_Cut Go.Proofs.Try.f21 = some p_quartoref14_Cut := by kernel_rfl
/-- quarto/quartoref14.Sizes -/
def h_quartoref14_Sizes : List Hint := [⟨[0, 1], [], [], [], [], []⟩, ⟨[0, 1, 10], [], [], [], [], []⟩, ⟨[4], [], [], [], [], []⟩, ⟨[0, 5], [], [], [], [], []⟩, ⟨[0, 5, 6], [0], [], [], [], []⟩, ⟨[0, 5, 6, 7], [], [], [], [], []⟩, ⟨[0, 5, 6, 7, 18], [], [], [], [], []⟩, ⟨[0, 5, 6, 7, 8], [], [], [], [], []⟩, ⟨[0, 5, 6, 7, 8, 28], [], [], [], [], []⟩, ⟨[0, 5, 6, 7, 8], [], [], [], [], []⟩, ⟨[0, 5, 6, 7], [], [], [], [], []⟩, ⟨[0, 5, 6, 7], [], [], [], [], []⟩, ⟨[4], [], [], [], [], []⟩]
def p_quartoref14_Sizes_0 : PC :=
  (.reg [0, 1] [⟨(some 4), none, false, .mv (.v .nils)⟩])
def p_quartoref14_Sizes_1 : PC :=
  (.reg [0, 1, 10] [⟨(some 9), none, false, .mv (.s 0)⟩,
    ⟨(some 10), none, false, .bin .eql (.s 9) (.v (.int .i64 0))⟩])
def p_quartoref14_Sizes_2 : PC :=
  (.reg [4] [⟨(some 4), none, false, .mv (.v .nils)⟩])
def p_quartoref14_Sizes_3 : PC :=
  (.reg [0, 5] [⟨(some 11), none, false, .mv (.s 0)⟩,
    ⟨(some 12), none, false, .bin .sub (.s 11) (.v (.int .i64 1))⟩,
    ⟨(some 13), none, false, .mv (.s 1)⟩,
    ⟨(some 14), none, false, .bin .quo (.s 12) (.s 13)⟩,
    ⟨(some 15), none, false, .bin .add (.s 14) (.v (.int .i64 1))⟩,
    ⟨(some 5), none, false, .mv (.s 15)⟩])
def p_quartoref14_Sizes_4 : PC :=
  (.reg [0, 5, 6] [⟨(some 6), none, false, .onil 1⟩])
def p_quartoref14_Sizes_5 : PC :=
  (.reg [0, 5, 6, 7] [⟨(some 7), none, false, .mv (.v (.int .i64 0))⟩])
def p_quartoref14_Sizes_6 : PC :=
  (.reg [0, 5, 6, 7, 18] [⟨(some 16), none, false, .mv (.s 7)⟩,
    ⟨(some 17), none, false, .mv (.s 5)⟩,
    ⟨(some 18), none, false, .bin .lss (.s 16) (.s 17)⟩])
def p_quartoref14_Sizes_7 : PC :=
  (.reg [0, 5, 6, 7, 8] [⟨(some 21), none, false, .mv (.s 0)⟩,
    ⟨(some 22), none, false, .mv (.s 5)⟩,
    ⟨(some 23), none, false, .bin .quo (.s 21) (.s 22)⟩,
    ⟨(some 8), none, false, .mv (.s 23)⟩])
def p_quartoref14_Sizes_8 : PC :=
  (.reg [0, 5, 6, 7, 8, 28] [⟨(some 24), none, false, .mv (.s 7)⟩,
    ⟨(some 25), none, false, .mv (.s 0)⟩,
    ⟨(some 26), none, false, .mv (.s 5)⟩,
    ⟨(some 27), none, false, .bin .rem (.s 25) (.s 26)⟩,
    ⟨(some 28), none, false, .bin .lss (.s 24) (.s 27)⟩])
def p_quartoref14_Sizes_9 : PC :=
  (.reg [0, 5, 6, 7, 8] [⟨(some 29), none, false, .mv (.s 8)⟩,
    ⟨(some 30), none, false, .bin .add (.s 29) (.v (.int .i64 1))⟩,
    ⟨(some 8), none, false, .mv (.s 30)⟩])
def p_quartoref14_Sizes_10 : PC :=
  (.reg [0, 5, 6, 7] [⟨(some 31), none, false, .mv (.s 6)⟩,
    ⟨(some 32), none, false, .mv (.s 8)⟩,
    ⟨(some 33), none, false, .bslice false 1 [(.int .i64 0)] [(0, (.s 32))]⟩,
    ⟨(some 34), none, false, .app 1 8 (.s 31) (.s 33)⟩,
    ⟨(some 6), none, false, .mv (.s 34)⟩])
def p_quartoref14_Sizes_11 : PC :=
  (.reg [0, 5, 6, 7] [⟨(some 19), none, false, .mv (.s 7)⟩,
    ⟨(some 20), none, false, .bin .add (.s 19) (.v (.int .i64 1))⟩,
    ⟨(some 7), none, false, .mv (.s 20)⟩])
def p_quartoref14_Sizes_12 : PC :=
  (.seq (.seq p_quartoref14_Sizes_6
  (.ite (.s 18)
    .skip
    (.exit 0)))
  (.seq (.block 1
    (.seq p_quartoref14_Sizes_7
    (.seq (.seq p_quartoref14_Sizes_8
    (.ite (.s 28)
      p_quartoref14_Sizes_9
      .skip))
    p_quartoref14_Sizes_10)))
  p_quartoref14_Sizes_11))
def p_quartoref14_Sizes_13 : PC :=
  (.reg [4] [⟨(some 35), none, false, .mv (.s 6)⟩,
    ⟨(some 4), none, false, .mv (.s 35)⟩])
def p_quartoref14_Sizes : PF := ⟨false,
  (.seq p_quartoref14_Sizes_0
  (.seq (.seq p_quartoref14_Sizes_1
  (.ite (.s 10)
    (.seq p_quartoref14_Sizes_2
    .ret)
    .skip))
  (.seq p_quartoref14_Sizes_3
  (.seq p_quartoref14_Sizes_4
  (.seq (.seq p_quartoref14_Sizes_5
  (.block 0
    (.loop p_quartoref14_Sizes_12)))
  (.seq p_quartoref14_Sizes_13
  .ret)))))),
  [.s 4]⟩
theorem c_quartoref14_Sizes : compF Go.Proofs.Try.prog false h_quartoref14_Sizes Go.Proofs.Try.f23 = some p_quartoref14_Sizes := by kernel_rfl
/-- quarto/chunk.sizes -/
def h_chunk_sizes : List Hint := [⟨[1, 2], [], [], [], [], []⟩, ⟨[1, 2, 10], [], [], [], [], []⟩, ⟨[4], [], [], [], [], []⟩, ⟨[1, 2, 5], [], [], [], [], []⟩, ⟨[2, 5, 17], [], [], [], [], []⟩, ⟨[2, 5], [], [], [], [], []⟩, ⟨[5, 6], [], [], [], [], []⟩, ⟨[5, 6, 7], [], [], [], [], []⟩, ⟨[6, 7, 23, 24], [], [], [], [], []⟩, ⟨[6, 7, 23, 24, 25], [], [], [], [], []⟩, ⟨[6, 7, 8, 23, 24], [], [], [], [], []⟩, ⟨[6, 7, 23, 24], [], [], [], [], []⟩, ⟨[6, 7, 23, 24], [], [], [], [], []⟩, ⟨[4], [], [], [], [], []⟩]
def p_chunk_sizes_0 : PC :=
  (.reg [1, 2] [⟨(some 2), none, false, .box (.s 0)⟩,
    ⟨(some 4), none, false, .mv (.v .nils)⟩])
def p_chunk_sizes_1 : PC :=
  (.reg [1, 2, 10] [⟨(some 9), none, false, .ld false 1 (.s 2)⟩,
    ⟨(some 10), none, false, .bin .eql (.s 9) (.v (.int .i64 0))⟩])
def p_chunk_sizes_2 : PC :=
  (.reg [4] [⟨(some 4), none, false, .mv (.v .nils)⟩])
def p_chunk_sizes_3 : PC :=
  (.reg [1, 2, 5] [⟨(some 11), none, false, .ld false 1 (.s 2)⟩,
    ⟨(some 12), none, false, .mv (.s 1)⟩,
    ⟨(some 13), none, false, .bin .quo (.s 11) (.s 12)⟩,
    ⟨(some 5), none, false, .box (.v (.int .i64 0))⟩,
    ⟨none, none, false, .st 1 (.s 5) (.s 13)⟩])
def p_chunk_sizes_4 : PC :=
  (.reg [2, 5, 17] [⟨(some 14), none, false, .ld false 1 (.s 2)⟩,
    ⟨(some 15), none, false, .mv (.s 1)⟩,
    ⟨(some 16), none, false, .bin .rem (.s 14) (.s 15)⟩,
    ⟨(some 17), none, false, .bin .gtr (.s 16) (.v (.int .i64 0))⟩])
def p_chunk_sizes_5 : PC :=
  (.reg [2, 5] [⟨(some 18), none, false, .ld false 1 (.s 5)⟩,
    ⟨(some 19), none, false, .bin .add (.s 18) (.v (.int .i64 1))⟩,
    ⟨none, none, false, .st 1 (.s 5) (.s 19)⟩])
def p_chunk_sizes_6 : PC :=
  (.reg [5, 6] [⟨(some 20), none, false, .mkf (.func F_chunk_sizesC1) [] [(.s 2), (.s 5)]⟩,
    ⟨(some 6), none, false, .mv (.s 20)⟩])
def p_chunk_sizes_7 : PC :=
  (.reg [5, 6, 7] [⟨(some 21), none, false, .ld false 1 (.s 5)⟩,
    ⟨(some 22), none, false, .mkslice 1 8 (.int .i64 0) (.s 21) (.s 21)⟩,
    ⟨(some 7), none, false, .mv (.s 22)⟩])
def p_chunk_sizes_8 : PC :=
  (.reg [6, 7, 23, 24] [⟨(some 23), none, false, .ld false 1 (.s 5)⟩,
    ⟨(some 24), none, false, .mv (.v (.int .i64 0))⟩])
def p_chunk_sizes_9 : PC :=
  (.reg [6, 7, 23, 24, 25] [⟨(some 25), none, false, .bin .lss (.s 24) (.s 23)⟩])
def p_chunk_sizes_10 : PC :=
  (.reg [6, 7, 8, 23, 24] [⟨(some 26), none, false, .mv (.s 24)⟩,
    ⟨(some 8), none, false, .mv (.s 26)⟩])
def p_chunk_sizes_11 : PC :=
  (.reg [6, 7, 23, 24] [⟨(some 27), none, false, .mv (.s 7)⟩,
    ⟨(some 28), none, false, .mv (.s 8)⟩,
    ⟨(some 29), none, false, .mv (.s 6)⟩,
    ⟨(some 30), none, false, .mv (.s 8)⟩,
    ⟨(some 31), none, false, .call .norm (.s 29) [(.s 30)]⟩,
    ⟨(some 32), none, false, .ixS 1 (.s 27) (.s 28)⟩,
    ⟨none, none, false, .st 1 (.s 32) (.s 31)⟩])
def p_chunk_sizes_12 : PC :=
  (.reg [6, 7, 23, 24] [⟨(some 33), none, false, .bin .add (.s 24) (.v (.int .i64 1))⟩,
    ⟨(some 24), none, false, .mv (.s 33)⟩])
def p_chunk_sizes_13 : PC :=
  (.seq p_chunk_sizes_9
  (.seq (.ite (.s 25)
    .skip
    (.exit 0))
  (.seq (.block 1
    (.seq p_chunk_sizes_10
    p_chunk_sizes_11))
  p_chunk_sizes_12)))
def p_chunk_sizes_14 : PC :=
  (.reg [4] [⟨(some 34), none, false, .mv (.s 7)⟩,
    ⟨(some 4), none, false, .mv (.s 34)⟩])
def p_chunk_sizes : PF := ⟨false,
  (.seq p_chunk_sizes_0
  (.seq (.seq p_chunk_sizes_1
  (.ite (.s 10)
    (.seq p_chunk_sizes_2
    .ret)
    .skip))
  (.seq p_chunk_sizes_3
  (.seq (.seq p_chunk_sizes_4
  (.ite (.s 17)
    p_chunk_sizes_5
    .skip))
  (.seq p_chunk_sizes_6
  (.seq p_chunk_sizes_7
  (.seq (.seq p_chunk_sizes_8
  (.block 0
    (.loop p_chunk_sizes_13)))
  (.seq p_chunk_sizes_14
  .ret)))))))),
  [.s 4]⟩
theorem c_chunk_sizes : compF Go.Proofs.Try.prog false h_chunk_sizes Go.Proofs.Try.f24 = some p_chunk_sizes := by kernel_rfl
/-- quarto/chunk.leaf -/
def h_chunk_leaf : List Hint := [⟨[0], [], [], [], [], []⟩, ⟨[2], [], [], [], [], []⟩]
def p_chunk_leaf_0 : PC :=
  (.reg [0] [⟨(some 2), none, false, .mv (.v (.bool false))⟩])
def p_chunk_leaf_1 : PC :=
  (.reg [2] [⟨(some 3), none, false, .mv (.s 0)⟩,
    ⟨(some 4), none, false, .len 0 (.s 3)⟩,
    ⟨(some 5), none, false, .bin .geq (.s 4) (.v (.int .i64 1))⟩,
    ⟨(some 6), none, false, .mv (.s 5)⟩,
    ⟨(some 7), (some (6, true)), false, .mv (.s 0)⟩,
    ⟨(some 8), (some (6, true)), false, .len 0 (.s 7)⟩,
    ⟨(some 9), (some (6, true)), false, .bin .leq (.s 8) (.v (.int .i64 16))⟩,
    ⟨(some 10), none, false, .pick (.s 6) (.s 9) (.v (.bool false))⟩,
    ⟨(some 2), none, false, .mv (.s 10)⟩])
def p_chunk_leaf : PF := ⟨false,
  (.seq p_chunk_leaf_0
  (.seq p_chunk_leaf_1
  .ret)),
  [.s 2]⟩
theorem c_chunk_leaf : compF Go.Proofs.Try.prog false h_chunk_leaf Go.Proofs.Try.f25 = some p_chunk_leaf := by kernel_rfl
/-- quarto/quartoref14.Leaf -/
def h_quartoref14_Leaf : List Hint := [⟨[0], [], [], [], [], []⟩, ⟨[2], [], [], [], [], []⟩]
def p_quartoref14_Leaf_0 : PC :=
  (.reg [0] [⟨(some 2), none, false, .mv (.v (.bool false))⟩])
def p_quartoref14_Leaf_1 : PC :=
  (.reg [2] [⟨(some 3), none, false, .mv (.s 0)⟩,
    ⟨(some 4), none, false, .len 0 (.s 3)⟩,
    ⟨(some 5), none, false, .bin .geq (.s 4) (.v (.int .i64 1))⟩,
    ⟨(some 6), none, false, .mv (.s 5)⟩,
    ⟨(some 7), (some (6, true)), false, .mv (.s 0)⟩,
    ⟨(some 8), (some (6, true)), false, .len 0 (.s 7)⟩,
    ⟨(some 9), (some (6, true)), false, .bin .leq (.s 8) (.v (.int .i64 16))⟩,
    ⟨(some 10), none, false, .pick (.s 6) (.s 9) (.v (.bool false))⟩,
    ⟨(some 2), none, false, .mv (.s 10)⟩])
def p_quartoref14_Leaf : PF := ⟨false,
  (.seq p_quartoref14_Leaf_0
  (.seq p_quartoref14_Leaf_1
  .ret)),
  [.s 2]⟩
theorem c_quartoref14_Leaf : compF Go.Proofs.Try.prog false h_quartoref14_Leaf Go.Proofs.Try.f26 = some p_quartoref14_Leaf := by kernel_rfl
/-- strings.Builder.WriteString -/
def h_strings_Builder_WriteString : List Hint := [⟨[0, 1], [], [], [], [], []⟩, ⟨[0, 1], [], [], [], [], []⟩, ⟨[1], [], [], [], [], []⟩, ⟨[4, 5], [], [], [], [], []⟩]
def p_strings_Builder_WriteString_0 : PC :=
  (.reg [0, 1] [⟨(some 4), none, false, .mv (.v (.int .i64 0))⟩,
    ⟨(some 5), none, false, .mv (.v .niliface)⟩])
def p_strings_Builder_WriteString_1 : PC :=
  (.reg [0, 1] [⟨(some 6), none, false, .mv (.s 0)⟩,
    ⟨(some 7), none, false, .call .norm (.v (.func (.func F_strings_Builder_copyCheck) [] [])) [(.s 6)]⟩])
def p_strings_Builder_WriteString_2 : PC :=
  (.reg [1] [⟨(some 8), none, false, .mv (.s 0)⟩,
    ⟨(some 9), none, false, .mv (.s 0)⟩,
    ⟨(some 10), none, false, .nilck (.s 9)⟩,
    ⟨(some 11), none, false, .fadr 1 (.s 10)⟩,
    ⟨(some 12), none, false, .ld false 1 (.s 11)⟩,
    ⟨(some 13), none, false, .mv (.s 1)⟩,
    ⟨(some 14), none, false, .app 1 1 (.s 12) (.s 13)⟩,
    ⟨(some 15), none, false, .nilck (.s 8)⟩,
    ⟨(some 16), none, false, .fadr 1 (.s 15)⟩,
    ⟨none, none, false, .st 1 (.s 16) (.s 14)⟩])
def p_strings_Builder_WriteString_3 : PC :=
  (.reg [4, 5] [⟨(some 17), none, false, .mv (.s 1)⟩,
    ⟨(some 18), none, false, .len 0 (.s 17)⟩,
    ⟨(some 4), none, false, .mv (.s 18)⟩,
    ⟨(some 5), none, false, .mv (.v .niliface)⟩])
def p_strings_Builder_WriteString : PF := ⟨false,
  (.seq p_strings_Builder_WriteString_0
  (.seq p_strings_Builder_WriteString_1
  (.seq p_strings_Builder_WriteString_2
  (.seq p_strings_Builder_WriteString_3
  .ret)))),
  [.s 4, .s 5]⟩
theorem c_strings_Builder_WriteString : compF Go.Proofs.Try.prog false h_strings_Builder_WriteString Go.Proofs.Try.f28 = some p_strings_Builder_WriteString := by kernel_rfl
/-- quarto/chunk.sizes$1 -/
def h_chunk_sizesC1 : List Hint := [⟨[0, 1, 2], [], [], [], [], []⟩, ⟨[1, 2, 9], [], [], [], [], []⟩, ⟨[4], [], [], [], [], []⟩, ⟨[4], [], [], [], [], []⟩]
def p_chunk_sizesC1_0 : PC :=
  (.reg [0, 1, 2] [⟨(some 4), none, false, .mv (.v (.int .i64 0))⟩])
def p_chunk_sizesC1_1 : PC :=
  (.reg [1, 2, 9] [⟨(some 5), none, false, .mv (.s 0)⟩,
    ⟨(some 6), none, false, .ld false 1 (.s 1)⟩,
    ⟨(some 7), none, false, .ld false 1 (.s 2)⟩,
    ⟨(some 8), none, false, .bin .rem (.s 6) (.s 7)⟩,
    ⟨(some 9), none, false, .bin .lss (.s 5) (.s 8)⟩])
def p_chunk_sizesC1_2 : PC :=
  (.reg [4] [⟨(some 10), none, false, .ld false 1 (.s 1)⟩,
    ⟨(some 11), none, false, .ld false 1 (.s 2)⟩,
    ⟨(some 12), none, false, .bin .quo (.s 10) (.s 11)⟩,
    ⟨(some 13), none, false, .bin .add (.s 12) (.v (.int .i64 1))⟩,
    ⟨(some 4), none, false, .mv (.s 13)⟩])
def p_chunk_sizesC1_3 : PC :=
  (.reg [4] [⟨(some 14), none, false, .ld false 1 (.s 1)⟩,
    ⟨(some 15), none, false, .ld false 1 (.s 2)⟩,
    ⟨(some 16), none, false, .bin .quo (.s 14) (.s 15)⟩,
    ⟨(some 4), none, false, .mv (.s 16)⟩])
def p_chunk_sizesC1 : PF := ⟨false,
  (.seq p_chunk_sizesC1_0
  (.seq (.seq p_chunk_sizesC1_1
  (.ite (.s 9)
    (.seq p_chunk_sizesC1_2
    .ret)
    .skip))
  (.seq p_chunk_sizesC1_3
  .ret))),
  [.s 4]⟩
theorem c_chunk_sizesC1 : compF Go.Proofs.Try.prog false h_chunk_sizesC1 Go.Proofs.Try.f30 = some p_chunk_sizesC1 := by kernel_rfl
def tabL : List (FuncId × Ent) := [(F_gosem_cut_init, .pf p_gosem_cut_init), (F_quartolaw14_ChunkEvens, .pf p_quartolaw14_ChunkEvens), (F_quartolaw14_ChunkSizes, .pf p_quartolaw14_ChunkSizes), (F_quartolaw14_ChunkCuts, .pf p_quartolaw14_ChunkCuts), (F_quartolaw14_ChunkBack, .pf p_quartolaw14_ChunkBack), (F_quartolaw14_ChunkNames, .pf p_quartolaw14_ChunkNames), (F_quartolaw14_ChunkParts, .pf p_quartolaw14_ChunkParts), (F_quartolaw14_ChunkOwn, .pf p_quartolaw14_ChunkOwn), (F_quartolaw14_ChunkJoins, .pf p_quartolaw14_ChunkJoins), (F_chunk_Even, .pf p_chunk_Even), (F_quartoref14_Even, .pf p_quartoref14_Even), (F_quartoref14_Ints, .pf p_quartoref14_Ints), (F_quartolaw14_works, .pf p_quartolaw14_works), (F_quartoref14_Texts, .pf p_quartoref14_Texts), (F_chunk_Chunks, .pf p_chunk_Chunks), (F_quartoref14_Chunks, .pf p_quartoref14_Chunks), (F_chunk_Join, .pf p_chunk_Join), (F_quartoref14_Join, .pf p_quartoref14_Join), (F_chunk_Cut, .pf p_chunk_Cut), (F_quartoref14_Cut, .pf p_quartoref14_Cut), (F_quartoref14_Sizes, .pf p_quartoref14_Sizes), (F_chunk_sizes, .pf p_chunk_sizes), (F_chunk_leaf, .pf p_chunk_leaf), (F_quartoref14_Leaf, .pf p_quartoref14_Leaf), (F_strings_Builder_WriteString, .pf p_strings_Builder_WriteString), (F_chunk_sizesC1, .pf p_chunk_sizesC1)]
def T0 : Tab := lookT tabL
theorem tab_all : AllOk Go.Proofs.Try.prog tabL := ⟨⟨Go.Proofs.Try.call2, _, _, _, Go.Proofs.Try.func2, c_gosem_cut_init⟩, ⟨⟨Go.Proofs.Try.call3, _, _, _, Go.Proofs.Try.func3, c_quartolaw14_ChunkEvens⟩, ⟨⟨Go.Proofs.Try.call4, _, _, _, Go.Proofs.Try.func4, c_quartolaw14_ChunkSizes⟩, ⟨⟨Go.Proofs.Try.call5, _, _, _, Go.Proofs.Try.func5, c_quartolaw14_ChunkCuts⟩, ⟨⟨Go.Proofs.Try.call6, _, _, _, Go.Proofs.Try.func6, c_quartolaw14_ChunkBack⟩, ⟨⟨Go.Proofs.Try.call7, _, _, _, Go.Proofs.Try.func7, c_quartolaw14_ChunkNames⟩, ⟨⟨Go.Proofs.Try.call8, _, _, _, Go.Proofs.Try.func8, c_quartolaw14_ChunkParts⟩, ⟨⟨Go.Proofs.Try.call9, _, _, _, Go.Proofs.Try.func9, c_quartolaw14_ChunkOwn⟩, ⟨⟨Go.Proofs.Try.call10, _, _, _, Go.Proofs.Try.func10, c_quartolaw14_ChunkJoins⟩, ⟨⟨Go.Proofs.Try.call11, _, _, _, Go.Proofs.Try.func11, c_chunk_Even⟩, ⟨⟨Go.Proofs.Try.call12, _, _, _, Go.Proofs.Try.func12, c_quartoref14_Even⟩, ⟨⟨Go.Proofs.Try.call13, _, _, _, Go.Proofs.Try.func13, c_quartoref14_Ints⟩, ⟨⟨Go.Proofs.Try.call14, _, _, _, Go.Proofs.Try.func14, c_quartolaw14_works⟩, ⟨⟨Go.Proofs.Try.call15, _, _, _, Go.Proofs.Try.func15, c_quartoref14_Texts⟩, ⟨⟨Go.Proofs.Try.call16, _, _, _, Go.Proofs.Try.func16, c_chunk_Chunks⟩, ⟨⟨Go.Proofs.Try.call17, _, _, _, Go.Proofs.Try.func17, c_quartoref14_Chunks⟩, ⟨⟨Go.Proofs.Try.call18, _, _, _, Go.Proofs.Try.func18, c_chunk_Join⟩, ⟨⟨Go.Proofs.Try.call19, _, _, _, Go.Proofs.Try.func19, c_quartoref14_Join⟩, ⟨⟨Go.Proofs.Try.call20, _, _, _, Go.Proofs.Try.func20, c_chunk_Cut⟩, ⟨⟨Go.Proofs.Try.call21, _, _, _, Go.Proofs.Try.func21, c_quartoref14_Cut⟩, ⟨⟨Go.Proofs.Try.call23, _, _, _, Go.Proofs.Try.func23, c_quartoref14_Sizes⟩, ⟨⟨Go.Proofs.Try.call24, _, _, _, Go.Proofs.Try.func24, c_chunk_sizes⟩, ⟨⟨Go.Proofs.Try.call25, _, _, _, Go.Proofs.Try.func25, c_chunk_leaf⟩, ⟨⟨Go.Proofs.Try.call26, _, _, _, Go.Proofs.Try.func26, c_quartoref14_Leaf⟩, ⟨⟨Go.Proofs.Try.call28, _, _, _, Go.Proofs.Try.func28, c_strings_Builder_WriteString⟩, ⟨⟨Go.Proofs.Try.call30, _, _, _, Go.Proofs.Try.func30, c_chunk_sizesC1⟩, trivial⟩⟩⟩⟩⟩⟩⟩⟩⟩⟩⟩⟩⟩⟩⟩⟩⟩⟩⟩⟩⟩⟩⟩⟩⟩⟩
theorem tab_ok : TabOk Go.Proofs.Try.prog T0 := tabOk_of tab_all
end Go.Q14
