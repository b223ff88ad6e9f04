/- Resolved code, printed by program. No condition. -/
import Derived.Test.YtjlmaolamafdmaaProg
import Derived.KernelRfl
import Derived.Test.YtjlmaolamafdmaaT3
set_option linter.unusedVariables false
set_option linter.unusedSimpArgs false
namespace Go.Q17
open Go Go.QAbs
set_option maxRecDepth 100000
abbrev F_gosem_cut : FuncId := 1
abbrev F_gosem_cut_init : FuncId := 2
abbrev F_quartolaw17_SeekNames : FuncId := 3
abbrev F_quartolaw16_RopeNames : FuncId := 4
abbrev F_quartolaw17_small : FuncId := 5
abbrev F_quartolaw17_works : FuncId := 6
abbrev F_seek_Leaf : FuncId := 7
abbrev F_quartokit_EqualHandles : FuncId := 8
abbrev F_seek_Byte : FuncId := 9
abbrev F_quartolaw17_number : FuncId := 10
abbrev F_seek_Rune : FuncId := 11
abbrev F_seek_RunesBefore : FuncId := 12
abbrev F_seek_Line : FuncId := 13
abbrev F_seek_LineOf : FuncId := 14
abbrev F_seek_Boundary : FuncId := 15
abbrev F_quartolaw16_small : FuncId := 16
abbrev F_quartolaw16_works : FuncId := 17
abbrev F_rope_Nodes : FuncId := 18
abbrev F_rope_Leaves : FuncId := 19
abbrev F_quartokit_EqualStrings : FuncId := 20
abbrev F_plan_Keep : FuncId := 21
abbrev F_plan_Replace : FuncId := 22
abbrev F_rope_Write : FuncId := 23
abbrev F_rope_Free : FuncId := 24
abbrev F_rope_Check : FuncId := 25
abbrev F_rope_New : FuncId := 26
abbrev F_plan_Build : FuncId := 27
abbrev F_rope_Begin : FuncId := 28
abbrev F_rope_Pen_Root : FuncId := 29
abbrev F_rope_Pen_Step : FuncId := 30
abbrev F_strings_Repeat : FuncId := 31
abbrev F_rope_Text : FuncId := 32
abbrev F_arena_New : FuncId := 33
abbrev F_seek_check : FuncId := 34
abbrev F_seek_walk : FuncId := 35
abbrev F_node_Child : FuncId := 36
abbrev F_seek_LeafC1 : FuncId := 37
abbrev F_quartolaw17_numberC1 : FuncId := 38
abbrev F_seek_offset : FuncId := 39
abbrev F_node_Rune : FuncId := 40
abbrev F_measure_Rune : FuncId := 41
abbrev F_seek_before : FuncId := 42
abbrev F_seek_RunesBeforeC1 : FuncId := 43
abbrev F_measure_RunesBefore : FuncId := 44
abbrev F_node_Line : FuncId := 45
abbrev F_measure_Line : FuncId := 46
abbrev F_seek_LineOfC1 : FuncId := 47
abbrev F_measure_LineOf : FuncId := 48
abbrev F_rope_nodes : FuncId := 49
abbrev F_plan_same : FuncId := 50
abbrev F_plan_Check : FuncId := 51
abbrev F_plan_bytes : FuncId := 52
abbrev F_plan_own : FuncId := 53
abbrev F_plan_cut : FuncId := 54
abbrev F_plan_concat : FuncId := 55
abbrev F_arena_Arena_Free : FuncId := 56
abbrev F_chunk_Chunks : FuncId := 57
abbrev F_chunk_Even : FuncId := 58
abbrev F_plan_group : FuncId := 59
abbrev F_plan_New : FuncId := 60
abbrev F_arena_Arena_Stats : FuncId := 61
abbrev F_rope_Pen_add : FuncId := 62
abbrev F_math_bits_Mul : FuncId := 63
abbrev F_strings_HasPrefix : FuncId := 64
abbrev F_strings_Builder_WriteString : FuncId := 66
abbrev F_strings_Builder_Len : FuncId := 67
abbrev F_freelist_New : FuncId := 69
abbrev F_arena_Arena_Get : FuncId := 70
abbrev F_node_Measure : FuncId := 71
abbrev F_node_choose : FuncId := 72
abbrev F_node_ChildC1 : FuncId := 73
abbrev F_seek_offsetC1 : FuncId := 74
abbrev F_node_RuneC1 : FuncId := 75
abbrev F_measure_find : FuncId := 76
abbrev F_measure_begins : FuncId := 77
abbrev F_measure_count : FuncId := 78
abbrev F_seek_beforeC1 : FuncId := 79
abbrev F_measure_before : FuncId := 80
abbrev F_node_LineC1 : FuncId := 81
abbrev F_node_LineC2 : FuncId := 82
abbrev F_measure_feeds : FuncId := 83
abbrev F_rope_nodesC1 : FuncId := 84
abbrev F_rope_nodesC1C1 : FuncId := 85
abbrev F_plan_kind : FuncId := 86
abbrev F_plan_check : FuncId := 87
abbrev F_plan_line : FuncId := 88
abbrev F_chunk_Cut : FuncId := 89
abbrev F_plan_children : FuncId := 90
abbrev F_plan_merge : FuncId := 91
abbrev F_freelist_List_Give : FuncId := 92
abbrev F_chunk_sizes : FuncId := 93
abbrev F_freelist_List_Free : FuncId := 94
abbrev F_freelist_List_Withdrawn : FuncId := 95
abbrev F_rope_Pen_put : FuncId := 96
abbrev F_rope_Pen_addC1 : FuncId := 97
abbrev F_rope_Pen_addC2 : FuncId := 98
abbrev F_math_bits_Mul32 : FuncId := 99
abbrev F_math_bits_Mul64 : FuncId := 100
abbrev F_internal_stringslite_HasPrefix : FuncId := 101
abbrev F_strings_Builder_copyCheck : FuncId := 102
abbrev F_slices_Clone_api_Kid_api_Kid : FuncId := 104
abbrev F_node_Check : FuncId := 105
abbrev F_node_sum : FuncId := 106
abbrev F_chunk_leaf : FuncId := 107
abbrev F_plan_leaves : FuncId := 108
abbrev F_plan_fold : FuncId := 109
abbrev F_freelist_List_slot : FuncId := 110
abbrev F_chunk_sizesC1 : FuncId := 111
abbrev F_freelist_List_slots : FuncId := 112
abbrev F_rope_Pen_putC1 : FuncId := 113
abbrev F_arena_Arena_Alloc : FuncId := 114
abbrev F_node_formed : FuncId := 117
abbrev F_measure_Of : FuncId := 118
abbrev F_measure_Add : FuncId := 119
abbrev F_chunk_Join : FuncId := 120
abbrev F_handle_Slot : FuncId := 121
abbrev F_handle_Gen : FuncId := 122
abbrev F_freelist_List_Take : FuncId := 123
abbrev F_node_bounds : FuncId := 124
abbrev F_handle_Check : FuncId := 125
abbrev F_measure_every : FuncId := 126
abbrev F_measure_measured : FuncId := 127
abbrev F_handle_parts : FuncId := 128
abbrev F_handle_Make : FuncId := 129
abbrev I (d : Nat) (o : PO) : PI := ⟨some d, none, false, o⟩
abbrev G (d g : Nat) (b : Bool) (o : PO) : PI := ⟨some d, some (g, b), false, o⟩
abbrev J (o : PO) : PI := ⟨none, none, false, o⟩
abbrev C (f : FuncId) (a : List Opd) : PO := .call .norm (.v (.func (.func f) [] [])) a
abbrev H (k : List Nat) : Hint := ⟨k, [], [], [], [], []⟩
abbrev V (i : Int) : Opd := .v (.int .i64 i)
abbrev ZT : AV := .agg [(.int .u64 0), (.int .i64 0), (.int .i64 0), (.int .i64 0), (.int .i64 0), (.str []), .nils]
abbrev ZR : AV := .agg [(.int .u64 0), (.int .i64 0), (.int .i64 0), (.int .i64 0), (.int .i64 0)]
abbrev ZM : AV := .agg [(.int .i64 0), (.int .i64 0), (.int .i64 0)]
abbrev ZN : AV := .agg [(.int .i64 0), (.str []), .nils]
abbrev ZK : AV := .agg [(.int .u64 0), (.int .i64 0), (.int .i64 0), (.int .i64 0)]
def h_quartolaw17_SeekNames : List Hint := [H [],H [1,2,3],H [1,2,41],H [0],H [1,2,4,5,6,7],H [1,2,65],H [0],H [1,2,4,5,6,7],H [1,2,90],H [0],H [1,2,11],H [1,2,11,15],H [1,2,11,15,16,17],H [1,2,126],H [0],H [1,2,18],H [1,2,18,19],H [1,2,18,19,138],H [1,2,18,19,20],⟨[1,2,18,19,198],[],[(4,.pure),(7,.pure),(17,.pure),(20,.pure),(31,.pure),(34,.pure),(45,.pure),(48,.pure)],[],[],[]⟩,H [0],H [1,2,18,19],H [1,2,11,21],H [1,2,11,15,21,22],H [1,2,11,15,17,21,22],H [1,2,233],H [0],H [1,2,23],H [1,2,11,23],H [1,2,11,15,23],H [1,2,11,15,17,23],H [1,2,11,15,17,23,25],H [1,11,15,17,23,25,27],H [1,11,15,17,21,23,25,27,28],H [0]]
def p_quartolaw17_SeekNames_0 : PC :=
 (.reg [] [I 0 (.mv (.v (.bool false)))])
def p_quartolaw17_SeekNames_1 : PC :=
 (.reg [1,2,3] [I 30 (C F_quartolaw17_small []),I 29 (.mv (.s 30)),I 31 (.ext (.s 29) 0),I 32 (.ext (.s 29) 1),I 33 (.ext (.s 29) 2),I 2 (.box (.v ZR)),I 1 (.mv (.s 31)),J (.st 5 (.s 2) (.s 32)),I 3 (.mv (.s 33))])
def p_quartolaw17_SeekNames_2 : PC :=
 (.reg [1,2,41] [I 34 (.mv (.s 3)),I 35 (.un .not (.s 34)),I 36 (.mv (.s 35)),G 37 36 false (C F_quartolaw17_works []),G 38 36 false (.un .not (.s 37)),I 39 (.pick (.s 36) (.v (.bool true)) (.s 38)),I 40 (.mv (.s 39)),I 41 (.pick (.s 40) (.v (.bool true)) (.v (.bool false)))])
def p_quartolaw17_SeekNames_3 : PC :=
 (.reg [0] [I 0 (.mv (.v (.bool false)))])
def p_quartolaw17_SeekNames_4 : PC :=
 (.reg [1,2,4,5,6,7] [I 43 (.mv (.s 1)),I 44 (.ld true 5 (.s 2)),I 45 (C F_seek_Leaf [(.s 43),(.s 44),(V 9)]),I 42 (.mv (.s 45)),I 46 (.ext (.s 42) 0),I 47 (.ext (.s 42) 1),I 48 (.ext (.s 42) 2),I 49 (.ext (.s 42) 3),I 4 (.mv (.s 46)),I 5 (.mv (.s 47)),I 6 (.mv (.s 48)),I 7 (.mv (.s 49))])
def p_quartolaw17_SeekNames_5 : PC :=
 (.reg [1,2,65] [I 50 (.mv (.s 4)),I 51 (.bin .neq (.s 50) (.v (.str [103,104,105,106,107,108,109,110]))),I 52 (.mv (.s 51)),G 53 52 false (.mv (.s 5)),G 54 52 false (.bin .neq (.s 53) (V 0)),I 55 (.pick (.s 52) (.v (.bool true)) (.s 54)),I 56 (.mv (.s 55)),G 57 56 false (.mv (.s 7)),G 58 56 false (.bin .neq (.s 57) (V 0)),I 59 (.pick (.s 56) (.v (.bool true)) (.s 58)),I 60 (.mv (.s 59)),G 61 60 false (.mv (.s 6)),G 62 60 false (.bslice false 1 [(.int .u64 0),(.int .u64 0)] [(0,(.v (.int .u64 65538))),(1,(.v (.int .u64 65537)))]),G 63 60 false (C F_quartokit_EqualHandles [(.s 61),(.s 62)]),G 64 60 false (.un .not (.s 63)),I 65 (.pick (.s 60) (.v (.bool true)) (.s 64))])
def p_quartolaw17_SeekNames_6 : PC :=
 (.reg [0] [I 0 (.mv (.v (.bool false)))])
def p_quartolaw17_SeekNames_7 : PC :=
 (.reg [1,2,4,5,6,7] [I 67 (.mv (.s 1)),I 68 (.ld true 5 (.s 2)),I 69 (C F_seek_Leaf [(.s 67),(.s 68),(V 8)]),I 66 (.mv (.s 69)),I 70 (.ext (.s 66) 0),I 71 (.ext (.s 66) 1),I 72 (.ext (.s 66) 2),I 73 (.ext (.s 66) 3),I 4 (.mv (.s 70)),I 5 (.mv (.s 71)),I 6 (.mv (.s 72)),I 7 (.mv (.s 73))])
def p_quartolaw17_SeekNames_8 : PC :=
 (.reg [1,2,90] [I 74 (.mv (.s 4)),I 75 (.slcS (.v (.str [97,195,177,10,98,99,100,101,102,103,104,105,106,107,108,109,110])) none (some (V 9))),I 76 (.bin .neq (.s 74) (.s 75)),I 77 (.mv (.s 76)),G 78 77 false (.mv (.s 5)),G 79 77 false (.bin .neq (.s 78) (V 8)),I 80 (.pick (.s 77) (.v (.bool true)) (.s 79)),I 81 (.mv (.s 80)),G 82 81 false (.mv (.s 7)),G 83 81 false (.bin .neq (.s 82) (V 0)),I 84 (.pick (.s 81) (.v (.bool true)) (.s 83)),I 85 (.mv (.s 84)),G 86 85 false (.mv (.s 6)),G 87 85 false (.bslice false 1 [(.int .u64 0),(.int .u64 0)] [(0,(.v (.int .u64 65538))),(1,(.v (.int .u64 65536)))]),G 88 85 false (C F_quartokit_EqualHandles [(.s 86),(.s 87)]),G 89 85 false (.un .not (.s 88)),I 90 (.pick (.s 85) (.v (.bool true)) (.s 89))])
def p_quartolaw17_SeekNames_9 : PC :=
 (.reg [0] [I 0 (.mv (.v (.bool false)))])
def p_quartolaw17_SeekNames_10 : PC :=
 (.reg [1,2,11] [I 92 (.mv (.s 1)),I 93 (.ld true 5 (.s 2)),I 94 (C F_seek_Leaf [(.s 92),(.s 93),(V 17)]),I 91 (.mv (.s 94)),I 95 (.ext (.s 91) 0),I 96 (.ext (.s 91) 1),I 97 (.ext (.s 91) 2),I 98 (.ext (.s 91) 3),I 8 (.mv (.s 95)),I 9 (.mv (.s 96)),I 10 (.mv (.s 97)),I 11 (.mv (.s 98))])
def p_quartolaw17_SeekNames_11 : PC :=
 (.reg [1,2,11,15] [I 100 (.mv (.s 1)),I 101 (.ld true 5 (.s 2)),I 102 (C F_seek_Leaf [(.s 100),(.s 101),(.v (.int .i64 (-1)))]),I 99 (.mv (.s 102)),I 103 (.ext (.s 99) 0),I 104 (.ext (.s 99) 1),I 105 (.ext (.s 99) 2),I 106 (.ext (.s 99) 3),I 12 (.mv (.s 103)),I 13 (.mv (.s 104)),I 14 (.mv (.s 105)),I 15 (.mv (.s 106))])
def p_quartolaw17_SeekNames_12 : PC :=
 (.reg [1,2,11,15,16,17] [I 108 (.mv (.s 1)),I 109 (.ld true 5 (.s 2)),I 110 (C F_seek_Byte [(.s 108),(.s 109),(V 3)]),I 107 (.mv (.s 110)),I 111 (.ext (.s 107) 0),I 112 (.ext (.s 107) 1),I 16 (.mv (.s 111)),I 17 (.mv (.s 112))])
def p_quartolaw17_SeekNames_13 : PC :=
 (.reg [1,2,126] [I 113 (.mv (.s 11)),I 114 (.bin .neq (.s 113) (V 3)),I 115 (.mv (.s 114)),G 116 115 false (.mv (.s 15)),G 117 115 false (.bin .neq (.s 116) (V 3)),I 118 (.pick (.s 115) (.v (.bool true)) (.s 117)),I 119 (.mv (.s 118)),G 120 119 false (.mv (.s 16)),G 121 119 false (.bin .neq (.s 120) (.v (.int .u8 10))),I 122 (.pick (.s 119) (.v (.bool true)) (.s 121)),I 123 (.mv (.s 122)),G 124 123 false (.mv (.s 17)),G 125 123 false (.bin .neq (.s 124) (V 0)),I 126 (.pick (.s 123) (.v (.bool true)) (.s 125))])
def p_quartolaw17_SeekNames_14 : PC :=
 (.reg [0] [I 0 (.mv (.v (.bool false)))])
def p_quartolaw17_SeekNames_15 : PC :=
 (.reg [1,2,18] [I 127 (.build [(.int .i64 0),(.int .i64 0),(.int .i64 0),(.int .i64 0),(.int .i64 0)] [(0,1,(V 1)),(1,1,(V 1)),(2,1,(V 1)),(3,1,(V 4)),(4,1,(V 0))]),I 128 (.build [(.int .i64 0),(.int .i64 0),(.int .i64 0),(.int .i64 0),(.int .i64 0)] [(0,1,(V 2)),(1,1,(V 3)),(2,1,(V 2)),(3,1,(.v (.int .i64 (-1)))),(4,1,(V 0))]),I 129 (.build [(.int .i64 0),(.int .i64 0),(.int .i64 0),(.int .i64 0),(.int .i64 0)] [(0,1,(V 3)),(1,1,(V 4)),(2,1,(V 2)),(3,1,(.v (.int .i64 (-1)))),(4,1,(V 0))]),I 130 (.build [(.int .i64 0),(.int .i64 0),(.int .i64 0),(.int .i64 0),(.int .i64 0)] [(0,1,(V 4)),(1,1,(V 5)),(2,1,(V 3)),(3,1,(.v (.int .i64 (-1)))),(4,1,(V 1))]),I 131 (.build [(.int .i64 0),(.int .i64 0),(.int .i64 0),(.int .i64 0),(.int .i64 0)] [(0,1,(V 16)),(1,1,(V 17)),(2,1,(V 15)),(3,1,(.v (.int .i64 (-1)))),(4,1,(V 1))]),I 132 (.build [(.int .i64 0),(.int .i64 0),(.int .i64 0),(.int .i64 0),(.int .i64 0)] [(0,1,(V 17)),(1,1,(.v (.int .i64 (-1)))),(2,1,(V 16)),(3,1,(.v (.int .i64 (-1)))),(4,1,(V 1))]),I 133 (.build [(.int .i64 0),(.int .i64 0),(.int .i64 0),(.int .i64 0),(.int .i64 0)] [(0,1,(V 0)),(1,1,(V 0)),(2,1,(V 0)),(3,1,(V 0)),(4,1,(V 0))]),I 134 (.bslice false 5 [(.agg [(.int .i64 0),(.int .i64 0),(.int .i64 0),(.int .i64 0),(.int .i64 0)]),(.agg [(.int .i64 0),(.int .i64 0),(.int .i64 0),(.int .i64 0),(.int .i64 0)]),(.agg [(.int .i64 0),(.int .i64 0),(.int .i64 0),(.int .i64 0),(.int .i64 0)]),(.agg [(.int .i64 0),(.int .i64 0),(.int .i64 0),(.int .i64 0),(.int .i64 0)]),(.agg [(.int .i64 0),(.int .i64 0),(.int .i64 0),(.int .i64 0),(.int .i64 0)]),(.agg [(.int .i64 0),(.int .i64 0),(.int .i64 0),(.int .i64 0),(.int .i64 0)]),(.agg [(.int .i64 0),(.int .i64 0),(.int .i64 0),(.int .i64 0),(.int .i64 0)])] [(0,(.s 127)),(1,(.s 128)),(2,(.s 129)),(3,(.s 130)),(4,(.s 131)),(5,(.s 132)),(6,(.s 133))]),I 18 (.mv (.s 134))])
def p_quartolaw17_SeekNames_16 : PC :=
 (.reg [1,2,18,19] [I 19 (.mv (V 0))])
def p_quartolaw17_SeekNames_17 : PC :=
 (.reg [1,2,18,19,138] [I 135 (.mv (.s 19)),I 136 (.mv (.s 18)),I 137 (.len 1 (.s 136)),I 138 (.bin .lss (.s 135) (.s 137))])
def p_quartolaw17_SeekNames_18 : PC :=
 (.reg [1,2,18,19,20] [I 141 (.mv (.s 18)),I 142 (.mv (.s 19)),I 143 (.ixS 5 (.s 141) (.s 142)),I 144 (.ld true 5 (.s 143)),I 20 (.box (.v (.agg [(.int .i64 0),(.int .i64 0),(.int .i64 0),(.int .i64 0),(.int .i64 0)]))),J (.st 5 (.s 20) (.s 144))])
def p_quartolaw17_SeekNames_19 : PC :=
 (.reg [1,2,18,19,198] [I 145 (.mv (.s 1)),I 146 (.ld true 5 (.s 2)),I 147 (.fadr 0 (.s 20)),I 148 (.ld false 1 (.s 147)),I 149 (.call .pure (.v (.func (.func F_seek_Rune) [] [])) [(.s 145),(.s 146),(.s 148)]),I 150 (.ext (.s 149) 0),I 151 (.ext (.s 149) 1),I 152 (.call .pure (.v (.func (.func F_quartolaw17_number) [] [])) [(.s 150),(.s 151)]),I 153 (.fadr 1 (.s 20)),I 154 (.ld false 1 (.s 153)),I 155 (.call .norm (.s 152) [(.s 154)]),I 156 (.un .not (.s 155)),I 157 (.mv (.s 156)),G 158 157 false (.mv (.s 1)),G 159 157 false (.ld true 5 (.s 2)),G 160 157 false (.fadr 0 (.s 20)),G 161 157 false (.ld false 1 (.s 160)),G 162 157 false (.call .pure (.v (.func (.func F_seek_RunesBefore) [] [])) [(.s 158),(.s 159),(.s 161)]),G 163 157 false (.ext (.s 162) 0),G 164 157 false (.ext (.s 162) 1),G 165 157 false (.call .pure (.v (.func (.func F_quartolaw17_number) [] [])) [(.s 163),(.s 164)]),G 166 157 false (.fadr 2 (.s 20)),G 167 157 false (.ld false 1 (.s 166)),G 168 157 false (.call .norm (.s 165) [(.s 167)]),G 169 157 false (.un .not (.s 168)),I 170 (.pick (.s 157) (.v (.bool true)) (.s 169)),I 171 (.mv (.s 170)),G 172 171 false (.mv (.s 1)),G 173 171 false (.ld true 5 (.s 2)),G 174 171 false (.fadr 0 (.s 20)),G 175 171 false (.ld false 1 (.s 174)),G 176 171 false (.call .pure (.v (.func (.func F_seek_Line) [] [])) [(.s 172),(.s 173),(.s 175)]),G 177 171 false (.ext (.s 176) 0),G 178 171 false (.ext (.s 176) 1),G 179 171 false (.call .pure (.v (.func (.func F_quartolaw17_number) [] [])) [(.s 177),(.s 178)]),G 180 171 false (.fadr 3 (.s 20)),G 181 171 false (.ld false 1 (.s 180)),G 182 171 false (.call .norm (.s 179) [(.s 181)]),G 183 171 false (.un .not (.s 182)),I 184 (.pick (.s 171) (.v (.bool true)) (.s 183)),I 185 (.mv (.s 184)),G 186 185 false (.mv (.s 1)),G 187 185 false (.ld true 5 (.s 2)),G 188 185 false (.fadr 0 (.s 20)),G 189 185 false (.ld false 1 (.s 188)),G 190 185 false (.call .pure (.v (.func (.func F_seek_LineOf) [] [])) [(.s 186),(.s 187),(.s 189)]),G 191 185 false (.ext (.s 190) 0),G 192 185 false (.ext (.s 190) 1),G 193 185 false (.call .pure (.v (.func (.func F_quartolaw17_number) [] [])) [(.s 191),(.s 192)]),G 194 185 false (.fadr 4 (.s 20)),G 195 185 false (.ld false 1 (.s 194)),G 196 185 false (.call .norm (.s 193) [(.s 195)]),G 197 185 false (.un .not (.s 196)),I 198 (.pick (.s 185) (.v (.bool true)) (.s 197))])
def p_quartolaw17_SeekNames_20 : PC :=
 (.reg [0] [I 0 (.mv (.v (.bool false)))])
def p_quartolaw17_SeekNames_21 : PC :=
 (.reg [1,2,18,19] [I 139 (.mv (.s 19)),I 140 (.bin .add (.s 139) (V 1)),I 19 (.mv (.s 140))])
def p_quartolaw17_SeekNames_22 : PC :=
 (.seq (.seq p_quartolaw17_SeekNames_17
 (.ite (.s 138)
 .skip
 (.exit 0)))
 (.seq (.block 1
 (.seq p_quartolaw17_SeekNames_18
 (.seq p_quartolaw17_SeekNames_19
 (.ite (.s 198)
 (.seq p_quartolaw17_SeekNames_20
 .ret)
 .skip))))
 p_quartolaw17_SeekNames_21))
def p_quartolaw17_SeekNames_23 : PC :=
 (.reg [1,2,11,21] [I 200 (.mv (.s 1)),I 201 (.ld true 5 (.s 2)),I 202 (C F_seek_Boundary [(.s 200),(.s 201),(V 2)]),I 199 (.mv (.s 202)),I 203 (.ext (.s 199) 0),I 204 (.ext (.s 199) 1),I 21 (.mv (.s 203)),I 11 (.mv (.s 204))])
def p_quartolaw17_SeekNames_24 : PC :=
 (.reg [1,2,11,15,21,22] [I 206 (.mv (.s 1)),I 207 (.ld true 5 (.s 2)),I 208 (C F_seek_Boundary [(.s 206),(.s 207),(V 17)]),I 205 (.mv (.s 208)),I 209 (.ext (.s 205) 0),I 210 (.ext (.s 205) 1),I 22 (.mv (.s 209)),I 15 (.mv (.s 210))])
def p_quartolaw17_SeekNames_25 : PC :=
 (.reg [1,2,11,15,17,21,22] [I 212 (.mv (.s 1)),I 213 (.ld true 5 (.s 2)),I 214 (C F_seek_Boundary [(.s 212),(.s 213),(V 18)]),I 211 (.mv (.s 214)),I 215 (.ext (.s 211) 0),I 216 (.ext (.s 211) 1),I 17 (.mv (.s 216))])
def p_quartolaw17_SeekNames_26 : PC :=
 (.reg [1,2,233] [I 217 (.mv (.s 21)),I 218 (.mv (.s 217)),G 219 218 false (.mv (.s 22)),G 220 218 false (.un .not (.s 219)),I 221 (.pick (.s 218) (.v (.bool true)) (.s 220)),I 222 (.mv (.s 221)),G 223 222 false (.mv (.s 11)),G 224 222 false (.bin .neq (.s 223) (V 0)),I 225 (.pick (.s 222) (.v (.bool true)) (.s 224)),I 226 (.mv (.s 225)),G 227 226 false (.mv (.s 15)),G 228 226 false (.bin .neq (.s 227) (V 0)),I 229 (.pick (.s 226) (.v (.bool true)) (.s 228)),I 230 (.mv (.s 229)),G 231 230 false (.mv (.s 17)),G 232 230 false (.bin .neq (.s 231) (V 3)),I 233 (.pick (.s 230) (.v (.bool true)) (.s 232))])
def p_quartolaw17_SeekNames_27 : PC :=
 (.reg [0] [I 0 (.mv (.v (.bool false)))])
def p_quartolaw17_SeekNames_28 : PC :=
 (.reg [1,2,23] [I 234 (.build [(.int .u64 0),(.int .i64 0),(.int .i64 0),(.int .i64 0),(.int .i64 0)] []),I 23 (.box (.v ZR)),J (.st 5 (.s 23) (.s 234))])
def p_quartolaw17_SeekNames_29 : PC :=
 (.reg [1,2,11,23] [I 236 (.mv (.s 1)),I 237 (.ld true 5 (.s 23)),I 238 (C F_seek_Byte [(.s 236),(.s 237),(V 0)]),I 235 (.mv (.s 238)),I 239 (.ext (.s 235) 0),I 240 (.ext (.s 235) 1),I 11 (.mv (.s 240))])
def p_quartolaw17_SeekNames_30 : PC :=
 (.reg [1,2,11,15,23] [I 242 (.ld true 5 (.s 23)),I 243 (C F_seek_Rune [(.v .nilptr),(.s 242),(.v (.int .i64 (-1)))]),I 241 (.mv (.s 243)),I 244 (.ext (.s 241) 0),I 245 (.ext (.s 241) 1),I 15 (.mv (.s 245))])
def p_quartolaw17_SeekNames_31 : PC :=
 (.reg [1,2,11,15,17,23] [I 247 (.mv (.s 1)),I 248 (.build [(.int .u64 0),(.int .i64 0),(.int .i64 0),(.int .i64 0),(.int .i64 0)] [(1,1,(V 1))]),I 249 (C F_seek_Line [(.s 247),(.s 248),(.v (.int .i64 (-1)))]),I 246 (.mv (.s 249)),I 250 (.ext (.s 246) 0),I 251 (.ext (.s 246) 1),I 17 (.mv (.s 251))])
def p_quartolaw17_SeekNames_32 : PC :=
 (.reg [1,2,11,15,17,23,25] [I 253 (.mv (.s 1)),I 254 (.build [(.int .u64 0),(.int .i64 0),(.int .i64 0),(.int .i64 0),(.int .i64 0)] [(0,1,(.v (.int .u64 65543)))]),I 255 (C F_seek_LineOf [(.s 253),(.s 254),(.v (.int .i64 (-1)))]),I 252 (.mv (.s 255)),I 256 (.ext (.s 252) 0),I 257 (.ext (.s 252) 1),I 24 (.mv (.s 256)),I 25 (.mv (.s 257))])
def p_quartolaw17_SeekNames_33 : PC :=
 (.reg [1,11,15,17,23,25,27] [I 259 (.mv (.s 1)),I 260 (.fadr 0 (.s 2)),I 261 (.ld false 1 (.s 260)),I 262 (.build [(.int .u64 0),(.int .i64 0),(.int .i64 0),(.int .i64 0),(.int .i64 0)] [(0,1,(.s 261)),(1,1,(V 1))]),I 263 (C F_seek_RunesBefore [(.s 259),(.s 262),(.v (.int .i64 (-1)))]),I 258 (.mv (.s 263)),I 264 (.ext (.s 258) 0),I 265 (.ext (.s 258) 1),I 26 (.mv (.s 264)),I 27 (.mv (.s 265))])
def p_quartolaw17_SeekNames_34 : PC :=
 (.reg [1,11,15,17,21,23,25,27,28] [I 267 (.mv (.s 1)),I 268 (.ld true 5 (.s 23)),I 269 (C F_seek_Boundary [(.s 267),(.s 268),(V 0)]),I 266 (.mv (.s 269)),I 270 (.ext (.s 266) 0),I 271 (.ext (.s 266) 1),I 21 (.mv (.s 270)),I 28 (.mv (.s 271))])
def p_quartolaw17_SeekNames_35 : PC :=
 (.reg [0] [I 272 (.mv (.s 11)),I 273 (.bin .eql (.s 272) (V 3)),I 274 (.mv (.s 273)),G 275 274 true (.mv (.s 15)),G 276 274 true (.bin .eql (.s 275) (V 1)),I 277 (.pick (.s 274) (.s 276) (.v (.bool false))),I 278 (.mv (.s 277)),G 279 278 true (.mv (.s 17)),G 280 278 true (.bin .eql (.s 279) (V 2)),I 281 (.pick (.s 278) (.s 280) (.v (.bool false))),I 282 (.mv (.s 281)),G 283 282 true (.mv (.s 25)),G 284 282 true (.bin .eql (.s 283) (V 10)),I 285 (.pick (.s 282) (.s 284) (.v (.bool false))),I 286 (.mv (.s 285)),G 287 286 true (.mv (.s 27)),G 288 286 true (.bin .eql (.s 287) (V 23)),I 289 (.pick (.s 286) (.s 288) (.v (.bool false))),I 290 (.mv (.s 289)),G 291 290 true (.mv (.s 21)),I 292 (.pick (.s 290) (.s 291) (.v (.bool false))),I 293 (.mv (.s 292)),G 294 293 true (.mv (.s 28)),G 295 293 true (.bin .eql (.s 294) (V 0)),I 296 (.pick (.s 293) (.s 295) (.v (.bool false))),I 297 (.mv (.s 296)),G 298 297 true (.mv (.s 1)),G 299 297 true (.ld true 5 (.s 23)),G 300 297 true (C F_seek_Rune [(.s 298),(.s 299),(V 0)]),G 301 297 true (.ext (.s 300) 0),G 302 297 true (.ext (.s 300) 1),G 303 297 true (C F_quartolaw17_number [(.s 301),(.s 302)]),G 304 297 true (.call .norm (.s 303) [(V 0)]),I 305 (.pick (.s 297) (.s 304) (.v (.bool false))),I 306 (.mv (.s 305)),G 307 306 true (.mv (.s 1)),G 308 306 true (.ld true 5 (.s 23)),G 309 306 true (C F_seek_Line [(.s 307),(.s 308),(V 0)]),G 310 306 true (.ext (.s 309) 0),G 311 306 true (.ext (.s 309) 1),G 312 306 true (C F_quartolaw17_number [(.s 310),(.s 311)]),G 313 306 true (.call .norm (.s 312) [(V 0)]),I 314 (.pick (.s 306) (.s 313) (.v (.bool false))),I 315 (.mv (.s 314)),G 316 315 true (.mv (.s 1)),G 317 315 true (.ld true 5 (.s 23)),G 318 315 true (C F_seek_LineOf [(.s 316),(.s 317),(V 0)]),G 319 315 true (.ext (.s 318) 0),G 320 315 true (.ext (.s 318) 1),G 321 315 true (C F_quartolaw17_number [(.s 319),(.s 320)]),G 322 315 true (.call .norm (.s 321) [(V 0)]),I 323 (.pick (.s 315) (.s 322) (.v (.bool false))),I 0 (.mv (.s 323))])
def p_quartolaw17_SeekNames : PF := ⟨false,
 (.seq p_quartolaw17_SeekNames_0
 (.seq p_quartolaw17_SeekNames_1
 (.seq (.seq p_quartolaw17_SeekNames_2
 (.ite (.s 41)
 (.seq p_quartolaw17_SeekNames_3
 .ret)
 .skip))
 (.seq p_quartolaw17_SeekNames_4
 (.seq (.seq p_quartolaw17_SeekNames_5
 (.ite (.s 65)
 (.seq p_quartolaw17_SeekNames_6
 .ret)
 .skip))
 (.seq p_quartolaw17_SeekNames_7
 (.seq (.seq p_quartolaw17_SeekNames_8
 (.ite (.s 90)
 (.seq p_quartolaw17_SeekNames_9
 .ret)
 .skip))
 (.seq p_quartolaw17_SeekNames_10
 (.seq p_quartolaw17_SeekNames_11
 (.seq p_quartolaw17_SeekNames_12
 (.seq (.seq p_quartolaw17_SeekNames_13
 (.ite (.s 126)
 (.seq p_quartolaw17_SeekNames_14
 .ret)
 .skip))
 (.seq p_quartolaw17_SeekNames_15
 (.seq (.seq p_quartolaw17_SeekNames_16
 (.block 0
 (.loop p_quartolaw17_SeekNames_22)))
 (.seq p_quartolaw17_SeekNames_23
 (.seq p_quartolaw17_SeekNames_24
 (.seq p_quartolaw17_SeekNames_25
 (.seq (.seq p_quartolaw17_SeekNames_26
 (.ite (.s 233)
 (.seq p_quartolaw17_SeekNames_27
 .ret)
 .skip))
 (.seq p_quartolaw17_SeekNames_28
 (.seq p_quartolaw17_SeekNames_29
 (.seq p_quartolaw17_SeekNames_30
 (.seq p_quartolaw17_SeekNames_31
 (.seq p_quartolaw17_SeekNames_32
 (.seq p_quartolaw17_SeekNames_33
 (.seq p_quartolaw17_SeekNames_34
 (.seq p_quartolaw17_SeekNames_35
 .ret))))))))))))))))))))))))),
 [.s 0]⟩
theorem c_quartolaw17_SeekNames : compF Go.Proofs.Try.prog false h_quartolaw17_SeekNames Go.Proofs.Try.f3 = some p_quartolaw17_SeekNames := by kernel_rfl
def h_quartolaw17_small : List Hint := [H [1],H [1,3,4],H [1,3,15],H [0,1,2],H [1,3,4,5],⟨[0,1,2],[],[],[],[(6,(.hide [(.s 1)])),(10,(.plain (.s 1)))],[]⟩]
def p_quartolaw17_small_0 : PC :=
 (.reg [1] [I 0 (.mv (.v .nilptr)),I 1 (.box (.v ZR)),I 2 (.mv (.v (.bool false)))])
def p_quartolaw17_small_1 : PC :=
 (.reg [1,3,4] [I 7 (C F_arena_New [(V 8),(.v (.int .u64 4))]),I 6 (.mv (.s 7)),I 8 (.ext (.s 6) 0),I 9 (.ext (.s 6) 1),I 3 (.mv (.s 8)),I 4 (.mv (.s 9))])
def p_quartolaw17_small_2 : PC :=
 (.reg [1,3,15] [I 10 (.mv (.s 3)),I 11 (.eqs false 3 [] (.s 10) (.v .nilptr)),I 12 (.mv (.s 11)),G 13 12 false (.mv (.s 4)),G 14 12 false (.bin .neq (.s 13) (V 0)),I 15 (.pick (.s 12) (.v (.bool true)) (.s 14))])
def p_quartolaw17_small_3 : PC :=
 (.reg [0,1,2] [I 16 (.build [(.int .u64 0),(.int .i64 0),(.int .i64 0),(.int .i64 0),(.int .i64 0)] []),I 0 (.mv (.v .nilptr)),J (.st 5 (.s 1) (.s 16)),I 2 (.mv (.v (.bool false)))])
def p_quartolaw17_small_4 : PC :=
 (.reg [1,3,4,5] [I 18 (.mv (.s 3)),I 19 (C F_rope_New [(.s 18),(.v (.str [97,195,177,10,98,99,100,101,102,103,104,105,106,107,108,109,110]))]),I 17 (.mv (.s 19)),I 20 (.ext (.s 17) 0),I 21 (.ext (.s 17) 1),I 5 (.box (.v ZR)),J (.st 5 (.s 5) (.s 20)),I 4 (.mv (.s 21))])
def p_quartolaw17_small_5 : PC :=
 (.reg [0,1,2] [I 22 (.mv (.s 3)),I 23 (.ld true 5 (.s 5)),I 24 (.mv (.s 4)),I 25 (.bin .eql (.s 24) (V 0)),I 26 (.mv (.s 25)),G 27 26 true (.fadr 0 (.s 5)),G 28 26 true (.w (.hide [(.s 1)]) (.ld false 1 (.s 27))),G 29 26 true (.bin .eql (.s 28) (.v (.int .u64 65538))),I 30 (.pick (.s 26) (.s 29) (.v (.bool false))),I 0 (.mv (.s 22)),J (.w (.plain (.s 1)) (.st 5 (.s 1) (.s 23))),I 2 (.mv (.s 30))])
def p_quartolaw17_small : PF := ⟨true,
 (.seq p_quartolaw17_small_0
 (.seq p_quartolaw17_small_1
 (.seq (.seq p_quartolaw17_small_2
 (.ite (.s 15)
 (.seq p_quartolaw17_small_3
 .ret)
 .skip))
 (.seq p_quartolaw17_small_4
 (.seq p_quartolaw17_small_5
 .ret))))),
 [.s 0,.c 1 true 5,.s 2]⟩
theorem c_quartolaw17_small : compF Go.Proofs.Try.prog true h_quartolaw17_small Go.Proofs.Try.f5 = some p_quartolaw17_small := by kernel_rfl
def h_quartolaw17_works : List Hint := [H [],H [1,2,3],H [1,2,14],H [0],H [1,2,4,5],H [4,5,6,7],H [0]]
def p_quartolaw17_works_0 : PC :=
 (.reg [] [I 0 (.mv (.v (.bool false)))])
def p_quartolaw17_works_1 : PC :=
 (.reg [1,2,3] [I 9 (C F_quartolaw17_small []),I 8 (.mv (.s 9)),I 10 (.ext (.s 8) 0),I 11 (.ext (.s 8) 1),I 12 (.ext (.s 8) 2),I 2 (.box (.v ZR)),I 1 (.mv (.s 10)),J (.st 5 (.s 2) (.s 11)),I 3 (.mv (.s 12))])
def p_quartolaw17_works_2 : PC :=
 (.reg [1,2,14] [I 13 (.mv (.s 3)),I 14 (.un .not (.s 13))])
def p_quartolaw17_works_3 : PC :=
 (.reg [0] [I 0 (.mv (.v (.bool false)))])
def p_quartolaw17_works_4 : PC :=
 (.reg [1,2,4,5] [I 16 (.mv (.s 1)),I 17 (.ld true 5 (.s 2)),I 18 (C F_seek_Rune [(.s 16),(.s 17),(V 2)]),I 15 (.mv (.s 18)),I 19 (.ext (.s 15) 0),I 20 (.ext (.s 15) 1),I 4 (.mv (.s 19)),I 5 (.mv (.s 20))])
def p_quartolaw17_works_5 : PC :=
 (.reg [4,5,6,7] [I 22 (.mv (.s 1)),I 23 (.ld true 5 (.s 2)),I 24 (C F_seek_Byte [(.s 22),(.s 23),(V 16)]),I 21 (.mv (.s 24)),I 25 (.ext (.s 21) 0),I 26 (.ext (.s 21) 1),I 6 (.mv (.s 25)),I 7 (.mv (.s 26))])
def p_quartolaw17_works_6 : PC :=
 (.reg [0] [I 27 (.mv (.s 5)),I 28 (.bin .eql (.s 27) (V 0)),I 29 (.mv (.s 28)),G 30 29 true (.mv (.s 7)),G 31 29 true (.bin .eql (.s 30) (V 0)),I 32 (.pick (.s 29) (.s 31) (.v (.bool false))),I 33 (.mv (.s 32)),G 34 33 true (.mv (.s 4)),G 35 33 true (.bin .eql (.s 34) (V 3)),I 36 (.pick (.s 33) (.s 35) (.v (.bool false))),I 37 (.mv (.s 36)),G 38 37 true (.mv (.s 6)),G 39 37 true (.bin .eql (.s 38) (.v (.int .u8 110))),I 40 (.pick (.s 37) (.s 39) (.v (.bool false))),I 0 (.mv (.s 40))])
def p_quartolaw17_works : PF := ⟨false,
 (.seq p_quartolaw17_works_0
 (.seq p_quartolaw17_works_1
 (.seq (.seq p_quartolaw17_works_2
 (.ite (.s 14)
 (.seq p_quartolaw17_works_3
 .ret)
 .skip))
 (.seq p_quartolaw17_works_4
 (.seq p_quartolaw17_works_5
 (.seq p_quartolaw17_works_6
 .ret)))))),
 [.s 0]⟩
theorem c_quartolaw17_works : compF Go.Proofs.Try.prog false h_quartolaw17_works Go.Proofs.Try.f6 = some p_quartolaw17_works := by kernel_rfl
def h_seek_Leaf : List Hint := [H [0,2,4],H [0,2,4,10],H [0,2,4,10,16],H [6,7,8,9],H [0,2,4,26],H [6,7,8,9],H [9,11],H [6,7,8,9]]
def p_seek_Leaf_0 : PC :=
 (.reg [0,2,4] [I 4 (.box (.s 1)),I 6 (.mv (.v (.str []))),I 7 (.mv (V 0)),I 8 (.mv (.v .nils)),I 9 (.mv (V 0))])
def p_seek_Leaf_1 : PC :=
 (.reg [0,2,4,10] [I 12 (.mv (.s 0)),I 13 (.ld true 5 (.s 4)),I 14 (C F_seek_check [(.s 12),(.s 13)]),I 10 (.mv (.s 14))])
def p_seek_Leaf_2 : PC :=
 (.reg [0,2,4,10,16] [I 15 (.mv (.s 10)),I 16 (.bin .neq (.s 15) (V 0))])
def p_seek_Leaf_3 : PC :=
 (.reg [6,7,8,9] [I 17 (.mv (.s 10)),I 6 (.mv (.v (.str []))),I 7 (.mv (V 0)),I 8 (.mv (.v .nils)),I 9 (.mv (.s 17))])
def p_seek_Leaf_4 : PC :=
 (.reg [0,2,4,26] [I 18 (.mv (.s 2)),I 19 (.bin .lss (.s 18) (V 0)),I 20 (.mv (.s 19)),G 21 20 false (.mv (.s 2)),G 22 20 false (.fadr 2 (.s 4)),G 23 20 false (.fadr 0 (.s 22)),G 24 20 false (.ld false 1 (.s 23)),G 25 20 false (.bin .geq (.s 21) (.s 24)),I 26 (.pick (.s 20) (.v (.bool true)) (.s 25))])
def p_seek_Leaf_5 : PC :=
 (.reg [6,7,8,9] [I 6 (.mv (.v (.str []))),I 7 (.mv (V 0)),I 8 (.mv (.v .nils)),I 9 (.mv (V 3))])
def p_seek_Leaf_6 : PC :=
 (.reg [9,11] [I 28 (.mv (.s 0)),I 29 (.ld true 5 (.s 4)),I 30 (.mv (.s 2)),I 31 (C F_seek_walk [(.s 28),(.s 29),(.s 30),(.v (.func (.func F_node_Child) [] [])),(.v (.func (.func F_seek_LeafC1) [] []))]),I 27 (.mv (.s 31)),I 32 (.ext (.s 27) 0),I 33 (.ext (.s 27) 1),I 11 (.box (.v (.agg [(.str []),(.int .i64 0),.nils]))),J (.st 3 (.s 11) (.s 32)),I 9 (.mv (.s 33))])
def p_seek_Leaf_7 : PC :=
 (.reg [6,7,8,9] [I 34 (.fadr 0 (.s 11)),I 35 (.ld false 1 (.s 34)),I 36 (.fadr 1 (.s 11)),I 37 (.ld false 1 (.s 36)),I 38 (.fadr 2 (.s 11)),I 39 (.ld false 1 (.s 38)),I 40 (.mv (.s 9)),I 6 (.mv (.s 35)),I 7 (.mv (.s 37)),I 8 (.mv (.s 39)),I 9 (.mv (.s 40))])
def p_seek_Leaf : PF := ⟨false,
 (.seq p_seek_Leaf_0
 (.seq (.seq p_seek_Leaf_1
 (.seq p_seek_Leaf_2
 (.ite (.s 16)
 (.seq p_seek_Leaf_3
 .ret)
 .skip)))
 (.seq (.seq p_seek_Leaf_4
 (.ite (.s 26)
 (.seq p_seek_Leaf_5
 .ret)
 .skip))
 (.seq p_seek_Leaf_6
 (.seq p_seek_Leaf_7
 .ret))))),
 [.s 6,.s 7,.s 8,.s 9]⟩
theorem c_seek_Leaf : compF Go.Proofs.Try.prog false h_seek_Leaf Go.Proofs.Try.f7 = some p_seek_Leaf := by kernel_rfl
def h_quartokit_EqualHandles : List Hint := [H [0,1],H [0,1,10],H [4],H [0,1,5],H [0,1,5,14],H [0,1,5,25],H [4],H [0,1,5],H [4]]
def p_quartokit_EqualHandles_0 : PC :=
 (.reg [0,1] [I 4 (.mv (.v (.bool false)))])
def p_quartokit_EqualHandles_1 : PC :=
 (.reg [0,1,10] [I 6 (.mv (.s 0)),I 7 (.len 1 (.s 6)),I 8 (.mv (.s 1)),I 9 (.len 1 (.s 8)),I 10 (.bin .neq (.s 7) (.s 9))])
def p_quartokit_EqualHandles_2 : PC :=
 (.reg [4] [I 4 (.mv (.v (.bool false)))])
def p_quartokit_EqualHandles_3 : PC :=
 (.reg [0,1,5] [I 5 (.mv (V 0))])
def p_quartokit_EqualHandles_4 : PC :=
 (.reg [0,1,5,14] [I 11 (.mv (.s 5)),I 12 (.mv (.s 0)),I 13 (.len 1 (.s 12)),I 14 (.bin .lss (.s 11) (.s 13))])
def p_quartokit_EqualHandles_5 : PC :=
 (.reg [0,1,5,25] [I 17 (.mv (.s 0)),I 18 (.mv (.s 5)),I 19 (.ixS 1 (.s 17) (.s 18)),I 20 (.ld false 1 (.s 19)),I 21 (.mv (.s 1)),I 22 (.mv (.s 5)),I 23 (.ixS 1 (.s 21) (.s 22)),I 24 (.ld false 1 (.s 23)),I 25 (.bin .neq (.s 20) (.s 24))])
def p_quartokit_EqualHandles_6 : PC :=
 (.reg [4] [I 4 (.mv (.v (.bool false)))])
def p_quartokit_EqualHandles_7 : PC :=
 (.reg [0,1,5] [I 15 (.mv (.s 5)),I 16 (.bin .add (.s 15) (V 1)),I 5 (.mv (.s 16))])
def p_quartokit_EqualHandles_8 : PC :=
 (.seq (.seq p_quartokit_EqualHandles_4
 (.ite (.s 14)
 .skip
 (.exit 0)))
 (.seq (.block 1
 (.seq p_quartokit_EqualHandles_5
 (.ite (.s 25)
 (.seq p_quartokit_EqualHandles_6
 .ret)
 .skip)))
 p_quartokit_EqualHandles_7))
def p_quartokit_EqualHandles_9 : PC :=
 (.reg [4] [I 4 (.mv (.v (.bool true)))])
def p_quartokit_EqualHandles : PF := ⟨false,
 (.seq p_quartokit_EqualHandles_0
 (.seq (.seq p_quartokit_EqualHandles_1
 (.ite (.s 10)
 (.seq p_quartokit_EqualHandles_2
 .ret)
 .skip))
 (.seq (.seq p_quartokit_EqualHandles_3
 (.block 0
 (.loop p_quartokit_EqualHandles_8)))
 (.seq p_quartokit_EqualHandles_9
 .ret)))),
 [.s 4]⟩
theorem c_quartokit_EqualHandles : compF Go.Proofs.Try.prog false h_quartokit_EqualHandles Go.Proofs.Try.f8 = some p_quartokit_EqualHandles := by kernel_rfl
def h_seek_Byte : List Hint := [H [0,2,4],H [8,9,11],H [8,9,11,22],H [6,7],H [8,9,31],H [6,7],H [6,7]]
def p_seek_Byte_0 : PC :=
 (.reg [0,2,4] [I 4 (.box (.s 1)),I 6 (.mv (.v (.int .u8 0))),I 7 (.mv (V 0))])
def p_seek_Byte_1 : PC :=
 (.reg [8,9,11] [I 13 (.mv (.s 0)),I 14 (.ld true 5 (.s 4)),I 15 (.mv (.s 2)),I 16 (C F_seek_Leaf [(.s 13),(.s 14),(.s 15)]),I 12 (.mv (.s 16)),I 17 (.ext (.s 12) 0),I 18 (.ext (.s 12) 1),I 19 (.ext (.s 12) 2),I 20 (.ext (.s 12) 3),I 8 (.mv (.s 17)),I 9 (.mv (.s 18)),I 10 (.mv (.s 19)),I 11 (.mv (.s 20))])
def p_seek_Byte_2 : PC :=
 (.reg [8,9,11,22] [I 21 (.mv (.s 11)),I 22 (.bin .neq (.s 21) (V 0))])
def p_seek_Byte_3 : PC :=
 (.reg [6,7] [I 23 (.mv (.s 11)),I 6 (.mv (.v (.int .u8 0))),I 7 (.mv (.s 23))])
def p_seek_Byte_4 : PC :=
 (.reg [8,9,31] [I 24 (.mv (.s 9)),I 25 (.bin .lss (.s 24) (V 0)),I 26 (.mv (.s 25)),G 27 26 false (.mv (.s 9)),G 28 26 false (.mv (.s 8)),G 29 26 false (.len 0 (.s 28)),G 30 26 false (.bin .geq (.s 27) (.s 29)),I 31 (.pick (.s 26) (.v (.bool true)) (.s 30))])
def p_seek_Byte_5 : PC :=
 (.reg [6,7] [I 6 (.mv (.v (.int .u8 0))),I 7 (.mv (V 23))])
def p_seek_Byte_6 : PC :=
 (.reg [6,7] [I 32 (.mv (.s 8)),I 33 (.mv (.s 9)),I 34 (.ixStr (.s 32) (.s 33)),I 6 (.mv (.s 34)),I 7 (.mv (V 0))])
def p_seek_Byte : PF := ⟨false,
 (.seq p_seek_Byte_0
 (.seq p_seek_Byte_1
 (.seq (.seq p_seek_Byte_2
 (.ite (.s 22)
 (.seq p_seek_Byte_3
 .ret)
 .skip))
 (.seq (.seq p_seek_Byte_4
 (.ite (.s 31)
 (.seq p_seek_Byte_5
 .ret)
 .skip))
 (.seq p_seek_Byte_6
 .ret))))),
 [.s 6,.s 7]⟩
theorem c_seek_Byte : compF Go.Proofs.Try.prog false h_seek_Byte Go.Proofs.Try.f9 = some p_seek_Byte := by kernel_rfl
def h_quartolaw17_number : List Hint := [H [2,3],H [4]]
def p_quartolaw17_number_0 : PC :=
 (.reg [2,3] [I 2 (.box (.s 0)),I 3 (.box (.s 1)),I 4 (.mv (.v .nilfunc))])
def p_quartolaw17_number_1 : PC :=
 (.reg [4] [I 5 (.mkf (.func F_quartolaw17_numberC1) [] [(.s 2),(.s 3)]),I 4 (.mv (.s 5))])
def p_quartolaw17_number : PF := ⟨false,
 (.seq p_quartolaw17_number_0
 (.seq p_quartolaw17_number_1
 .ret)),
 [.s 4]⟩
theorem c_quartolaw17_number : compF Go.Proofs.Try.prog false h_quartolaw17_number Go.Proofs.Try.f10 = some p_quartolaw17_number := by kernel_rfl
def h_seek_Rune : List Hint := [H [0,2,4],H [0,2,4,8],H [0,2,4,8,13],H [6,7],H [0,2,4,23],H [6,7],H [0,2,4,28],H [6,7],H [6,7]]
def p_seek_Rune_0 : PC :=
 (.reg [0,2,4] [I 4 (.box (.s 1)),I 6 (.mv (V 0)),I 7 (.mv (V 0))])
def p_seek_Rune_1 : PC :=
 (.reg [0,2,4,8] [I 9 (.mv (.s 0)),I 10 (.ld true 5 (.s 4)),I 11 (C F_seek_check [(.s 9),(.s 10)]),I 8 (.mv (.s 11))])
def p_seek_Rune_2 : PC :=
 (.reg [0,2,4,8,13] [I 12 (.mv (.s 8)),I 13 (.bin .neq (.s 12) (V 0))])
def p_seek_Rune_3 : PC :=
 (.reg [6,7] [I 14 (.mv (.s 8)),I 6 (.mv (V 0)),I 7 (.mv (.s 14))])
def p_seek_Rune_4 : PC :=
 (.reg [0,2,4,23] [I 15 (.mv (.s 2)),I 16 (.bin .lss (.s 15) (V 0)),I 17 (.mv (.s 16)),G 18 17 false (.mv (.s 2)),G 19 17 false (.fadr 2 (.s 4)),G 20 17 false (.fadr 1 (.s 19)),G 21 17 false (.ld false 1 (.s 20)),G 22 17 false (.bin .gtr (.s 18) (.s 21)),I 23 (.pick (.s 17) (.v (.bool true)) (.s 22))])
def p_seek_Rune_5 : PC :=
 (.reg [6,7] [I 6 (.mv (V 0)),I 7 (.mv (V 3))])
def p_seek_Rune_6 : PC :=
 (.reg [0,2,4,28] [I 24 (.mv (.s 2)),I 25 (.fadr 2 (.s 4)),I 26 (.fadr 1 (.s 25)),I 27 (.ld false 1 (.s 26)),I 28 (.bin .eql (.s 24) (.s 27))])
def p_seek_Rune_7 : PC :=
 (.reg [6,7] [I 29 (.fadr 2 (.s 4)),I 30 (.fadr 0 (.s 29)),I 31 (.ld false 1 (.s 30)),I 6 (.mv (.s 31)),I 7 (.mv (V 0))])
def p_seek_Rune_8 : PC :=
 (.reg [6,7] [I 32 (.mv (.s 0)),I 33 (.ld true 5 (.s 4)),I 34 (.mv (.s 2)),I 35 (C F_seek_offset [(.s 32),(.s 33),(.s 34),(.v (.func (.func F_node_Rune) [] [])),(.v (.func (.func F_measure_Rune) [] []))]),I 36 (.ext (.s 35) 0),I 37 (.ext (.s 35) 1),I 6 (.mv (.s 36)),I 7 (.mv (.s 37))])
def p_seek_Rune : PF := ⟨false,
 (.seq p_seek_Rune_0
 (.seq (.seq p_seek_Rune_1
 (.seq p_seek_Rune_2
 (.ite (.s 13)
 (.seq p_seek_Rune_3
 .ret)
 .skip)))
 (.seq (.seq p_seek_Rune_4
 (.ite (.s 23)
 (.seq p_seek_Rune_5
 .ret)
 .skip))
 (.seq (.seq p_seek_Rune_6
 (.ite (.s 28)
 (.seq p_seek_Rune_7
 .ret)
 .skip))
 (.seq p_seek_Rune_8
 .ret))))),
 [.s 6,.s 7]⟩
theorem c_seek_Rune : compF Go.Proofs.Try.prog false h_seek_Rune Go.Proofs.Try.f11 = some p_seek_Rune := by kernel_rfl
def h_seek_RunesBefore : List Hint := [H [0,2,4],H [6,7]]
def p_seek_RunesBefore_0 : PC :=
 (.reg [0,2,4] [I 4 (.box (.s 1)),I 6 (.mv (V 0)),I 7 (.mv (V 0))])
def p_seek_RunesBefore_1 : PC :=
 (.reg [6,7] [I 8 (.mv (.s 0)),I 9 (.ld true 5 (.s 4)),I 10 (.mv (.s 2)),I 11 (C F_seek_before [(.s 8),(.s 9),(.s 10),(.v (.func (.func F_seek_RunesBeforeC1) [] [])),(.v (.func (.func F_measure_RunesBefore) [] []))]),I 12 (.ext (.s 11) 0),I 13 (.ext (.s 11) 1),I 6 (.mv (.s 12)),I 7 (.mv (.s 13))])
def p_seek_RunesBefore : PF := ⟨false,
 (.seq p_seek_RunesBefore_0
 (.seq p_seek_RunesBefore_1
 .ret)),
 [.s 6,.s 7]⟩
theorem c_seek_RunesBefore : compF Go.Proofs.Try.prog false h_seek_RunesBefore Go.Proofs.Try.f12 = some p_seek_RunesBefore := by kernel_rfl
def h_seek_Line : List Hint := [H [0,2,4],H [0,2,4,8],H [0,2,4,8,13],H [6,7],H [0,2,4,23],H [6,7],H [0,2,4,25],H [6,7],H [6,7]]
def p_seek_Line_0 : PC :=
 (.reg [0,2,4] [I 4 (.box (.s 1)),I 6 (.mv (V 0)),I 7 (.mv (V 0))])
def p_seek_Line_1 : PC :=
 (.reg [0,2,4,8] [I 9 (.mv (.s 0)),I 10 (.ld true 5 (.s 4)),I 11 (C F_seek_check [(.s 9),(.s 10)]),I 8 (.mv (.s 11))])
def p_seek_Line_2 : PC :=
 (.reg [0,2,4,8,13] [I 12 (.mv (.s 8)),I 13 (.bin .neq (.s 12) (V 0))])
def p_seek_Line_3 : PC :=
 (.reg [6,7] [I 14 (.mv (.s 8)),I 6 (.mv (V 0)),I 7 (.mv (.s 14))])
def p_seek_Line_4 : PC :=
 (.reg [0,2,4,23] [I 15 (.mv (.s 2)),I 16 (.bin .lss (.s 15) (V 0)),I 17 (.mv (.s 16)),G 18 17 false (.mv (.s 2)),G 19 17 false (.fadr 2 (.s 4)),G 20 17 false (.fadr 2 (.s 19)),G 21 17 false (.ld false 1 (.s 20)),G 22 17 false (.bin .gtr (.s 18) (.s 21)),I 23 (.pick (.s 17) (.v (.bool true)) (.s 22))])
def p_seek_Line_5 : PC :=
 (.reg [6,7] [I 6 (.mv (V 0)),I 7 (.mv (V 3))])
def p_seek_Line_6 : PC :=
 (.reg [0,2,4,25] [I 24 (.mv (.s 2)),I 25 (.bin .eql (.s 24) (V 0))])
def p_seek_Line_7 : PC :=
 (.reg [6,7] [I 6 (.mv (V 0)),I 7 (.mv (V 0))])
def p_seek_Line_8 : PC :=
 (.reg [6,7] [I 26 (.mv (.s 0)),I 27 (.ld true 5 (.s 4)),I 28 (.mv (.s 2)),I 29 (C F_seek_offset [(.s 26),(.s 27),(.s 28),(.v (.func (.func F_node_Line) [] [])),(.v (.func (.func F_measure_Line) [] []))]),I 30 (.ext (.s 29) 0),I 31 (.ext (.s 29) 1),I 6 (.mv (.s 30)),I 7 (.mv (.s 31))])
def p_seek_Line : PF := ⟨false,
 (.seq p_seek_Line_0
 (.seq (.seq p_seek_Line_1
 (.seq p_seek_Line_2
 (.ite (.s 13)
 (.seq p_seek_Line_3
 .ret)
 .skip)))
 (.seq (.seq p_seek_Line_4
 (.ite (.s 23)
 (.seq p_seek_Line_5
 .ret)
 .skip))
 (.seq (.seq p_seek_Line_6
 (.ite (.s 25)
 (.seq p_seek_Line_7
 .ret)
 .skip))
 (.seq p_seek_Line_8
 .ret))))),
 [.s 6,.s 7]⟩
theorem c_seek_Line : compF Go.Proofs.Try.prog false h_seek_Line Go.Proofs.Try.f13 = some p_seek_Line := by kernel_rfl
def h_seek_LineOf : List Hint := [H [0,2,4],H [6,7]]
def p_seek_LineOf_0 : PC :=
 (.reg [0,2,4] [I 4 (.box (.s 1)),I 6 (.mv (V 0)),I 7 (.mv (V 0))])
def p_seek_LineOf_1 : PC :=
 (.reg [6,7] [I 8 (.mv (.s 0)),I 9 (.ld true 5 (.s 4)),I 10 (.mv (.s 2)),I 11 (C F_seek_before [(.s 8),(.s 9),(.s 10),(.v (.func (.func F_seek_LineOfC1) [] [])),(.v (.func (.func F_measure_LineOf) [] []))]),I 12 (.ext (.s 11) 0),I 13 (.ext (.s 11) 1),I 6 (.mv (.s 12)),I 7 (.mv (.s 13))])
def p_seek_LineOf : PF := ⟨false,
 (.seq p_seek_LineOf_0
 (.seq p_seek_LineOf_1
 .ret)),
 [.s 6,.s 7]⟩
theorem c_seek_LineOf : compF Go.Proofs.Try.prog false h_seek_LineOf Go.Proofs.Try.f14 = some p_seek_LineOf := by kernel_rfl
def h_seek_Boundary : List Hint := [H [0,2,4],H [0,2,4,8],H [0,2,4,8,15],H [6,7],H [0,2,4,25],H [6,7],H [0,2,4,30],H [6,7],H [9,10],H [6,7]]
def p_seek_Boundary_0 : PC :=
 (.reg [0,2,4] [I 4 (.box (.s 1)),I 6 (.mv (.v (.bool false))),I 7 (.mv (V 0))])
def p_seek_Boundary_1 : PC :=
 (.reg [0,2,4,8] [I 11 (.mv (.s 0)),I 12 (.ld true 5 (.s 4)),I 13 (C F_seek_check [(.s 11),(.s 12)]),I 8 (.mv (.s 13))])
def p_seek_Boundary_2 : PC :=
 (.reg [0,2,4,8,15] [I 14 (.mv (.s 8)),I 15 (.bin .neq (.s 14) (V 0))])
def p_seek_Boundary_3 : PC :=
 (.reg [6,7] [I 16 (.mv (.s 8)),I 6 (.mv (.v (.bool false))),I 7 (.mv (.s 16))])
def p_seek_Boundary_4 : PC :=
 (.reg [0,2,4,25] [I 17 (.mv (.s 2)),I 18 (.bin .lss (.s 17) (V 0)),I 19 (.mv (.s 18)),G 20 19 false (.mv (.s 2)),G 21 19 false (.fadr 2 (.s 4)),G 22 19 false (.fadr 0 (.s 21)),G 23 19 false (.ld false 1 (.s 22)),G 24 19 false (.bin .gtr (.s 20) (.s 23)),I 25 (.pick (.s 19) (.v (.bool true)) (.s 24))])
def p_seek_Boundary_5 : PC :=
 (.reg [6,7] [I 6 (.mv (.v (.bool false))),I 7 (.mv (V 3))])
def p_seek_Boundary_6 : PC :=
 (.reg [0,2,4,30] [I 26 (.mv (.s 2)),I 27 (.fadr 2 (.s 4)),I 28 (.fadr 0 (.s 27)),I 29 (.ld false 1 (.s 28)),I 30 (.bin .eql (.s 26) (.s 29))])
def p_seek_Boundary_7 : PC :=
 (.reg [6,7] [I 6 (.mv (.v (.bool true))),I 7 (.mv (V 0))])
def p_seek_Boundary_8 : PC :=
 (.reg [9,10] [I 32 (.mv (.s 0)),I 33 (.ld true 5 (.s 4)),I 34 (.mv (.s 2)),I 35 (C F_seek_Byte [(.s 32),(.s 33),(.s 34)]),I 31 (.mv (.s 35)),I 36 (.ext (.s 31) 0),I 37 (.ext (.s 31) 1),I 9 (.mv (.s 36)),I 10 (.mv (.s 37))])
def p_seek_Boundary_9 : PC :=
 (.reg [6,7] [I 38 (.mv (.s 10)),I 39 (.bin .eql (.s 38) (V 0)),I 40 (.mv (.s 39)),G 41 40 true (.mv (.s 9)),G 42 40 true (.bin .lss (.s 41) (.v (.int .u8 128))),G 43 40 true (.mv (.s 42)),G 44 43 false (.mv (.s 9)),G 45 43 false (.bin .gtr (.s 44) (.v (.int .u8 191))),G 46 40 true (.pick (.s 43) (.v (.bool true)) (.s 45)),I 47 (.pick (.s 40) (.s 46) (.v (.bool false))),I 48 (.mv (.s 10)),I 6 (.mv (.s 47)),I 7 (.mv (.s 48))])
def p_seek_Boundary : PF := ⟨false,
 (.seq p_seek_Boundary_0
 (.seq (.seq p_seek_Boundary_1
 (.seq p_seek_Boundary_2
 (.ite (.s 15)
 (.seq p_seek_Boundary_3
 .ret)
 .skip)))
 (.seq (.seq p_seek_Boundary_4
 (.ite (.s 25)
 (.seq p_seek_Boundary_5
 .ret)
 .skip))
 (.seq (.seq p_seek_Boundary_6
 (.ite (.s 30)
 (.seq p_seek_Boundary_7
 .ret)
 .skip))
 (.seq p_seek_Boundary_8
 (.seq p_seek_Boundary_9
 .ret)))))),
 [.s 6,.s 7]⟩
theorem c_seek_Boundary : compF Go.Proofs.Try.prog false h_seek_Boundary Go.Proofs.Try.f15 = some p_seek_Boundary := by kernel_rfl
def h_rope_Write : List Hint := [⟨[0,3,4,5],[2],[],[],[],[]⟩,H [4,5,6,7],H [4,5,6,7,18],⟨[4,5,6],[3],[],[],[],[]⟩,H [4,5,7,26],H [4,5,7,8,10],H [4,5,7,8,10,34],⟨[4,5,6],[3],[],[],[],[]⟩,H [4,5,7],H [4,5,6],H [4,5,6]]
def p_rope_Write_0 : PC :=
 (.reg [0,3,4,5] [I 3 (.box (.s 1)),I 4 (.box (.v ZR)),I 5 (.onil 1),I 6 (.mv (V 0))])
def p_rope_Write_1 : PC :=
 (.reg [4,5,6,7] [I 12 (.mv (.s 0)),I 13 (.ld true 7 (.s 3)),I 14 (C F_rope_Begin [(.s 12),(.s 13)]),I 11 (.mv (.s 14)),I 15 (.ext (.s 11) 0),I 16 (.ext (.s 11) 1),I 7 (.mv (.s 15)),I 6 (.mv (.s 16))])
def p_rope_Write_2 : PC :=
 (.reg [4,5,6,7,18] [I 17 (.mv (.s 6)),I 18 (.bin .neq (.s 17) (V 0))])
def p_rope_Write_3 : PC :=
 (.reg [4,5,6] [I 19 (.build [(.int .u64 0),(.int .i64 0),(.int .i64 0),(.int .i64 0),(.int .i64 0)] []),I 20 (.mv (.s 6)),J (.st 5 (.s 4) (.s 19)),I 5 (.onil 1),I 6 (.mv (.s 20))])
def p_rope_Write_4 : PC :=
 (.reg [4,5,7,26] [I 21 (.mv (.s 7)),I 22 (.nilck (.s 21)),I 23 (.fadr 1 (.s 22)),I 24 (.ld false 1 (.s 23)),I 25 (.len 1 (.s 24)),I 26 (.bin .gtr (.s 25) (V 0))])
def p_rope_Write_5 : PC :=
 (.reg [4,5,7,8,10] [I 28 (.mv (.s 7)),I 29 (C F_rope_Pen_Step [(.s 28)]),I 27 (.mv (.s 29)),I 30 (.ext (.s 27) 0),I 31 (.ext (.s 27) 1),I 32 (.ext (.s 27) 2),I 8 (.mv (.s 30)),I 9 (.mv (.s 31)),I 10 (.mv (.s 32))])
def p_rope_Write_6 : PC :=
 (.reg [4,5,7,8,10,34] [I 33 (.mv (.s 10)),I 34 (.bin .neq (.s 33) (V 0))])
def p_rope_Write_7 : PC :=
 (.reg [4,5,6] [I 35 (.build [(.int .u64 0),(.int .i64 0),(.int .i64 0),(.int .i64 0),(.int .i64 0)] []),I 36 (.mv (.s 10)),J (.st 5 (.s 4) (.s 35)),I 5 (.onil 1),I 6 (.mv (.s 36))])
def p_rope_Write_8 : PC :=
 (.reg [4,5,7] [I 37 (.mv (.s 5)),I 38 (.mv (.s 8)),I 39 (.bslice false 1 [(.int .u64 0)] [(0,(.s 38))]),I 40 (.app 1 8 (.s 37) (.s 39)),I 5 (.mv (.s 40))])
def p_rope_Write_9 : PC :=
 (.seq (.seq p_rope_Write_4
 (.ite (.s 26)
 .skip
 (.exit 0)))
 (.block 1
 (.seq p_rope_Write_5
 (.seq (.seq p_rope_Write_6
 (.ite (.s 34)
 (.seq p_rope_Write_7
 .ret)
 .skip))
 p_rope_Write_8))))
def p_rope_Write_10 : PC :=
 (.reg [4,5,6] [I 42 (.mv (.s 7)),I 43 (C F_rope_Pen_Root [(.s 42)]),I 41 (.mv (.s 43)),I 44 (.ext (.s 41) 0),I 45 (.ext (.s 41) 1),J (.st 5 (.s 4) (.s 44)),I 6 (.mv (.s 45))])
def p_rope_Write_11 : PC :=
 (.reg [4,5,6] [I 46 (.ld true 5 (.s 4)),I 47 (.mv (.s 5)),I 48 (.mv (.s 6)),J (.st 5 (.s 4) (.s 46)),I 5 (.mv (.s 47)),I 6 (.mv (.s 48))])
def p_rope_Write : PF := ⟨false,
 (.seq p_rope_Write_0
 (.seq p_rope_Write_1
 (.seq (.seq p_rope_Write_2
 (.ite (.s 18)
 (.seq p_rope_Write_3
 .ret)
 .skip))
 (.seq (.block 0
 (.loop p_rope_Write_9))
 (.seq p_rope_Write_10
 (.seq p_rope_Write_11
 .ret)))))),
 [.c 4 true 5,.s 5,.s 6]⟩
theorem c_rope_Write : compF Go.Proofs.Try.prog false h_rope_Write Go.Proofs.Try.f23 = some p_rope_Write := by kernel_rfl
def h_rope_New : List Hint := [H [0,1,4],H [0,1,4,11],H [4,5],H [0,4,6,7],H [0,4,6,7,19],H [4,5],H [4,7,8],H [4,5]]
def p_rope_New_0 : PC :=
 (.reg [0,1,4] [I 4 (.box (.v ZR)),I 5 (.mv (V 0))])
def p_rope_New_1 : PC :=
 (.reg [0,1,4,11] [I 10 (.mv (.s 0)),I 11 (.eqs false 3 [] (.s 10) (.v .nilptr))])
def p_rope_New_2 : PC :=
 (.reg [4,5] [I 12 (.build [(.int .u64 0),(.int .i64 0),(.int .i64 0),(.int .i64 0),(.int .i64 0)] []),J (.st 5 (.s 4) (.s 12)),I 5 (.mv (V 1))])
def p_rope_New_3 : PC :=
 (.reg [0,4,6,7] [I 14 (.mv (.s 1)),I 15 (C F_plan_Build [(.s 14)]),I 13 (.mv (.s 15)),I 16 (.ext (.s 13) 0),I 17 (.ext (.s 13) 1),I 6 (.box (.v ZT)),J (.st 7 (.s 6) (.s 16)),I 7 (.mv (.s 17))])
def p_rope_New_4 : PC :=
 (.reg [0,4,6,7,19] [I 18 (.mv (.s 7)),I 19 (.bin .neq (.s 18) (V 0))])
def p_rope_New_5 : PC :=
 (.reg [4,5] [I 20 (.build [(.int .u64 0),(.int .i64 0),(.int .i64 0),(.int .i64 0),(.int .i64 0)] []),I 21 (.mv (.s 7)),J (.st 5 (.s 4) (.s 20)),I 5 (.mv (.s 21))])
def p_rope_New_6 : PC :=
 (.reg [4,7,8] [I 23 (.mv (.s 0)),I 24 (.ld true 7 (.s 6)),I 25 (C F_rope_Write [(.s 23),(.s 24)]),I 22 (.mv (.s 25)),I 26 (.ext (.s 22) 0),I 27 (.ext (.s 22) 1),I 28 (.ext (.s 22) 2),I 8 (.box (.v ZR)),J (.st 5 (.s 8) (.s 26)),I 9 (.mv (.s 27)),I 7 (.mv (.s 28))])
def p_rope_New_7 : PC :=
 (.reg [4,5] [I 29 (.ld true 5 (.s 8)),I 30 (.mv (.s 7)),J (.st 5 (.s 4) (.s 29)),I 5 (.mv (.s 30))])
def p_rope_New : PF := ⟨false,
 (.seq p_rope_New_0
 (.seq (.seq p_rope_New_1
 (.ite (.s 11)
 (.seq p_rope_New_2
 .ret)
 .skip))
 (.seq p_rope_New_3
 (.seq (.seq p_rope_New_4
 (.ite (.s 19)
 (.seq p_rope_New_5
 .ret)
 .skip))
 (.seq p_rope_New_6
 (.seq p_rope_New_7
 .ret)))))),
 [.c 4 true 5,.s 5]⟩
theorem c_rope_New : compF Go.Proofs.Try.prog false h_rope_New Go.Proofs.Try.f26 = some p_rope_New := by kernel_rfl
def h_plan_Build : List Hint := [H [0,2],H [0,2,14],H [2,3],⟨[0,2,4],[0],[],[],[],[]⟩,H [2,4,17,18,19],H [2,4,17,18,19,20],H [2,4,6,17,18,19],H [2,4,17,18,19],H [2,4,17,18,19],H [2,4,31],H [2,4,7,8],H [2,4,7,8,39],H [2,3],⟨[2,4,7,9],[0],[],[],[],[]⟩,H [2,4,9,42,43,44],H [2,4,9,42,43,44,45],H [2,4,9,11,42,43,44],H [2,4,9,11,42,43,44],H [2,4,9,42,43,44],H [2,4,9,42,43,44],H [2,4],H [2,3]]
def p_plan_Build_0 : PC :=
 (.reg [0,2] [I 2 (.box (.v ZT)),I 3 (.mv (V 0))])
def p_plan_Build_1 : PC :=
 (.reg [0,2,14] [I 12 (.mv (.s 0)),I 13 (.len 0 (.s 12)),I 14 (.bin .gtr (.s 13) (V 65536))])
def p_plan_Build_2 : PC :=
 (.reg [2,3] [I 15 (.build [(.int .u64 0),(.int .i64 0),(.int .i64 0),(.int .i64 0),(.int .i64 0),(.str []),.nils] []),J (.st 7 (.s 2) (.s 15)),I 3 (.mv (V 5))])
def p_plan_Build_3 : PC :=
 (.reg [0,2,4] [I 4 (.onil 7)])
def p_plan_Build_4 : PC :=
 (.reg [2,4,17,18,19] [I 16 (.mv (.s 0)),I 17 (C F_chunk_Chunks [(.s 16)]),I 18 (.len 1 (.s 17)),I 19 (.mv (V 0))])
def p_plan_Build_5 : PC :=
 (.reg [2,4,17,18,19,20] [I 20 (.bin .lss (.s 19) (.s 18))])
def p_plan_Build_6 : PC :=
 (.reg [2,4,6,17,18,19] [I 21 (.ixS 1 (.s 17) (.s 19)),I 22 (.ld false 1 (.s 21)),I 6 (.mv (.s 22))])
def p_plan_Build_7 : PC :=
 (.reg [2,4,17,18,19] [I 23 (.mv (.s 4)),I 24 (.mv (.s 6)),I 25 (.build [(.int .u64 0),(.int .i64 0),(.int .i64 0),(.int .i64 0),(.int .i64 0),(.str []),.nils] [(5,1,(.s 24))]),I 26 (.bslice false 7 [ZT] [(0,(.s 25))]),I 27 (.app 7 80 (.s 23) (.s 26)),I 4 (.mv (.s 27))])
def p_plan_Build_8 : PC :=
 (.reg [2,4,17,18,19] [I 28 (.bin .add (.s 19) (V 1)),I 19 (.mv (.s 28))])
def p_plan_Build_9 : PC :=
 (.seq p_plan_Build_5
 (.seq (.ite (.s 20)
 .skip
 (.exit 0))
 (.seq (.block 1
 (.seq p_plan_Build_6
 p_plan_Build_7))
 p_plan_Build_8)))
def p_plan_Build_10 : PC :=
 (.reg [2,4,31] [I 29 (.mv (.s 4)),I 30 (.len 1 (.s 29)),I 31 (.bin .gtr (.s 30) (V 1))])
def p_plan_Build_11 : PC :=
 (.reg [2,4,7,8] [I 33 (.mv (.s 4)),I 34 (.len 1 (.s 33)),I 35 (C F_chunk_Even [(.s 34),(V 4)]),I 32 (.mv (.s 35)),I 36 (.ext (.s 32) 0),I 37 (.ext (.s 32) 1),I 7 (.mv (.s 36)),I 8 (.mv (.s 37))])
def p_plan_Build_12 : PC :=
 (.reg [2,4,7,8,39] [I 38 (.mv (.s 8)),I 39 (.bin .neq (.s 38) (V 0))])
def p_plan_Build_13 : PC :=
 (.reg [2,3] [I 40 (.build [(.int .u64 0),(.int .i64 0),(.int .i64 0),(.int .i64 0),(.int .i64 0),(.str []),.nils] []),I 41 (.mv (.s 8)),J (.st 7 (.s 2) (.s 40)),I 3 (.mv (.s 41))])
def p_plan_Build_14 : PC :=
 (.reg [2,4,7,9] [I 9 (.onil 7)])
def p_plan_Build_15 : PC :=
 (.reg [2,4,9,42,43,44] [I 42 (.mv (.s 7)),I 43 (.len 1 (.s 42)),I 44 (.mv (V 0))])
def p_plan_Build_16 : PC :=
 (.reg [2,4,9,42,43,44,45] [I 45 (.bin .lss (.s 44) (.s 43))])
def p_plan_Build_17 : PC :=
 (.reg [2,4,9,11,42,43,44] [I 46 (.ixS 1 (.s 42) (.s 44)),I 47 (.ld false 1 (.s 46)),I 11 (.mv (.s 47))])
def p_plan_Build_18 : PC :=
 (.reg [2,4,9,11,42,43,44] [I 48 (.mv (.s 9)),I 49 (.mv (.s 4)),I 50 (.mv (.s 11)),I 51 (.slc 7 (.s 49) none (some (.s 50))),I 52 (C F_plan_group [(.s 51)]),I 53 (.bslice false 7 [ZT] [(0,(.s 52))]),I 54 (.app 7 80 (.s 48) (.s 53)),I 9 (.mv (.s 54))])
def p_plan_Build_19 : PC :=
 (.reg [2,4,9,42,43,44] [I 55 (.mv (.s 4)),I 56 (.mv (.s 11)),I 57 (.slc 7 (.s 55) (some (.s 56)) none),I 4 (.mv (.s 57))])
def p_plan_Build_20 : PC :=
 (.reg [2,4,9,42,43,44] [I 58 (.bin .add (.s 44) (V 1)),I 44 (.mv (.s 58))])
def p_plan_Build_21 : PC :=
 (.seq p_plan_Build_16
 (.seq (.ite (.s 45)
 .skip
 (.exit 4))
 (.seq (.block 5
 (.seq p_plan_Build_17
 (.seq p_plan_Build_18
 p_plan_Build_19)))
 p_plan_Build_20)))
def p_plan_Build_22 : PC :=
 (.reg [2,4] [I 59 (.mv (.s 9)),I 4 (.mv (.s 59))])
def p_plan_Build_23 : PC :=
 (.seq (.seq p_plan_Build_10
 (.ite (.s 31)
 .skip
 (.exit 2)))
 (.block 3
 (.seq p_plan_Build_11
 (.seq (.seq p_plan_Build_12
 (.ite (.s 39)
 (.seq p_plan_Build_13
 .ret)
 .skip))
 (.seq p_plan_Build_14
 (.seq (.seq p_plan_Build_15
 (.block 4
 (.loop p_plan_Build_21)))
 p_plan_Build_22))))))
def p_plan_Build_24 : PC :=
 (.reg [2,3] [I 60 (.mv (.s 4)),I 61 (C F_plan_group [(.s 60)]),J (.st 7 (.s 2) (.s 61)),I 3 (.mv (V 0))])
def p_plan_Build : PF := ⟨false,
 (.seq p_plan_Build_0
 (.seq (.seq p_plan_Build_1
 (.ite (.s 14)
 (.seq p_plan_Build_2
 .ret)
 .skip))
 (.seq p_plan_Build_3
 (.seq (.seq p_plan_Build_4
 (.block 0
 (.loop p_plan_Build_9)))
 (.seq (.block 2
 (.loop p_plan_Build_23))
 (.seq p_plan_Build_24
 .ret)))))),
 [.c 2 true 7,.s 3]⟩
theorem c_plan_Build : compF Go.Proofs.Try.prog false h_plan_Build Go.Proofs.Try.f27 = some p_plan_Build := by kernel_rfl
def h_rope_Begin : List Hint := [H [0,3],H [0,3,6],H [0,3,6,12],H [4,5],H [0,3,19],H [4,5],H [3,7],H [7],H [4,5]]
def p_rope_Begin_0 : PC :=
 (.reg [0,3] [I 3 (.box (.s 1)),I 4 (.mv (.v .nilptr)),I 5 (.mv (V 0))])
def p_rope_Begin_1 : PC :=
 (.reg [0,3,6] [I 8 (.mv (.s 0)),I 9 (.ld true 7 (.s 3)),I 10 (C F_plan_Check [(.s 8),(.s 9)]),I 6 (.mv (.s 10))])
def p_rope_Begin_2 : PC :=
 (.reg [0,3,6,12] [I 11 (.mv (.s 6)),I 12 (.bin .neq (.s 11) (V 0))])
def p_rope_Begin_3 : PC :=
 (.reg [4,5] [I 13 (.mv (.s 6)),I 4 (.mv (.v .nilptr)),I 5 (.mv (.s 13))])
def p_rope_Begin_4 : PC :=
 (.reg [0,3,19] [I 14 (.ld true 7 (.s 3)),I 15 (C F_plan_New [(.s 14)]),I 16 (.mv (.s 0)),I 17 (C F_arena_Arena_Stats [(.s 16)]),I 18 (.fld false 1 1 (.s 17)),I 19 (.bin .gtr (.s 15) (.s 18))])
def p_rope_Begin_5 : PC :=
 (.reg [4,5] [I 4 (.mv (.v .nilptr)),I 5 (.mv (V 6))])
def p_rope_Begin_6 : PC :=
 (.reg [3,7] [I 20 (.mv (.s 0)),I 21 (.build [.nilptr,.nils,.nilptr] [(0,1,(.s 20))]),I 22 (.box (.s 21)),I 7 (.mv (.s 22))])
def p_rope_Begin_7 : PC :=
 (.reg [7] [I 23 (.mv (.s 7)),I 24 (.mv (.s 7)),I 25 (.ld true 7 (.s 3)),I 26 (C F_rope_Pen_add [(.s 24),(.s 25)]),I 27 (.nilck (.s 23)),I 28 (.fadr 2 (.s 27)),J (.st 1 (.s 28) (.s 26))])
def p_rope_Begin_8 : PC :=
 (.reg [4,5] [I 29 (.mv (.s 7)),I 4 (.mv (.s 29)),I 5 (.mv (V 0))])
def p_rope_Begin : PF := ⟨true,
 (.seq p_rope_Begin_0
 (.seq (.seq p_rope_Begin_1
 (.seq p_rope_Begin_2
 (.ite (.s 12)
 (.seq p_rope_Begin_3
 .ret)
 .skip)))
 (.seq (.seq p_rope_Begin_4
 (.ite (.s 19)
 (.seq p_rope_Begin_5
 .ret)
 .skip))
 (.seq p_rope_Begin_6
 (.seq p_rope_Begin_7
 (.seq p_rope_Begin_8
 .ret)))))),
 [.s 4,.s 5]⟩
theorem c_rope_Begin : compF Go.Proofs.Try.prog true h_rope_Begin Go.Proofs.Try.f28 = some p_rope_Begin := by kernel_rfl
def h_rope_Pen_Root : List Hint := [H [0,2],H [0,2,5],H [2,3],H [0,2,12],H [2,3],H [2,3]]
def p_rope_Pen_Root_0 : PC :=
 (.reg [0,2] [I 2 (.box (.v ZR)),I 3 (.mv (V 0))])
def p_rope_Pen_Root_1 : PC :=
 (.reg [0,2,5] [I 4 (.mv (.s 0)),I 5 (.eqs false 3 [] (.s 4) (.v .nilptr))])
def p_rope_Pen_Root_2 : PC :=
 (.reg [2,3] [I 6 (.build [(.int .u64 0),(.int .i64 0),(.int .i64 0),(.int .i64 0),(.int .i64 0)] []),J (.st 5 (.s 2) (.s 6)),I 3 (.mv (V 1))])
def p_rope_Pen_Root_3 : PC :=
 (.reg [0,2,12] [I 7 (.mv (.s 0)),I 8 (.nilck (.s 7)),I 9 (.fadr 1 (.s 8)),I 10 (.ld false 1 (.s 9)),I 11 (.len 1 (.s 10)),I 12 (.bin .gtr (.s 11) (V 0))])
def p_rope_Pen_Root_4 : PC :=
 (.reg [2,3] [I 13 (.build [(.int .u64 0),(.int .i64 0),(.int .i64 0),(.int .i64 0),(.int .i64 0)] []),J (.st 5 (.s 2) (.s 13)),I 3 (.mv (V 8))])
def p_rope_Pen_Root_5 : PC :=
 (.reg [2,3] [I 14 (.mv (.s 0)),I 15 (.nilck (.s 14)),I 16 (.fadr 2 (.s 15)),I 17 (.ld false 1 (.s 16)),I 18 (.nilck (.s 17)),I 19 (.ld true 5 (.s 18)),J (.st 5 (.s 2) (.s 19)),I 3 (.mv (V 0))])
def p_rope_Pen_Root : PF := ⟨false,
 (.seq p_rope_Pen_Root_0
 (.seq (.seq p_rope_Pen_Root_1
 (.ite (.s 5)
 (.seq p_rope_Pen_Root_2
 .ret)
 .skip))
 (.seq (.seq p_rope_Pen_Root_3
 (.ite (.s 12)
 (.seq p_rope_Pen_Root_4
 .ret)
 .skip))
 (.seq p_rope_Pen_Root_5
 .ret)))),
 [.c 2 true 5,.s 3]⟩
theorem c_rope_Pen_Root : compF Go.Proofs.Try.prog false h_rope_Pen_Root Go.Proofs.Try.f29 = some p_rope_Pen_Root := by kernel_rfl
def h_rope_Pen_Step : List Hint := [H [0],H [0,6],H [2,3,4],H [0,12],H [2,3,4],H [0,2,4],H [0,2,4,24],H [2,3,4],H [0,2],H [2,3,4]]
def p_rope_Pen_Step_0 : PC :=
 (.reg [0] [I 2 (.mv (.v (.int .u64 0))),I 3 (.mv (.v (.bool false))),I 4 (.mv (V 0))])
def p_rope_Pen_Step_1 : PC :=
 (.reg [0,6] [I 5 (.mv (.s 0)),I 6 (.eqs false 3 [] (.s 5) (.v .nilptr))])
def p_rope_Pen_Step_2 : PC :=
 (.reg [2,3,4] [I 2 (.mv (.v (.int .u64 0))),I 3 (.mv (.v (.bool false))),I 4 (.mv (V 1))])
def p_rope_Pen_Step_3 : PC :=
 (.reg [0,12] [I 7 (.mv (.s 0)),I 8 (.nilck (.s 7)),I 9 (.fadr 1 (.s 8)),I 10 (.ld false 1 (.s 9)),I 11 (.len 1 (.s 10)),I 12 (.bin .eql (.s 11) (V 0))])
def p_rope_Pen_Step_4 : PC :=
 (.reg [2,3,4] [I 2 (.mv (.v (.int .u64 0))),I 3 (.mv (.v (.bool true))),I 4 (.mv (V 0))])
def p_rope_Pen_Step_5 : PC :=
 (.reg [0,2,4] [I 14 (.mv (.s 0)),I 15 (.nilck (.s 14)),I 16 (.fadr 1 (.s 15)),I 17 (.ld false 1 (.s 16)),I 18 (.ixS 1 (.s 17) (V 0)),I 19 (.ld false 1 (.s 18)),I 20 (.call .norm (.s 19) []),I 13 (.mv (.s 20)),I 21 (.ext (.s 13) 0),I 22 (.ext (.s 13) 1),I 2 (.mv (.s 21)),I 4 (.mv (.s 22))])
def p_rope_Pen_Step_6 : PC :=
 (.reg [0,2,4,24] [I 23 (.mv (.s 4)),I 24 (.bin .neq (.s 23) (V 0))])
def p_rope_Pen_Step_7 : PC :=
 (.reg [2,3,4] [I 25 (.mv (.s 4)),I 2 (.mv (.v (.int .u64 0))),I 3 (.mv (.v (.bool false))),I 4 (.mv (.s 25))])
def p_rope_Pen_Step_8 : PC :=
 (.reg [0,2] [I 26 (.mv (.s 0)),I 27 (.mv (.s 0)),I 28 (.nilck (.s 27)),I 29 (.fadr 1 (.s 28)),I 30 (.ld false 1 (.s 29)),I 31 (.slc 1 (.s 30) (some (V 1)) none),I 32 (.nilck (.s 26)),I 33 (.fadr 1 (.s 32)),J (.st 1 (.s 33) (.s 31))])
def p_rope_Pen_Step_9 : PC :=
 (.reg [2,3,4] [I 34 (.mv (.s 2)),I 35 (.mv (.s 0)),I 36 (.nilck (.s 35)),I 37 (.fadr 1 (.s 36)),I 38 (.ld false 1 (.s 37)),I 39 (.len 1 (.s 38)),I 40 (.bin .eql (.s 39) (V 0)),I 2 (.mv (.s 34)),I 3 (.mv (.s 40)),I 4 (.mv (V 0))])
def p_rope_Pen_Step : PF := ⟨false,
 (.seq p_rope_Pen_Step_0
 (.seq (.seq p_rope_Pen_Step_1
 (.ite (.s 6)
 (.seq p_rope_Pen_Step_2
 .ret)
 .skip))
 (.seq (.seq p_rope_Pen_Step_3
 (.ite (.s 12)
 (.seq p_rope_Pen_Step_4
 .ret)
 .skip))
 (.seq p_rope_Pen_Step_5
 (.seq (.seq p_rope_Pen_Step_6
 (.ite (.s 24)
 (.seq p_rope_Pen_Step_7
 .ret)
 .skip))
 (.seq p_rope_Pen_Step_8
 (.seq p_rope_Pen_Step_9
 .ret))))))),
 [.s 2,.s 3,.s 4]⟩
theorem c_rope_Pen_Step : compF Go.Proofs.Try.prog false h_rope_Pen_Step Go.Proofs.Try.f30 = some p_rope_Pen_Step := by kernel_rfl
def h_arena_New : List Hint := [H [0,1],H [0,6,7],H [0,6,7,15],H [4,5],H [4,5]]
def p_arena_New_0 : PC :=
 (.reg [0,1] [I 4 (.mv (.v .nilptr)),I 5 (.mv (V 0))])
def p_arena_New_1 : PC :=
 (.reg [0,6,7] [I 9 (.mv (.s 0)),I 10 (.mv (.s 1)),I 11 (C F_freelist_New [(.s 9),(.s 10)]),I 8 (.mv (.s 11)),I 12 (.ext (.s 8) 0),I 13 (.ext (.s 8) 1),I 6 (.mv (.s 12)),I 7 (.mv (.s 13))])
def p_arena_New_2 : PC :=
 (.reg [0,6,7,15] [I 14 (.mv (.s 7)),I 15 (.bin .neq (.s 14) (V 0))])
def p_arena_New_3 : PC :=
 (.reg [4,5] [I 16 (.mv (.s 7)),I 4 (.mv (.v .nilptr)),I 5 (.mv (.s 16))])
def p_arena_New_4 : PC :=
 (.reg [4,5] [I 17 (.mv (.s 0)),I 18 (.mv (.s 6)),I 19 (.mkmap),I 20 (.build [(.int .i64 0),.nilptr,.nilmap,(.int .i64 0),(.int .i64 0),(.int .i64 0)] [(0,1,(.s 17)),(1,1,(.s 18)),(2,1,(.s 19))]),I 21 (.box (.s 20)),I 4 (.mv (.s 21)),I 5 (.mv (V 0))])
def p_arena_New : PF := ⟨true,
 (.seq p_arena_New_0
 (.seq p_arena_New_1
 (.seq (.seq p_arena_New_2
 (.ite (.s 15)
 (.seq p_arena_New_3
 .ret)
 .skip))
 (.seq p_arena_New_4
 .ret)))),
 [.s 4,.s 5]⟩
theorem c_arena_New : compF Go.Proofs.Try.prog true h_arena_New Go.Proofs.Try.f33 = some p_arena_New := by kernel_rfl
def h_seek_check : List Hint := [H [0,3],H [0,3,9],H [4],H [0,3,12],H [4],H [0,3,15],H [4],H [3,5,6],H [3,5,6,24],H [4],H [3,5,6,7],H [45],H [4],H [4]]
def p_seek_check_0 : PC :=
 (.reg [0,3] [I 3 (.box (.s 1)),I 4 (.mv (V 0))])
def p_seek_check_1 : PC :=
 (.reg [0,3,9] [I 8 (.mv (.s 0)),I 9 (.eqs false 3 [] (.s 8) (.v .nilptr))])
def p_seek_check_2 : PC :=
 (.reg [4] [I 4 (.mv (V 1))])
def p_seek_check_3 : PC :=
 (.reg [0,3,12] [I 10 (.ld true 5 (.s 3)),I 11 (.build [(.int .u64 0),(.int .i64 0),(.int .i64 0),(.int .i64 0),(.int .i64 0)] []),I 12 (.eqs false 0 [(0,0),(1,0),(2,0),(3,0),(4,0)] (.s 10) (.s 11))])
def p_seek_check_4 : PC :=
 (.reg [4] [I 4 (.mv (V 0))])
def p_seek_check_5 : PC :=
 (.reg [0,3,15] [I 13 (.fadr 0 (.s 3)),I 14 (.ld false 1 (.s 13)),I 15 (.bin .eql (.s 14) (.v (.int .u64 0)))])
def p_seek_check_6 : PC :=
 (.reg [4] [I 4 (.mv (V 2))])
def p_seek_check_7 : PC :=
 (.reg [3,5,6] [I 17 (.mv (.s 0)),I 18 (.fadr 0 (.s 3)),I 19 (.ld false 1 (.s 18)),I 20 (C F_arena_Arena_Get [(.s 17),(.s 19)]),I 16 (.mv (.s 20)),I 21 (.ext (.s 16) 0),I 22 (.ext (.s 16) 1),I 5 (.box (.v ZN)),J (.st 3 (.s 5) (.s 21)),I 6 (.mv (.s 22))])
def p_seek_check_8 : PC :=
 (.reg [3,5,6,24] [I 23 (.mv (.s 6)),I 24 (.bin .neq (.s 23) (V 0))])
def p_seek_check_9 : PC :=
 (.reg [4] [I 25 (.mv (.s 6)),I 4 (.mv (.s 25))])
def p_seek_check_10 : PC :=
 (.reg [3,5,6,7] [I 27 (.ld true 3 (.s 5)),I 28 (C F_node_Measure [(.s 27)]),I 26 (.mv (.s 28)),I 29 (.ext (.s 26) 0),I 30 (.ext (.s 26) 1),I 7 (.box (.v ZM)),J (.st 3 (.s 7) (.s 29)),I 6 (.mv (.s 30))])
def p_seek_check_11 : PC :=
 (.reg [45] [I 31 (.mv (.s 6)),I 32 (.bin .neq (.s 31) (V 0)),I 33 (.mv (.s 32)),G 34 33 false (.fadr 0 (.s 5)),G 35 33 false (.ld false 1 (.s 34)),G 36 33 false (.fadr 1 (.s 3)),G 37 33 false (.ld false 1 (.s 36)),G 38 33 false (.bin .neq (.s 35) (.s 37)),I 39 (.pick (.s 33) (.v (.bool true)) (.s 38)),I 40 (.mv (.s 39)),G 41 40 false (.ld true 3 (.s 7)),G 42 40 false (.fadr 2 (.s 3)),G 43 40 false (.ld true 3 (.s 42)),G 44 40 false (.eqs true 0 [(0,0),(1,0),(2,0)] (.s 41) (.s 43)),I 45 (.pick (.s 40) (.v (.bool true)) (.s 44))])
def p_seek_check_12 : PC :=
 (.reg [4] [I 4 (.mv (V 23))])
def p_seek_check_13 : PC :=
 (.reg [4] [I 4 (.mv (V 0))])
def p_seek_check : PF := ⟨false,
 (.seq p_seek_check_0
 (.seq (.seq p_seek_check_1
 (.ite (.s 9)
 (.seq p_seek_check_2
 .ret)
 .skip))
 (.seq (.seq p_seek_check_3
 (.ite (.s 12)
 (.seq p_seek_check_4
 .ret)
 .skip))
 (.seq (.seq p_seek_check_5
 (.ite (.s 15)
 (.seq p_seek_check_6
 .ret)
 .skip))
 (.seq p_seek_check_7
 (.seq (.seq p_seek_check_8
 (.ite (.s 24)
 (.seq p_seek_check_9
 .ret)
 .skip))
 (.seq p_seek_check_10
 (.seq (.seq p_seek_check_11
 (.ite (.s 45)
 (.seq p_seek_check_12
 .ret)
 .skip))
 (.seq p_seek_check_13
 .ret))))))))),
 [.s 4]⟩
theorem c_seek_check : compF Go.Proofs.Try.prog false h_seek_check Go.Proofs.Try.f34 = some p_seek_check := by kernel_rfl
def h_seek_walk : List Hint := [H [0,2,3,4,6,10],H [0,3,4,6,10,12],H [0,3,4,10,12,13],H [0,3,4,10,12,13,14,15],H [0,3,4,10,12,13,14,15,31],H [10,11],H [0,3,4,10,12,14],H [0,3,4,10,12,14,42],H [10,12],H [10,11],H [0,3,4,10,12,14,15,16,17],H [0,3,4,10,12,14,15,16,17,57],H [10,11],H [0,3,4,10,12,14,16,17,63,64,65],H [0,3,4,10,12,14,16,17,63,64,65,66],H [0,3,4,10,12,14,16,17,19,63,64,65],H [0,3,4,10,12,14,16,17,63,64,65],H [0,3,4,10,12,14,16,17,63,64,65],⟨[0,3,4,10,12,13],[],[],[],[(6,(.hide [(.s 12)])),(8,(.plain (.s 12))),(4,(.hide [(.s 12)])),(2,(.hide [(.s 12)]))],[]⟩]
def p_seek_walk_0 : PC :=
 (.reg [0,2,3,4,6,10] [I 6 (.box (.s 1)),I 10 (.box (.v (.agg [(.str []),(.int .i64 0),.nils]))),I 11 (.mv (V 0))])
def p_seek_walk_1 : PC :=
 (.reg [0,3,4,6,10,12] [I 20 (.mv (.s 2)),I 21 (.build [(.str []),(.int .i64 0),.nils] [(1,1,(.s 20))]),I 12 (.box (.v (.agg [(.str []),(.int .i64 0),.nils]))),J (.st 3 (.s 12) (.s 21))])
def p_seek_walk_2 : PC :=
 (.reg [0,3,4,10,12,13] [I 22 (.fadr 0 (.s 6)),I 23 (.ld false 1 (.s 22)),I 13 (.mv (.s 23))])
def p_seek_walk_3 : PC :=
 (.reg [0,3,4,10,12,13,14,15] [I 25 (.mv (.s 0)),I 26 (.mv (.s 13)),I 27 (C F_arena_Arena_Get [(.s 25),(.s 26)]),I 24 (.mv (.s 27)),I 28 (.ext (.s 24) 0),I 29 (.ext (.s 24) 1),I 14 (.box (.v ZN)),J (.st 3 (.s 14) (.s 28)),I 15 (.mv (.s 29))])
def p_seek_walk_4 : PC :=
 (.reg [0,3,4,10,12,13,14,15,31] [I 30 (.mv (.s 15)),I 31 (.bin .neq (.s 30) (V 0))])
def p_seek_walk_5 : PC :=
 (.reg [10,11] [I 32 (.build [(.str []),(.int .i64 0),.nils] []),I 33 (.mv (.s 15)),J (.st 3 (.s 10) (.s 32)),I 11 (.mv (.s 33))])
def p_seek_walk_6 : PC :=
 (.reg [0,3,4,10,12,14] [I 34 (.fadr 2 (.s 12)),I 35 (.ld false 1 (.s 34)),I 36 (.mv (.s 13)),I 37 (.bslice false 1 [(.int .u64 0)] [(0,(.s 36))]),I 38 (.app 1 8 (.s 35) (.s 37)),I 39 (.fadr 2 (.s 12)),J (.st 1 (.s 39) (.s 38))])
def p_seek_walk_7 : PC :=
 (.reg [0,3,4,10,12,14,42] [I 40 (.fadr 0 (.s 14)),I 41 (.ld false 1 (.s 40)),I 42 (.bin .eql (.s 41) (V 0))])
def p_seek_walk_8 : PC :=
 (.reg [10,12] [I 43 (.fadr 1 (.s 14)),I 44 (.ld false 1 (.s 43)),I 45 (.fadr 0 (.s 12)),J (.st 1 (.s 45) (.s 44))])
def p_seek_walk_9 : PC :=
 (.reg [10,11] [I 46 (.ld true 3 (.s 12)),J (.st 3 (.s 10) (.s 46)),I 11 (.mv (V 0))])
def p_seek_walk_10 : PC :=
 (.reg [0,3,4,10,12,14,15,16,17] [I 48 (.mv (.s 3)),I 49 (.ld true 3 (.s 14)),I 50 (.fadr 1 (.s 12)),I 51 (.ld false 1 (.s 50)),I 52 (.call .norm (.s 48) [(.s 49),(.s 51)]),I 47 (.mv (.s 52)),I 53 (.ext (.s 47) 0),I 54 (.ext (.s 47) 1),I 55 (.ext (.s 47) 2),I 16 (.mv (.s 53)),I 17 (.mv (.s 54)),I 15 (.mv (.s 55))])
def p_seek_walk_11 : PC :=
 (.reg [0,3,4,10,12,14,15,16,17,57] [I 56 (.mv (.s 15)),I 57 (.bin .neq (.s 56) (V 0))])
def p_seek_walk_12 : PC :=
 (.reg [10,11] [I 58 (.build [(.str []),(.int .i64 0),.nils] []),I 59 (.mv (.s 15)),J (.st 3 (.s 10) (.s 58)),I 11 (.mv (.s 59))])
def p_seek_walk_13 : PC :=
 (.reg [0,3,4,10,12,14,16,17,63,64,65] [I 60 (.fadr 2 (.s 14)),I 61 (.ld false 1 (.s 60)),I 62 (.mv (.s 16)),I 63 (.slc 4 (.s 61) none (some (.s 62))),I 64 (.len 1 (.s 63)),I 65 (.mv (V 0))])
def p_seek_walk_14 : PC :=
 (.reg [0,3,4,10,12,14,16,17,63,64,65,66] [I 66 (.bin .lss (.s 65) (.s 64))])
def p_seek_walk_15 : PC :=
 (.reg [0,3,4,10,12,14,16,17,19,63,64,65] [I 67 (.ixS 4 (.s 63) (.s 65)),I 68 (.ld true 4 (.s 67)),I 19 (.box (.v ZK)),J (.st 4 (.s 19) (.s 68))])
def p_seek_walk_16 : PC :=
 (.reg [0,3,4,10,12,14,16,17,63,64,65] [I 69 (.mv (.s 4)),I 70 (.fadr 1 (.s 19)),I 71 (.ld true 3 (.s 70)),I 72 (.call .norm (.s 69) [(.s 71)])])
def p_seek_walk_17 : PC :=
 (.reg [0,3,4,10,12,14,16,17,63,64,65] [I 73 (.bin .add (.s 65) (V 1)),I 65 (.mv (.s 73))])
def p_seek_walk_18 : PC :=
 (.seq p_seek_walk_14
 (.seq (.ite (.s 66)
 .skip
 (.exit 2))
 (.seq (.block 3
 (.seq p_seek_walk_15
 p_seek_walk_16))
 p_seek_walk_17)))
def p_seek_walk_19 : PC :=
 (.reg [0,3,4,10,12,13] [I 74 (.mv (.s 17)),I 75 (.fadr 2 (.s 14)),I 76 (.w (.hide [(.s 12)]) (.ld false 1 (.s 75))),I 77 (.mv (.s 16)),I 78 (.w (.hide [(.s 12)]) (.ixS 4 (.s 76) (.s 77))),I 79 (.fadr 0 (.s 78)),I 80 (.w (.hide [(.s 12)]) (.ld false 1 (.s 79))),I 81 (.fadr 1 (.s 12)),J (.w (.plain (.s 12)) (.st 1 (.s 81) (.s 74))),I 13 (.mv (.s 80))])
def p_seek_walk_20 : PC :=
 (.block 1
 (.seq p_seek_walk_3
 (.seq (.seq p_seek_walk_4
 (.ite (.s 31)
 (.seq p_seek_walk_5
 .ret)
 .skip))
 (.seq p_seek_walk_6
 (.seq (.seq p_seek_walk_7
 (.ite (.s 42)
 (.seq p_seek_walk_8
 (.seq p_seek_walk_9
 .ret))
 .skip))
 (.seq p_seek_walk_10
 (.seq (.seq p_seek_walk_11
 (.ite (.s 57)
 (.seq p_seek_walk_12
 .ret)
 .skip))
 (.seq (.seq p_seek_walk_13
 (.block 2
 (.loop p_seek_walk_18)))
 p_seek_walk_19))))))))
def p_seek_walk : PF := ⟨false,
 (.seq p_seek_walk_0
 (.seq p_seek_walk_1
 (.seq p_seek_walk_2
 (.block 0
 (.loop p_seek_walk_20))))),
 [.c 10 true 3,.s 11]⟩
theorem c_seek_walk : compF Go.Proofs.Try.prog false h_seek_walk Go.Proofs.Try.f35 = some p_seek_walk := by kernel_rfl
def h_node_Child : List Hint := [H [1,2],H [4,5,6]]
def p_node_Child_0 : PC :=
 (.reg [1,2] [I 2 (.box (.s 0)),I 4 (.mv (V 0)),I 5 (.mv (V 0)),I 6 (.mv (V 0))])
def p_node_Child_1 : PC :=
 (.reg [4,5,6] [I 7 (.ld true 3 (.s 2)),I 8 (.mv (.s 1)),I 9 (C F_node_choose [(.s 7),(.s 8),(.v (.func (.func F_node_ChildC1) [] []))]),I 10 (.ext (.s 9) 0),I 11 (.ext (.s 9) 1),I 12 (.ext (.s 9) 2),I 4 (.mv (.s 10)),I 5 (.mv (.s 11)),I 6 (.mv (.s 12))])
def p_node_Child : PF := ⟨false,
 (.seq p_node_Child_0
 (.seq p_node_Child_1
 .ret)),
 [.s 4,.s 5,.s 6]⟩
theorem c_node_Child : compF Go.Proofs.Try.prog false h_node_Child Go.Proofs.Try.f36 = some p_node_Child := by kernel_rfl
def h_seek_LeafC1 : List Hint := [H []]
def p_seek_LeafC1_0 : PC :=
 (.reg [] [I 1 (.box (.s 0))])
def p_seek_LeafC1 : PF := ⟨false,
 p_seek_LeafC1_0,
 []⟩
theorem c_seek_LeafC1 : compF Go.Proofs.Try.prog false h_seek_LeafC1 Go.Proofs.Try.f37 = some p_seek_LeafC1 := by kernel_rfl
def h_quartolaw17_numberC1 : List Hint := [H [0,1,2],H [0,1,2,6],H [4],H [4]]
def p_quartolaw17_numberC1_0 : PC :=
 (.reg [0,1,2] [I 4 (.mv (.v (.bool false)))])
def p_quartolaw17_numberC1_1 : PC :=
 (.reg [0,1,2,6] [I 5 (.mv (.s 0)),I 6 (.bin .lss (.s 5) (V 0))])
def p_quartolaw17_numberC1_2 : PC :=
 (.reg [4] [I 7 (.ld false 1 (.s 1)),I 8 (.bin .eql (.s 7) (V 0)),I 9 (.mv (.s 8)),G 10 9 true (.ld false 1 (.s 2)),G 11 9 true (.bin .eql (.s 10) (V 3)),I 12 (.pick (.s 9) (.s 11) (.v (.bool false))),I 4 (.mv (.s 12))])
def p_quartolaw17_numberC1_3 : PC :=
 (.reg [4] [I 13 (.ld false 1 (.s 1)),I 14 (.mv (.s 0)),I 15 (.bin .eql (.s 13) (.s 14)),I 16 (.mv (.s 15)),G 17 16 true (.ld false 1 (.s 2)),G 18 16 true (.bin .eql (.s 17) (V 0)),I 19 (.pick (.s 16) (.s 18) (.v (.bool false))),I 4 (.mv (.s 19))])
def p_quartolaw17_numberC1 : PF := ⟨false,
 (.seq p_quartolaw17_numberC1_0
 (.seq (.seq p_quartolaw17_numberC1_1
 (.ite (.s 6)
 (.seq p_quartolaw17_numberC1_2
 .ret)
 .skip))
 (.seq p_quartolaw17_numberC1_3
 .ret))),
 [.s 4]⟩
theorem c_quartolaw17_numberC1 : compF Go.Proofs.Try.prog false h_quartolaw17_numberC1 Go.Proofs.Try.f38 = some p_quartolaw17_numberC1 := by kernel_rfl
def h_seek_offset : List Hint := [H [0,2,3,4,6],H [0,2,3,4,6,12],H [4,12,13,14],H [4,12,13,14,26],H [10,11],H [12,14,15],H [12,14,15,38],H [10,11],H [10,11]]
def p_seek_offset_0 : PC :=
 (.reg [0,2,3,4,6] [I 6 (.box (.s 1)),I 10 (.mv (V 0)),I 11 (.mv (V 0))])
def p_seek_offset_1 : PC :=
 (.reg [0,2,3,4,6,12] [I 12 (.box (V 0)),J (.st 1 (.s 12) (V 0))])
def p_seek_offset_2 : PC :=
 (.reg [4,12,13,14] [I 17 (.mv (.s 0)),I 18 (.ld true 5 (.s 6)),I 19 (.mv (.s 2)),I 20 (.mv (.s 3)),I 21 (.mkf (.func F_seek_offsetC1) [] [(.s 12)]),I 22 (C F_seek_walk [(.s 17),(.s 18),(.s 19),(.s 20),(.s 21)]),I 16 (.mv (.s 22)),I 23 (.ext (.s 16) 0),I 24 (.ext (.s 16) 1),I 13 (.box (.v (.agg [(.str []),(.int .i64 0),.nils]))),J (.st 3 (.s 13) (.s 23)),I 14 (.mv (.s 24))])
def p_seek_offset_3 : PC :=
 (.reg [4,12,13,14,26] [I 25 (.mv (.s 14)),I 26 (.bin .neq (.s 25) (V 0))])
def p_seek_offset_4 : PC :=
 (.reg [10,11] [I 27 (.mv (.s 14)),I 10 (.mv (V 0)),I 11 (.mv (.s 27))])
def p_seek_offset_5 : PC :=
 (.reg [12,14,15] [I 29 (.mv (.s 4)),I 30 (.fadr 0 (.s 13)),I 31 (.ld false 1 (.s 30)),I 32 (.fadr 1 (.s 13)),I 33 (.ld false 1 (.s 32)),I 34 (.call .norm (.s 29) [(.s 31),(.s 33)]),I 28 (.mv (.s 34)),I 35 (.ext (.s 28) 0),I 36 (.ext (.s 28) 1),I 15 (.mv (.s 35)),I 14 (.mv (.s 36))])
def p_seek_offset_6 : PC :=
 (.reg [12,14,15,38] [I 37 (.mv (.s 14)),I 38 (.bin .neq (.s 37) (V 0))])
def p_seek_offset_7 : PC :=
 (.reg [10,11] [I 39 (.mv (.s 14)),I 10 (.mv (V 0)),I 11 (.mv (.s 39))])
def p_seek_offset_8 : PC :=
 (.reg [10,11] [I 40 (.ld false 1 (.s 12)),I 41 (.mv (.s 15)),I 42 (.bin .add (.s 40) (.s 41)),I 10 (.mv (.s 42)),I 11 (.mv (V 0))])
def p_seek_offset : PF := ⟨false,
 (.seq p_seek_offset_0
 (.seq p_seek_offset_1
 (.seq p_seek_offset_2
 (.seq (.seq p_seek_offset_3
 (.ite (.s 26)
 (.seq p_seek_offset_4
 .ret)
 .skip))
 (.seq p_seek_offset_5
 (.seq (.seq p_seek_offset_6
 (.ite (.s 38)
 (.seq p_seek_offset_7
 .ret)
 .skip))
 (.seq p_seek_offset_8
 .ret))))))),
 [.s 10,.s 11]⟩
theorem c_seek_offset : compF Go.Proofs.Try.prog false h_seek_offset Go.Proofs.Try.f39 = some p_seek_offset := by kernel_rfl
def h_node_Rune : List Hint := [H [1,2],H [4,5,6]]
def p_node_Rune_0 : PC :=
 (.reg [1,2] [I 2 (.box (.s 0)),I 4 (.mv (V 0)),I 5 (.mv (V 0)),I 6 (.mv (V 0))])
def p_node_Rune_1 : PC :=
 (.reg [4,5,6] [I 7 (.ld true 3 (.s 2)),I 8 (.mv (.s 1)),I 9 (C F_node_choose [(.s 7),(.s 8),(.v (.func (.func F_node_RuneC1) [] []))]),I 10 (.ext (.s 9) 0),I 11 (.ext (.s 9) 1),I 12 (.ext (.s 9) 2),I 4 (.mv (.s 10)),I 5 (.mv (.s 11)),I 6 (.mv (.s 12))])
def p_node_Rune : PF := ⟨false,
 (.seq p_node_Rune_0
 (.seq p_node_Rune_1
 .ret)),
 [.s 4,.s 5,.s 6]⟩
theorem c_node_Rune : compF Go.Proofs.Try.prog false h_node_Rune Go.Proofs.Try.f40 = some p_node_Rune := by kernel_rfl
def h_measure_Rune : List Hint := [H [0,1],H [0,1,9],H [4,5],H [0,1,6,7],H [0,1,6,16],H [4,5],H [0,21],H [4,5],H [4,5]]
def p_measure_Rune_0 : PC :=
 (.reg [0,1] [I 4 (.mv (V 0)),I 5 (.mv (V 0))])
def p_measure_Rune_1 : PC :=
 (.reg [0,1,9] [I 8 (.mv (.s 1)),I 9 (.bin .lss (.s 8) (V 0))])
def p_measure_Rune_2 : PC :=
 (.reg [4,5] [I 4 (.mv (V 0)),I 5 (.mv (V 3))])
def p_measure_Rune_3 : PC :=
 (.reg [0,1,6,7] [I 11 (.mv (.s 0)),I 12 (.mv (.s 1)),I 13 (C F_measure_find [(.s 11),(.v (.func (.func F_measure_begins) [] [])),(.s 12)]),I 10 (.mv (.s 13)),I 14 (.ext (.s 10) 0),I 15 (.ext (.s 10) 1),I 6 (.mv (.s 14)),I 7 (.mv (.s 15))])
def p_measure_Rune_4 : PC :=
 (.reg [0,1,6,16] [I 16 (.mv (.s 7))])
def p_measure_Rune_5 : PC :=
 (.reg [4,5] [I 17 (.mv (.s 6)),I 4 (.mv (.s 17)),I 5 (.mv (V 0))])
def p_measure_Rune_6 : PC :=
 (.reg [0,21] [I 18 (.mv (.s 1)),I 19 (.mv (.s 0)),I 20 (C F_measure_count [(.s 19),(.v (.func (.func F_measure_begins) [] []))]),I 21 (.bin .eql (.s 18) (.s 20))])
def p_measure_Rune_7 : PC :=
 (.reg [4,5] [I 22 (.mv (.s 0)),I 23 (.len 0 (.s 22)),I 4 (.mv (.s 23)),I 5 (.mv (V 0))])
def p_measure_Rune_8 : PC :=
 (.reg [4,5] [I 4 (.mv (V 0)),I 5 (.mv (V 3))])
def p_measure_Rune : PF := ⟨false,
 (.seq p_measure_Rune_0
 (.seq (.seq p_measure_Rune_1
 (.ite (.s 9)
 (.seq p_measure_Rune_2
 .ret)
 .skip))
 (.seq (.seq p_measure_Rune_3
 (.seq p_measure_Rune_4
 (.ite (.s 16)
 (.seq p_measure_Rune_5
 .ret)
 .skip)))
 (.seq (.seq p_measure_Rune_6
 (.ite (.s 21)
 (.seq p_measure_Rune_7
 .ret)
 .skip))
 (.seq p_measure_Rune_8
 .ret))))),
 [.s 4,.s 5]⟩
theorem c_measure_Rune : compF Go.Proofs.Try.prog false h_measure_Rune Go.Proofs.Try.f41 = some p_measure_Rune := by kernel_rfl
def h_seek_before : List Hint := [H [0,2,4,6,8],H [0,2,4,6,8,12],H [0,2,4,6,8,12,21],H [10,11],H [0,2,4,6,8,31],H [10,11],H [0,2,4,6,8,36],H [10,11],H [0,2,4,6,8,13],H [4,13,14,15],H [4,13,14,15,50],H [10,11],H [13,15,16],H [13,15,16,62],H [10,11],H [10,11]]
def p_seek_before_0 : PC :=
 (.reg [0,2,4,6,8] [I 6 (.box (.s 1)),I 8 (.box (.s 3)),I 10 (.mv (V 0)),I 11 (.mv (V 0))])
def p_seek_before_1 : PC :=
 (.reg [0,2,4,6,8,12] [I 17 (.mv (.s 0)),I 18 (.ld true 5 (.s 6)),I 19 (C F_seek_check [(.s 17),(.s 18)]),I 12 (.mv (.s 19))])
def p_seek_before_2 : PC :=
 (.reg [0,2,4,6,8,12,21] [I 20 (.mv (.s 12)),I 21 (.bin .neq (.s 20) (V 0))])
def p_seek_before_3 : PC :=
 (.reg [10,11] [I 22 (.mv (.s 12)),I 10 (.mv (V 0)),I 11 (.mv (.s 22))])
def p_seek_before_4 : PC :=
 (.reg [0,2,4,6,8,31] [I 23 (.mv (.s 2)),I 24 (.bin .lss (.s 23) (V 0)),I 25 (.mv (.s 24)),G 26 25 false (.mv (.s 2)),G 27 25 false (.fadr 2 (.s 6)),G 28 25 false (.fadr 0 (.s 27)),G 29 25 false (.ld false 1 (.s 28)),G 30 25 false (.bin .gtr (.s 26) (.s 29)),I 31 (.pick (.s 25) (.v (.bool true)) (.s 30))])
def p_seek_before_5 : PC :=
 (.reg [10,11] [I 10 (.mv (V 0)),I 11 (.mv (V 3))])
def p_seek_before_6 : PC :=
 (.reg [0,2,4,6,8,36] [I 32 (.mv (.s 2)),I 33 (.fadr 2 (.s 6)),I 34 (.fadr 0 (.s 33)),I 35 (.ld false 1 (.s 34)),I 36 (.bin .eql (.s 32) (.s 35))])
def p_seek_before_7 : PC :=
 (.reg [10,11] [I 37 (.ld false 1 (.s 8)),I 38 (.fadr 2 (.s 6)),I 39 (.ld true 3 (.s 38)),I 40 (.call .norm (.s 37) [(.s 39)]),I 10 (.mv (.s 40)),I 11 (.mv (V 0))])
def p_seek_before_8 : PC :=
 (.reg [0,2,4,6,8,13] [I 13 (.box (V 0)),J (.st 1 (.s 13) (V 0))])
def p_seek_before_9 : PC :=
 (.reg [4,13,14,15] [I 42 (.mv (.s 0)),I 43 (.ld true 5 (.s 6)),I 44 (.mv (.s 2)),I 45 (.mkf (.func F_seek_beforeC1) [] [(.s 13),(.s 8)]),I 46 (C F_seek_walk [(.s 42),(.s 43),(.s 44),(.v (.func (.func F_node_Child) [] [])),(.s 45)]),I 41 (.mv (.s 46)),I 47 (.ext (.s 41) 0),I 48 (.ext (.s 41) 1),I 14 (.box (.v (.agg [(.str []),(.int .i64 0),.nils]))),J (.st 3 (.s 14) (.s 47)),I 15 (.mv (.s 48))])
def p_seek_before_10 : PC :=
 (.reg [4,13,14,15,50] [I 49 (.mv (.s 15)),I 50 (.bin .neq (.s 49) (V 0))])
def p_seek_before_11 : PC :=
 (.reg [10,11] [I 51 (.mv (.s 15)),I 10 (.mv (V 0)),I 11 (.mv (.s 51))])
def p_seek_before_12 : PC :=
 (.reg [13,15,16] [I 53 (.mv (.s 4)),I 54 (.fadr 0 (.s 14)),I 55 (.ld false 1 (.s 54)),I 56 (.fadr 1 (.s 14)),I 57 (.ld false 1 (.s 56)),I 58 (.call .norm (.s 53) [(.s 55),(.s 57)]),I 52 (.mv (.s 58)),I 59 (.ext (.s 52) 0),I 60 (.ext (.s 52) 1),I 16 (.mv (.s 59)),I 15 (.mv (.s 60))])
def p_seek_before_13 : PC :=
 (.reg [13,15,16,62] [I 61 (.mv (.s 15)),I 62 (.bin .neq (.s 61) (V 0))])
def p_seek_before_14 : PC :=
 (.reg [10,11] [I 63 (.mv (.s 15)),I 10 (.mv (V 0)),I 11 (.mv (.s 63))])
def p_seek_before_15 : PC :=
 (.reg [10,11] [I 64 (.ld false 1 (.s 13)),I 65 (.mv (.s 16)),I 66 (.bin .add (.s 64) (.s 65)),I 10 (.mv (.s 66)),I 11 (.mv (V 0))])
def p_seek_before : PF := ⟨false,
 (.seq p_seek_before_0
 (.seq (.seq p_seek_before_1
 (.seq p_seek_before_2
 (.ite (.s 21)
 (.seq p_seek_before_3
 .ret)
 .skip)))
 (.seq (.seq p_seek_before_4
 (.ite (.s 31)
 (.seq p_seek_before_5
 .ret)
 .skip))
 (.seq (.seq p_seek_before_6
 (.ite (.s 36)
 (.seq p_seek_before_7
 .ret)
 .skip))
 (.seq p_seek_before_8
 (.seq p_seek_before_9
 (.seq (.seq p_seek_before_10
 (.ite (.s 50)
 (.seq p_seek_before_11
 .ret)
 .skip))
 (.seq p_seek_before_12
 (.seq (.seq p_seek_before_13
 (.ite (.s 62)
 (.seq p_seek_before_14
 .ret)
 .skip))
 (.seq p_seek_before_15
 .ret)))))))))),
 [.s 10,.s 11]⟩
theorem c_seek_before : compF Go.Proofs.Try.prog false h_seek_before Go.Proofs.Try.f42 = some p_seek_before := by kernel_rfl
def h_seek_RunesBeforeC1 : List Hint := [H [1],H [2]]
def p_seek_RunesBeforeC1_0 : PC :=
 (.reg [1] [I 1 (.box (.s 0)),I 2 (.mv (V 0))])
def p_seek_RunesBeforeC1_1 : PC :=
 (.reg [2] [I 3 (.fadr 1 (.s 1)),I 4 (.ld false 1 (.s 3)),I 2 (.mv (.s 4))])
def p_seek_RunesBeforeC1 : PF := ⟨false,
 (.seq p_seek_RunesBeforeC1_0
 (.seq p_seek_RunesBeforeC1_1
 .ret)),
 [.s 2]⟩
theorem c_seek_RunesBeforeC1 : compF Go.Proofs.Try.prog false h_seek_RunesBeforeC1 Go.Proofs.Try.f43 = some p_seek_RunesBeforeC1 := by kernel_rfl
def h_measure_RunesBefore : List Hint := [H [0,1],H [4,5]]
def p_measure_RunesBefore_0 : PC :=
 (.reg [0,1] [I 4 (.mv (V 0)),I 5 (.mv (V 0))])
def p_measure_RunesBefore_1 : PC :=
 (.reg [4,5] [I 6 (.mv (.s 0)),I 7 (.mv (.s 1)),I 8 (C F_measure_before [(.s 6),(.s 7),(.v (.func (.func F_measure_begins) [] []))]),I 9 (.ext (.s 8) 0),I 10 (.ext (.s 8) 1),I 4 (.mv (.s 9)),I 5 (.mv (.s 10))])
def p_measure_RunesBefore : PF := ⟨false,
 (.seq p_measure_RunesBefore_0
 (.seq p_measure_RunesBefore_1
 .ret)),
 [.s 4,.s 5]⟩
theorem c_measure_RunesBefore : compF Go.Proofs.Try.prog false h_measure_RunesBefore Go.Proofs.Try.f44 = some p_measure_RunesBefore := by kernel_rfl
def h_node_Line : List Hint := [H [1,2],H [1,2,11],H [9],H [9,19],H [4,5,6],H [4,5,6],H [4,5,6],H [4,5,6,30],H [4,5,6],H [4,5,6]]
def p_node_Line_0 : PC :=
 (.reg [1,2] [I 2 (.box (.s 0)),I 4 (.mv (V 0)),I 5 (.mv (V 0)),I 6 (.mv (V 0))])
def p_node_Line_1 : PC :=
 (.reg [1,2,11] [I 10 (.mv (.s 1)),I 11 (.bin .lss (.s 10) (V 1))])
def p_node_Line_2 : PC :=
 (.reg [9] [I 13 (.ld true 3 (.s 2)),I 14 (C F_node_choose [(.s 13),(V 0),(.v (.func (.func F_node_LineC1) [] []))]),I 12 (.mv (.s 14)),I 15 (.ext (.s 12) 0),I 16 (.ext (.s 12) 1),I 17 (.ext (.s 12) 2),I 7 (.mv (.s 15)),I 8 (.mv (.s 16)),I 9 (.mv (.s 17))])
def p_node_Line_3 : PC :=
 (.reg [9,19] [I 18 (.mv (.s 9)),I 19 (.bin .neq (.s 18) (V 0))])
def p_node_Line_4 : PC :=
 (.reg [4,5,6] [I 20 (.mv (.s 9)),I 4 (.mv (V 0)),I 5 (.mv (V 0)),I 6 (.mv (.s 20))])
def p_node_Line_5 : PC :=
 (.reg [4,5,6] [I 4 (.mv (V 0)),I 5 (.mv (V 0)),I 6 (.mv (V 3))])
def p_node_Line_6 : PC :=
 (.reg [4,5,6] [I 22 (.ld true 3 (.s 2)),I 23 (.mv (.s 1)),I 24 (.bin .sub (.s 23) (V 1)),I 25 (C F_node_choose [(.s 22),(.s 24),(.v (.func (.func F_node_LineC2) [] []))]),I 21 (.mv (.s 25)),I 26 (.ext (.s 21) 0),I 27 (.ext (.s 21) 1),I 28 (.ext (.s 21) 2),I 4 (.mv (.s 26)),I 5 (.mv (.s 27)),I 6 (.mv (.s 28))])
def p_node_Line_7 : PC :=
 (.reg [4,5,6,30] [I 29 (.mv (.s 6)),I 30 (.bin .neq (.s 29) (V 0))])
def p_node_Line_8 : PC :=
 (.reg [4,5,6] [I 31 (.mv (.s 6)),I 4 (.mv (V 0)),I 5 (.mv (V 0)),I 6 (.mv (.s 31))])
def p_node_Line_9 : PC :=
 (.reg [4,5,6] [I 32 (.mv (.s 4)),I 33 (.mv (.s 5)),I 34 (.bin .add (.s 33) (V 1)),I 4 (.mv (.s 32)),I 5 (.mv (.s 34)),I 6 (.mv (V 0))])
def p_node_Line : PF := ⟨false,
 (.seq p_node_Line_0
 (.seq (.seq p_node_Line_1
 (.ite (.s 11)
 (.seq (.seq p_node_Line_2
 (.seq p_node_Line_3
 (.ite (.s 19)
 (.seq p_node_Line_4
 .ret)
 .skip)))
 (.seq p_node_Line_5
 .ret))
 .skip))
 (.seq p_node_Line_6
 (.seq (.seq p_node_Line_7
 (.ite (.s 30)
 (.seq p_node_Line_8
 .ret)
 .skip))
 (.seq p_node_Line_9
 .ret))))),
 [.s 4,.s 5,.s 6]⟩
theorem c_node_Line : compF Go.Proofs.Try.prog false h_node_Line Go.Proofs.Try.f45 = some p_node_Line := by kernel_rfl
def h_measure_Line : List Hint := [H [0,1],H [0,1,9],H [4,5],H [0,1,11],H [6,7],H [6,19],H [4,5],H [4,5]]
def p_measure_Line_0 : PC :=
 (.reg [0,1] [I 4 (.mv (V 0)),I 5 (.mv (V 0))])
def p_measure_Line_1 : PC :=
 (.reg [0,1,9] [I 8 (.mv (.s 1)),I 9 (.bin .eql (.s 8) (V 0))])
def p_measure_Line_2 : PC :=
 (.reg [4,5] [I 4 (.mv (V 0)),I 5 (.mv (V 0))])
def p_measure_Line_3 : PC :=
 (.reg [0,1,11] [I 10 (.mv (.s 1)),I 11 (.bin .gtr (.s 10) (V 0))])
def p_measure_Line_4 : PC :=
 (.reg [6,7] [I 13 (.mv (.s 0)),I 14 (.mv (.s 1)),I 15 (.bin .sub (.s 14) (V 1)),I 16 (C F_measure_find [(.s 13),(.v (.func (.func F_measure_feeds) [] [])),(.s 15)]),I 12 (.mv (.s 16)),I 17 (.ext (.s 12) 0),I 18 (.ext (.s 12) 1),I 6 (.mv (.s 17)),I 7 (.mv (.s 18))])
def p_measure_Line_5 : PC :=
 (.reg [6,19] [I 19 (.mv (.s 7))])
def p_measure_Line_6 : PC :=
 (.reg [4,5] [I 20 (.mv (.s 6)),I 21 (.bin .add (.s 20) (V 1)),I 4 (.mv (.s 21)),I 5 (.mv (V 0))])
def p_measure_Line_7 : PC :=
 (.reg [4,5] [I 4 (.mv (V 0)),I 5 (.mv (V 3))])
def p_measure_Line : PF := ⟨false,
 (.seq p_measure_Line_0
 (.seq (.seq p_measure_Line_1
 (.ite (.s 9)
 (.seq p_measure_Line_2
 .ret)
 .skip))
 (.seq (.seq p_measure_Line_3
 (.ite (.s 11)
 (.seq p_measure_Line_4
 (.seq p_measure_Line_5
 (.ite (.s 19)
 (.seq p_measure_Line_6
 .ret)
 .skip)))
 .skip))
 (.seq p_measure_Line_7
 .ret)))),
 [.s 4,.s 5]⟩
theorem c_measure_Line : compF Go.Proofs.Try.prog false h_measure_Line Go.Proofs.Try.f46 = some p_measure_Line := by kernel_rfl
def h_seek_LineOfC1 : List Hint := [H [1],H [2]]
def p_seek_LineOfC1_0 : PC :=
 (.reg [1] [I 1 (.box (.s 0)),I 2 (.mv (V 0))])
def p_seek_LineOfC1_1 : PC :=
 (.reg [2] [I 3 (.fadr 2 (.s 1)),I 4 (.ld false 1 (.s 3)),I 2 (.mv (.s 4))])
def p_seek_LineOfC1 : PF := ⟨false,
 (.seq p_seek_LineOfC1_0
 (.seq p_seek_LineOfC1_1
 .ret)),
 [.s 2]⟩
theorem c_seek_LineOfC1 : compF Go.Proofs.Try.prog false h_seek_LineOfC1 Go.Proofs.Try.f47 = some p_seek_LineOfC1 := by kernel_rfl
def h_measure_LineOf : List Hint := [H [0,1],H [4,5]]
def p_measure_LineOf_0 : PC :=
 (.reg [0,1] [I 4 (.mv (V 0)),I 5 (.mv (V 0))])
def p_measure_LineOf_1 : PC :=
 (.reg [4,5] [I 6 (.mv (.s 0)),I 7 (.mv (.s 1)),I 8 (C F_measure_before [(.s 6),(.s 7),(.v (.func (.func F_measure_feeds) [] []))]),I 9 (.ext (.s 8) 0),I 10 (.ext (.s 8) 1),I 4 (.mv (.s 9)),I 5 (.mv (.s 10))])
def p_measure_LineOf : PF := ⟨false,
 (.seq p_measure_LineOf_0
 (.seq p_measure_LineOf_1
 .ret)),
 [.s 4,.s 5]⟩
theorem c_measure_LineOf : compF Go.Proofs.Try.prog false h_measure_LineOf Go.Proofs.Try.f48 = some p_measure_LineOf := by kernel_rfl
def h_plan_same : List Hint := [H [0,1,2,7],H [2,7,9,10],H [2,7,9,10,19],H [8],H [2,7,9,10,11],H [38],H [8],H [8]]
def p_plan_same_0 : PC :=
 (.reg [0,1,2,7] [I 7 (.box (.s 3)),I 8 (.mv (V 0))])
def p_plan_same_1 : PC :=
 (.reg [2,7,9,10] [I 13 (.mv (.s 0)),I 14 (.mv (.s 1)),I 15 (C F_arena_Arena_Get [(.s 13),(.s 14)]),I 12 (.mv (.s 15)),I 16 (.ext (.s 12) 0),I 17 (.ext (.s 12) 1),I 9 (.box (.v ZN)),J (.st 3 (.s 9) (.s 16)),I 10 (.mv (.s 17))])
def p_plan_same_2 : PC :=
 (.reg [2,7,9,10,19] [I 18 (.mv (.s 10)),I 19 (.bin .neq (.s 18) (V 0))])
def p_plan_same_3 : PC :=
 (.reg [8] [I 20 (.mv (.s 10)),I 8 (.mv (.s 20))])
def p_plan_same_4 : PC :=
 (.reg [2,7,9,10,11] [I 22 (.ld true 3 (.s 9)),I 23 (C F_node_Measure [(.s 22)]),I 21 (.mv (.s 23)),I 24 (.ext (.s 21) 0),I 25 (.ext (.s 21) 1),I 11 (.box (.v ZM)),J (.st 3 (.s 11) (.s 24)),I 10 (.mv (.s 25))])
def p_plan_same_5 : PC :=
 (.reg [38] [I 26 (.mv (.s 10)),I 27 (.bin .neq (.s 26) (V 0)),I 28 (.mv (.s 27)),G 29 28 false (.fadr 0 (.s 9)),G 30 28 false (.ld false 1 (.s 29)),G 31 28 false (.mv (.s 2)),G 32 28 false (.bin .neq (.s 30) (.s 31)),I 33 (.pick (.s 28) (.v (.bool true)) (.s 32)),I 34 (.mv (.s 33)),G 35 34 false (.ld true 3 (.s 11)),G 36 34 false (.ld true 3 (.s 7)),G 37 34 false (.eqs true 0 [(0,0),(1,0),(2,0)] (.s 35) (.s 36)),I 38 (.pick (.s 34) (.v (.bool true)) (.s 37))])
def p_plan_same_6 : PC :=
 (.reg [8] [I 8 (.mv (V 23))])
def p_plan_same_7 : PC :=
 (.reg [8] [I 8 (.mv (V 0))])
def p_plan_same : PF := ⟨false,
 (.seq p_plan_same_0
 (.seq p_plan_same_1
 (.seq (.seq p_plan_same_2
 (.ite (.s 19)
 (.seq p_plan_same_3
 .ret)
 .skip))
 (.seq p_plan_same_4
 (.seq (.seq p_plan_same_5
 (.ite (.s 38)
 (.seq p_plan_same_6
 .ret)
 .skip))
 (.seq p_plan_same_7
 .ret)))))),
 [.s 8]⟩
theorem c_plan_same : compF Go.Proofs.Try.prog false h_plan_same Go.Proofs.Try.f50 = some p_plan_same := by kernel_rfl
def h_plan_Check : List Hint := [H [0,3],H [0,3,7],H [4],H [0,3,10],H [4],H [3,5],H [3,5,15],H [4],H [19],H [4],H [4]]
def p_plan_Check_0 : PC :=
 (.reg [0,3] [I 3 (.box (.s 1)),I 4 (.mv (V 0))])
def p_plan_Check_1 : PC :=
 (.reg [0,3,7] [I 6 (.mv (.s 0)),I 7 (.eqs false 3 [] (.s 6) (.v .nilptr))])
def p_plan_Check_2 : PC :=
 (.reg [4] [I 4 (.mv (V 1))])
def p_plan_Check_3 : PC :=
 (.reg [0,3,10] [I 8 (.ld true 7 (.s 3)),I 9 (C F_plan_kind [(.s 8)]),I 10 (.bin .eql (.s 9) (V 1))])
def p_plan_Check_4 : PC :=
 (.reg [4] [I 4 (.mv (V 0))])
def p_plan_Check_5 : PC :=
 (.reg [3,5] [I 11 (.mv (.s 0)),I 12 (.ld true 7 (.s 3)),I 13 (C F_plan_check [(.s 11),(.s 12),(.v (.bool false)),(V 0)]),I 5 (.mv (.s 13))])
def p_plan_Check_6 : PC :=
 (.reg [3,5,15] [I 14 (.mv (.s 5)),I 15 (.bin .neq (.s 14) (V 0))])
def p_plan_Check_7 : PC :=
 (.reg [4] [I 16 (.mv (.s 5)),I 4 (.mv (.s 16))])
def p_plan_Check_8 : PC :=
 (.reg [19] [I 17 (.ld true 7 (.s 3)),I 18 (C F_plan_bytes [(.s 17)]),I 19 (.bin .gtr (.s 18) (V 65536))])
def p_plan_Check_9 : PC :=
 (.reg [4] [I 4 (.mv (V 5))])
def p_plan_Check_10 : PC :=
 (.reg [4] [I 4 (.mv (V 0))])
def p_plan_Check : PF := ⟨false,
 (.seq p_plan_Check_0
 (.seq (.seq p_plan_Check_1
 (.ite (.s 7)
 (.seq p_plan_Check_2
 .ret)
 .skip))
 (.seq (.seq p_plan_Check_3
 (.ite (.s 10)
 (.seq p_plan_Check_4
 .ret)
 .skip))
 (.seq (.seq p_plan_Check_5
 (.seq p_plan_Check_6
 (.ite (.s 15)
 (.seq p_plan_Check_7
 .ret)
 .skip)))
 (.seq (.seq p_plan_Check_8
 (.ite (.s 19)
 (.seq p_plan_Check_9
 .ret)
 .skip))
 (.seq p_plan_Check_10
 .ret)))))),
 [.s 4]⟩
theorem c_plan_Check : compF Go.Proofs.Try.prog false h_plan_Check Go.Proofs.Try.f51 = some p_plan_Check := by kernel_rfl
def h_plan_bytes : List Hint := [H [1],H [1,3],H [3,14,15,16],H [3,14,15,16,17],H [3,5,14,15,16],H [3,14,15,16],H [3,14,15,16],H [2]]
def p_plan_bytes_0 : PC :=
 (.reg [1] [I 1 (.box (.s 0)),I 2 (.mv (V 0))])
def p_plan_bytes_1 : PC :=
 (.reg [1,3] [I 6 (.fadr 2 (.s 1)),I 7 (.fadr 0 (.s 6)),I 8 (.ld false 1 (.s 7)),I 9 (.fadr 5 (.s 1)),I 10 (.ld false 1 (.s 9)),I 11 (.len 0 (.s 10)),I 12 (.bin .add (.s 8) (.s 11)),I 3 (.mv (.s 12))])
def p_plan_bytes_2 : PC :=
 (.reg [3,14,15,16] [I 13 (.fadr 6 (.s 1)),I 14 (.ld false 1 (.s 13)),I 15 (.len 1 (.s 14)),I 16 (.mv (V 0))])
def p_plan_bytes_3 : PC :=
 (.reg [3,14,15,16,17] [I 17 (.bin .lss (.s 16) (.s 15))])
def p_plan_bytes_4 : PC :=
 (.reg [3,5,14,15,16] [I 18 (.ixS 7 (.s 14) (.s 16)),I 19 (.ld true 7 (.s 18)),I 5 (.box (.v ZT)),J (.st 7 (.s 5) (.s 19))])
def p_plan_bytes_5 : PC :=
 (.reg [3,14,15,16] [I 20 (.mv (.s 3)),I 21 (.ld true 7 (.s 5)),I 22 (C F_plan_bytes [(.s 21)]),I 23 (.bin .add (.s 20) (.s 22)),I 3 (.mv (.s 23))])
def p_plan_bytes_6 : PC :=
 (.reg [3,14,15,16] [I 24 (.bin .add (.s 16) (V 1)),I 16 (.mv (.s 24))])
def p_plan_bytes_7 : PC :=
 (.seq p_plan_bytes_3
 (.seq (.ite (.s 17)
 .skip
 (.exit 0))
 (.seq (.block 1
 (.seq p_plan_bytes_4
 p_plan_bytes_5))
 p_plan_bytes_6)))
def p_plan_bytes_8 : PC :=
 (.reg [2] [I 25 (.mv (.s 3)),I 2 (.mv (.s 25))])
def p_plan_bytes : PF := ⟨false,
 (.seq p_plan_bytes_0
 (.seq p_plan_bytes_1
 (.seq (.seq p_plan_bytes_2
 (.block 0
 (.loop p_plan_bytes_7)))
 (.seq p_plan_bytes_8
 .ret)))),
 [.s 2]⟩
theorem c_plan_bytes : compF Go.Proofs.Try.prog false h_plan_bytes Go.Proofs.Try.f52 = some p_plan_bytes := by kernel_rfl
def h_chunk_Chunks : List Hint := [H [0],⟨[0,3],[0],[],[],[],[]⟩,H [0,3,8,9,10],H [0,3,8,9,10,11],H [0,3,5,8,9,10],H [0,3,5,8,9,10],H [0,3,8,9,10],H [0,3,8,9,10],H [2]]
def p_chunk_Chunks_0 : PC :=
 (.reg [0] [I 2 (.mv (.v .nils))])
def p_chunk_Chunks_1 : PC :=
 (.reg [0,3] [I 3 (.onil 1)])
def p_chunk_Chunks_2 : PC :=
 (.reg [0,3,8,9,10] [I 6 (.mv (.s 0)),I 7 (.len 0 (.s 6)),I 8 (C F_chunk_sizes [(.s 7),(V 16)]),I 9 (.len 1 (.s 8)),I 10 (.mv (V 0))])
def p_chunk_Chunks_3 : PC :=
 (.reg [0,3,8,9,10,11] [I 11 (.bin .lss (.s 10) (.s 9))])
def p_chunk_Chunks_4 : PC :=
 (.reg [0,3,5,8,9,10] [I 12 (.ixS 1 (.s 8) (.s 10)),I 13 (.ld false 1 (.s 12)),I 5 (.mv (.s 13))])
def p_chunk_Chunks_5 : PC :=
 (.reg [0,3,5,8,9,10] [I 14 (.mv (.s 3)),I 15 (.mv (.s 0)),I 16 (.mv (.s 5)),I 17 (.slcS (.s 15) none (some (.s 16))),I 18 (.bslice false 1 [(.str [])] [(0,(.s 17))]),I 19 (.app 1 16 (.s 14) (.s 18)),I 3 (.mv (.s 19))])
def p_chunk_Chunks_6 : PC :=
 (.reg [0,3,8,9,10] [I 20 (.mv (.s 0)),I 21 (.mv (.s 5)),I 22 (.slcS (.s 20) (some (.s 21)) none),I 0 (.mv (.s 22))])
def p_chunk_Chunks_7 : PC :=
 (.reg [0,3,8,9,10] [I 23 (.bin .add (.s 10) (V 1)),I 10 (.mv (.s 23))])
def p_chunk_Chunks_8 : PC :=
 (.seq p_chunk_Chunks_3
 (.seq (.ite (.s 11)
 .skip
 (.exit 0))
 (.seq (.block 1
 (.seq p_chunk_Chunks_4
 (.seq p_chunk_Chunks_5
 p_chunk_Chunks_6)))
 p_chunk_Chunks_7)))
def p_chunk_Chunks_9 : PC :=
 (.reg [2] [I 24 (.mv (.s 3)),I 2 (.mv (.s 24))])
def p_chunk_Chunks : PF := ⟨false,
 (.seq p_chunk_Chunks_0
 (.seq p_chunk_Chunks_1
 (.seq (.seq p_chunk_Chunks_2
 (.block 0
 (.loop p_chunk_Chunks_8)))
 (.seq p_chunk_Chunks_9
 .ret)))),
 [.s 2]⟩
theorem c_chunk_Chunks : compF Go.Proofs.Try.prog false h_chunk_Chunks Go.Proofs.Try.f57 = some p_chunk_Chunks := by kernel_rfl
def h_chunk_Even : List Hint := [H [0,1],H [0,1,11],H [4,5],H [0,1,13],H [4,5],H [4,5]]
def p_chunk_Even_0 : PC :=
 (.reg [0,1] [I 4 (.mv (.v .nils)),I 5 (.mv (V 0))])
def p_chunk_Even_1 : PC :=
 (.reg [0,1,11] [I 6 (.mv (.s 0)),I 7 (.bin .lss (.s 6) (V 0)),I 8 (.mv (.s 7)),G 9 8 false (.mv (.s 1)),G 10 8 false (.bin .lss (.s 9) (V 1)),I 11 (.pick (.s 8) (.v (.bool true)) (.s 10))])
def p_chunk_Even_2 : PC :=
 (.reg [4,5] [I 4 (.mv (.v .nils)),I 5 (.mv (V 2))])
def p_chunk_Even_3 : PC :=
 (.reg [0,1,13] [I 12 (.mv (.s 0)),I 13 (.bin .gtr (.s 12) (V 65536))])
def p_chunk_Even_4 : PC :=
 (.reg [4,5] [I 4 (.mv (.v .nils)),I 5 (.mv (V 5))])
def p_chunk_Even_5 : PC :=
 (.reg [4,5] [I 14 (.mv (.s 0)),I 15 (.mv (.s 1)),I 16 (C F_chunk_sizes [(.s 14),(.s 15)]),I 4 (.mv (.s 16)),I 5 (.mv (V 0))])
def p_chunk_Even : PF := ⟨false,
 (.seq p_chunk_Even_0
 (.seq (.seq p_chunk_Even_1
 (.ite (.s 11)
 (.seq p_chunk_Even_2
 .ret)
 .skip))
 (.seq (.seq p_chunk_Even_3
 (.ite (.s 13)
 (.seq p_chunk_Even_4
 .ret)
 .skip))
 (.seq p_chunk_Even_5
 .ret)))),
 [.s 4,.s 5]⟩
theorem c_chunk_Even : compF Go.Proofs.Try.prog false h_chunk_Even Go.Proofs.Try.f58 = some p_chunk_Even := by kernel_rfl
def h_plan_group : List Hint := [H [0,2],H [0,2,3],H [2],H [0,2,8],H [2],⟨[2],[],[],[],[(7,.app0),(5,.imm)],[]⟩]
def p_plan_group_0 : PC :=
 (.reg [0,2] [I 2 (.box (.v ZT))])
def p_plan_group_1 : PC :=
 (.reg [0,2,3] [I 4 (.mv (.s 0)),I 5 (.len 1 (.s 4)),I 6 (.bin .eql (.s 5) (V 0)),I 3 (.mv (.s 6))])
def p_plan_group_2 : PC :=
 (.reg [2] [I 7 (.build [(.int .u64 0),(.int .i64 0),(.int .i64 0),(.int .i64 0),(.int .i64 0),(.str []),.nils] []),J (.st 7 (.s 2) (.s 7))])
def p_plan_group_3 : PC :=
 (.reg [0,2,8] [I 9 (.mv (.s 0)),I 10 (.len 1 (.s 9)),I 11 (.bin .eql (.s 10) (V 1)),I 8 (.mv (.s 11))])
def p_plan_group_4 : PC :=
 (.reg [2] [I 12 (.mv (.s 0)),I 13 (.ixS 7 (.s 12) (V 0)),I 14 (.ld true 7 (.s 13)),J (.st 7 (.s 2) (.s 14))])
def p_plan_group_5 : PC :=
 (.reg [2] [I 15 (.mv (.s 0)),I 16 (.ixS 7 (.s 15) (V 0)),I 17 (.fadr 1 (.s 16)),I 18 (.ld false 1 (.s 17)),I 19 (.bin .add (.s 18) (V 1)),I 20 (.w .imm (.bslice false 7 [] [])),I 21 (.mv (.s 0)),I 22 (.w .app0 (.app 7 80 (.s 20) (.s 21))),I 23 (.build [(.int .u64 0),(.int .i64 0),(.int .i64 0),(.int .i64 0),(.int .i64 0),(.str []),.nils] [(1,1,(.s 19)),(6,1,(.s 22))]),J (.st 7 (.s 2) (.s 23))])
def p_plan_group : PF := ⟨false,
 (.seq p_plan_group_0
 (.seq (.block 0
 (.seq p_plan_group_1
 (.ite (.s 3)
 (.seq p_plan_group_2
 .ret)
 (.seq p_plan_group_3
 (.ite (.s 8)
 (.seq p_plan_group_4
 .ret)
 .skip)))))
 (.seq p_plan_group_5
 .ret))),
 [.c 2 true 7]⟩
theorem c_plan_group : compF Go.Proofs.Try.prog false h_plan_group Go.Proofs.Try.f59 = some p_plan_group := by kernel_rfl
def h_plan_New : List Hint := [H [1],H [1,3],H [1,3,4],H [1,3,14],H [1,3],H [3,16,17,18],H [3,16,17,18,19],H [3,6,16,17,18],H [3,16,17,18],H [3,16,17,18],H [2]]
def p_plan_New_0 : PC :=
 (.reg [1] [I 1 (.box (.s 0)),I 2 (.mv (V 0))])
def p_plan_New_1 : PC :=
 (.reg [1,3] [I 3 (.mv (V 0))])
def p_plan_New_2 : PC :=
 (.reg [1,3,4] [I 7 (.ld true 7 (.s 1)),I 8 (C F_plan_kind [(.s 7)]),I 4 (.mv (.s 8))])
def p_plan_New_3 : PC :=
 (.reg [1,3,14] [I 9 (.mv (.s 4)),I 10 (.bin .eql (.s 9) (V 3)),I 11 (.mv (.s 10)),G 12 11 false (.mv (.s 4)),G 13 11 false (.bin .eql (.s 12) (V 4)),I 14 (.pick (.s 11) (.v (.bool true)) (.s 13))])
def p_plan_New_4 : PC :=
 (.reg [1,3] [I 3 (.mv (V 1))])
def p_plan_New_5 : PC :=
 (.reg [3,16,17,18] [I 15 (.fadr 6 (.s 1)),I 16 (.ld false 1 (.s 15)),I 17 (.len 1 (.s 16)),I 18 (.mv (V 0))])
def p_plan_New_6 : PC :=
 (.reg [3,16,17,18,19] [I 19 (.bin .lss (.s 18) (.s 17))])
def p_plan_New_7 : PC :=
 (.reg [3,6,16,17,18] [I 20 (.ixS 7 (.s 16) (.s 18)),I 21 (.ld true 7 (.s 20)),I 6 (.box (.v ZT)),J (.st 7 (.s 6) (.s 21))])
def p_plan_New_8 : PC :=
 (.reg [3,16,17,18] [I 22 (.mv (.s 3)),I 23 (.ld true 7 (.s 6)),I 24 (C F_plan_New [(.s 23)]),I 25 (.bin .add (.s 22) (.s 24)),I 3 (.mv (.s 25))])
def p_plan_New_9 : PC :=
 (.reg [3,16,17,18] [I 26 (.bin .add (.s 18) (V 1)),I 18 (.mv (.s 26))])
def p_plan_New_10 : PC :=
 (.seq p_plan_New_6
 (.seq (.ite (.s 19)
 .skip
 (.exit 0))
 (.seq (.block 1
 (.seq p_plan_New_7
 p_plan_New_8))
 p_plan_New_9)))
def p_plan_New_11 : PC :=
 (.reg [2] [I 27 (.mv (.s 3)),I 2 (.mv (.s 27))])
def p_plan_New : PF := ⟨false,
 (.seq p_plan_New_0
 (.seq p_plan_New_1
 (.seq (.seq p_plan_New_2
 (.seq p_plan_New_3
 (.ite (.s 14)
 p_plan_New_4
 .skip)))
 (.seq (.seq p_plan_New_5
 (.block 0
 (.loop p_plan_New_10)))
 (.seq p_plan_New_11
 .ret))))),
 [.s 2]⟩
theorem c_plan_New : compF Go.Proofs.Try.prog false h_plan_New Go.Proofs.Try.f60 = some p_plan_New := by kernel_rfl
def h_arena_Arena_Stats : List Hint := [H [0,2],H [0,2,4],H [2],⟨[2],[],[(8,.pure),(19,.pure)],[],[],[]⟩]
def p_arena_Arena_Stats_0 : PC :=
 (.reg [0,2] [I 2 (.box (.v (.agg [(.int .i64 0),(.int .i64 0),(.int .i64 0),(.int .i64 0),(.int .i64 0),(.int .i64 0),(.int .i64 0)])))])
def p_arena_Arena_Stats_1 : PC :=
 (.reg [0,2,4] [I 3 (.mv (.s 0)),I 4 (.eqs false 3 [] (.s 3) (.v .nilptr))])
def p_arena_Arena_Stats_2 : PC :=
 (.reg [2] [I 5 (.build [(.int .i64 0),(.int .i64 0),(.int .i64 0),(.int .i64 0),(.int .i64 0),(.int .i64 0),(.int .i64 0)] []),J (.st 7 (.s 2) (.s 5))])
def p_arena_Arena_Stats_3 : PC :=
 (.reg [2] [I 6 (.mv (.s 0)),I 7 (.nilck (.s 6)),I 8 (.fadr 0 (.s 7)),I 9 (.ld false 1 (.s 8)),I 10 (.mv (.s 0)),I 11 (.nilck (.s 10)),I 12 (.fadr 1 (.s 11)),I 13 (.ld false 1 (.s 12)),I 14 (.call .pure (.v (.func (.func F_freelist_List_Free) [] [])) [(.s 13)]),I 15 (.len 1 (.s 14)),I 16 (.mv (.s 0)),I 17 (.nilck (.s 16)),I 18 (.fadr 2 (.s 17)),I 19 (.ld false 1 (.s 18)),I 20 (.len 2 (.s 19)),I 21 (.mv (.s 0)),I 22 (.nilck (.s 21)),I 23 (.fadr 1 (.s 22)),I 24 (.ld false 1 (.s 23)),I 25 (.call .pure (.v (.func (.func F_freelist_List_Withdrawn) [] [])) [(.s 24)]),I 26 (.len 1 (.s 25)),I 27 (.mv (.s 0)),I 28 (.nilck (.s 27)),I 29 (.fadr 3 (.s 28)),I 30 (.ld false 1 (.s 29)),I 31 (.mv (.s 0)),I 32 (.nilck (.s 31)),I 33 (.fadr 4 (.s 32)),I 34 (.ld false 1 (.s 33)),I 35 (.mv (.s 0)),I 36 (.nilck (.s 35)),I 37 (.fadr 5 (.s 36)),I 38 (.ld false 1 (.s 37)),I 39 (.build [(.int .i64 0),(.int .i64 0),(.int .i64 0),(.int .i64 0),(.int .i64 0),(.int .i64 0),(.int .i64 0)] [(0,1,(.s 9)),(1,1,(.s 15)),(2,1,(.s 20)),(3,1,(.s 26)),(4,1,(.s 30)),(5,1,(.s 34)),(6,1,(.s 38))]),J (.st 7 (.s 2) (.s 39))])
def p_arena_Arena_Stats : PF := ⟨false,
 (.seq p_arena_Arena_Stats_0
 (.seq (.seq p_arena_Arena_Stats_1
 (.ite (.s 4)
 (.seq p_arena_Arena_Stats_2
 .ret)
 .skip))
 (.seq p_arena_Arena_Stats_3
 .ret))),
 [.c 2 true 7]⟩
theorem c_arena_Arena_Stats : compF Go.Proofs.Try.prog false h_arena_Arena_Stats Go.Proofs.Try.f61 = some p_arena_Arena_Stats := by kernel_rfl
def h_rope_Pen_add : List Hint := [H [0,3],H [0,3,5],H [0,3,5,80],H [0,3,5,95],H [0,5,6],H [0,5,6],H [5],⟨[0,3,5,7],[0],[],[],[],[]⟩,H [0,3,5,7,20,21,22],H [0,3,5,7,20,21,22,23],H [0,3,5,7,9,20,21,22],H [0,3,5,7,10,20,21,22],⟨[0,3,5,7,10,20,21,22],[2],[],[],[],[]⟩,H [0,3,5,7,10,20,21,22],H [0,3,5,7,10,20,21,22],H [0,3,5,7,20,21,22],H [0,3,5,7,20,21,22],H [5],H [4]]
def p_rope_Pen_add_0 : PC :=
 (.reg [0,3] [I 3 (.box (.s 1)),I 4 (.mv (.v .nilptr))])
def p_rope_Pen_add_1 : PC :=
 (.reg [0,3,5] [I 11 (.fadr 1 (.s 3)),I 12 (.ld false 1 (.s 11)),I 13 (.fadr 2 (.s 3)),I 14 (.ld true 3 (.s 13)),I 15 (.fadr 0 (.s 3)),I 16 (.ld false 1 (.s 15)),I 17 (.build [(.int .u64 0),(.int .i64 0),(.int .i64 0),(.int .i64 0),(.int .i64 0)] [(1,1,(.s 12)),(2,3,(.s 14)),(0,1,(.s 16))]),I 18 (.box (.s 17)),I 5 (.mv (.s 18))])
def p_rope_Pen_add_2 : PC :=
 (.reg [0,3,5,80] [I 81 (.fadr 0 (.s 3)),I 82 (.ld false 1 (.s 81)),I 83 (.bin .neq (.s 82) (.v (.int .u64 0))),I 84 (.mv (.s 83)),G 85 84 false (.fadr 5 (.s 3)),G 86 84 false (.ld false 1 (.s 85)),G 87 84 false (.bin .eql (.s 86) (.v (.str []))),G 88 84 false (.mv (.s 87)),G 89 88 true (.fadr 6 (.s 3)),G 90 88 true (.ld false 1 (.s 89)),G 91 88 true (.len 1 (.s 90)),G 92 88 true (.bin .eql (.s 91) (V 0)),G 93 84 false (.pick (.s 88) (.s 92) (.v (.bool false))),I 94 (.pick (.s 84) (.v (.bool true)) (.s 93)),I 80 (.mv (.s 94))])
def p_rope_Pen_add_3 : PC :=
 (.reg [0,3,5,95] [I 96 (.fadr 1 (.s 3)),I 97 (.ld false 1 (.s 96)),I 98 (.bin .eql (.s 97) (V 0)),I 95 (.mv (.s 98))])
def p_rope_Pen_add_4 : PC :=
 (.reg [0,5,6] [I 99 (.fadr 5 (.s 3)),I 100 (.ld false 1 (.s 99)),I 101 (.build [(.int .i64 0),(.str []),.nils] [(1,1,(.s 100))]),I 6 (.box (.v ZN)),J (.st 3 (.s 6) (.s 101))])
def p_rope_Pen_add_5 : PC :=
 (.reg [0,5,6] [I 103 (.mv (.s 5)),I 104 (.ld true 3 (.s 6)),I 105 (C F_node_Measure [(.s 104)]),I 102 (.mv (.s 105)),I 106 (.ext (.s 102) 0),I 107 (.ext (.s 102) 1),I 108 (.nilck (.s 103)),I 109 (.fadr 2 (.s 108)),J (.st 3 (.s 109) (.s 106))])
def p_rope_Pen_add_6 : PC :=
 (.reg [5] [I 110 (.mv (.s 0)),I 111 (.mv (.s 5)),I 112 (.mkf (.func F_rope_Pen_addC1) [] [(.s 6)]),I 113 (C F_rope_Pen_put [(.s 110),(.s 111),(.s 112)])])
def p_rope_Pen_add_7 : PC :=
 (.reg [0,3,5,7] [I 7 (.boxnil 1)])
def p_rope_Pen_add_8 : PC :=
 (.reg [0,3,5,7,20,21,22] [I 19 (.fadr 6 (.s 3)),I 20 (.ld false 1 (.s 19)),I 21 (.len 1 (.s 20)),I 22 (.mv (V 0))])
def p_rope_Pen_add_9 : PC :=
 (.reg [0,3,5,7,20,21,22,23] [I 23 (.bin .lss (.s 22) (.s 21))])
def p_rope_Pen_add_10 : PC :=
 (.reg [0,3,5,7,9,20,21,22] [I 24 (.ixS 7 (.s 20) (.s 22)),I 25 (.ld true 7 (.s 24)),I 9 (.box (.v ZT)),J (.st 7 (.s 9) (.s 25))])
def p_rope_Pen_add_11 : PC :=
 (.reg [0,3,5,7,10,20,21,22] [I 26 (.mv (.s 0)),I 27 (.ld true 7 (.s 9)),I 28 (C F_rope_Pen_add [(.s 26),(.s 27)]),I 10 (.mv (.s 28))])
def p_rope_Pen_add_12 : PC :=
 (.reg [0,3,5,7,10,20,21,22] [I 29 (.ld false 1 (.s 7)),I 30 (.mv (.s 10)),I 31 (.bslice true 1 [.nilptr] [(0,(.s 30))]),I 32 (.app 1 8 (.s 29) (.s 31)),J (.st 1 (.s 7) (.s 32))])
def p_rope_Pen_add_13 : PC :=
 (.reg [0,3,5,7,10,20,21,22] [I 33 (.mv (.s 5)),I 34 (.nilck (.s 33)),I 35 (.fadr 2 (.s 34)),I 36 (.fadr 0 (.s 35)),I 37 (.ld false 1 (.s 36)),I 38 (.mv (.s 10)),I 39 (.nilck (.s 38)),I 40 (.fadr 2 (.s 39)),I 41 (.fadr 0 (.s 40)),I 42 (.ld false 1 (.s 41)),I 43 (.bin .add (.s 37) (.s 42)),I 44 (.nilck (.s 33)),I 45 (.fadr 2 (.s 44)),I 46 (.fadr 0 (.s 45)),J (.st 1 (.s 46) (.s 43))])
def p_rope_Pen_add_14 : PC :=
 (.reg [0,3,5,7,10,20,21,22] [I 47 (.mv (.s 5)),I 48 (.nilck (.s 47)),I 49 (.fadr 2 (.s 48)),I 50 (.fadr 1 (.s 49)),I 51 (.ld false 1 (.s 50)),I 52 (.mv (.s 10)),I 53 (.nilck (.s 52)),I 54 (.fadr 2 (.s 53)),I 55 (.fadr 1 (.s 54)),I 56 (.ld false 1 (.s 55)),I 57 (.bin .add (.s 51) (.s 56)),I 58 (.nilck (.s 47)),I 59 (.fadr 2 (.s 58)),I 60 (.fadr 1 (.s 59)),J (.st 1 (.s 60) (.s 57))])
def p_rope_Pen_add_15 : PC :=
 (.reg [0,3,5,7,20,21,22] [I 61 (.mv (.s 5)),I 62 (.nilck (.s 61)),I 63 (.fadr 2 (.s 62)),I 64 (.fadr 2 (.s 63)),I 65 (.ld false 1 (.s 64)),I 66 (.mv (.s 10)),I 67 (.nilck (.s 66)),I 68 (.fadr 2 (.s 67)),I 69 (.fadr 2 (.s 68)),I 70 (.ld false 1 (.s 69)),I 71 (.bin .add (.s 65) (.s 70)),I 72 (.nilck (.s 61)),I 73 (.fadr 2 (.s 72)),I 74 (.fadr 2 (.s 73)),J (.st 1 (.s 74) (.s 71))])
def p_rope_Pen_add_16 : PC :=
 (.reg [0,3,5,7,20,21,22] [I 75 (.bin .add (.s 22) (V 1)),I 22 (.mv (.s 75))])
def p_rope_Pen_add_17 : PC :=
 (.seq p_rope_Pen_add_9
 (.seq (.ite (.s 23)
 .skip
 (.exit 1))
 (.seq (.block 2
 (.seq p_rope_Pen_add_10
 (.seq p_rope_Pen_add_11
 (.seq p_rope_Pen_add_12
 (.seq p_rope_Pen_add_13
 (.seq p_rope_Pen_add_14
 p_rope_Pen_add_15))))))
 p_rope_Pen_add_16)))
def p_rope_Pen_add_18 : PC :=
 (.reg [5] [I 76 (.mv (.s 0)),I 77 (.mv (.s 5)),I 78 (.mkf (.func F_rope_Pen_addC2) [] [(.s 3),(.s 7)]),I 79 (C F_rope_Pen_put [(.s 76),(.s 77),(.s 78)])])
def p_rope_Pen_add_19 : PC :=
 (.reg [4] [I 114 (.mv (.s 5)),I 4 (.mv (.s 114))])
def p_rope_Pen_add : PF := ⟨true,
 (.seq p_rope_Pen_add_0
 (.seq p_rope_Pen_add_1
 (.seq (.block 0
 (.seq p_rope_Pen_add_2
 (.ite (.s 80)
 .skip
 (.seq p_rope_Pen_add_3
 (.ite (.s 95)
 (.seq p_rope_Pen_add_4
 (.seq p_rope_Pen_add_5
 p_rope_Pen_add_6))
 (.seq p_rope_Pen_add_7
 (.seq (.seq p_rope_Pen_add_8
 (.block 1
 (.loop p_rope_Pen_add_17)))
 p_rope_Pen_add_18)))))))
 (.seq p_rope_Pen_add_19
 .ret)))),
 [.s 4]⟩
theorem c_rope_Pen_add : compF Go.Proofs.Try.prog true h_rope_Pen_add Go.Proofs.Try.f62 = some p_rope_Pen_add := by kernel_rfl
def h_freelist_New : List Hint := [H [0,1],H [0,1,21],H [4,5],⟨[0,6],[],[],[],[(1,(.here 1)),(5,(.here 5)),(3,(.here 3))],[3,1,5]⟩,H [0,6,31,32],H [0,6,31,32,33],H [0,6,7,31,32],H [0,6,7,31,32],H [0,6,31,32],H [0,6,31,32],H [4,5]]
def p_freelist_New_0 : PC :=
 (.reg [0,1] [I 4 (.mv (.v .nilptr)),I 5 (.mv (V 0))])
def p_freelist_New_1 : PC :=
 (.reg [0,1,21] [I 8 (.mv (.s 0)),I 9 (.bin .lss (.s 8) (V 1)),I 10 (.mv (.s 9)),G 11 10 false (.mv (.s 0)),G 12 10 false (.bin .gtr (.s 11) (V 16384)),I 13 (.pick (.s 10) (.v (.bool true)) (.s 12)),I 14 (.mv (.s 13)),G 15 14 false (.mv (.s 1)),G 16 14 false (.bin .lss (.s 15) (.v (.int .u64 1))),I 17 (.pick (.s 14) (.v (.bool true)) (.s 16)),I 18 (.mv (.s 17)),G 19 18 false (.mv (.s 1)),G 20 18 false (.bin .gtr (.s 19) (.v (.int .u64 4294967295))),I 21 (.pick (.s 18) (.v (.bool true)) (.s 20))])
def p_freelist_New_2 : PC :=
 (.reg [4,5] [I 4 (.mv (.v .nilptr)),I 5 (.mv (V 3))])
def p_freelist_New_3 : PC :=
 (.regH [3,1,5] [0,6] [I 22 (.mv (.s 0)),I 23 (.w (.here 1) (.mkslice 1 8 (.int .i64 0) (.s 22) (.s 22))),I 24 (.mv (.s 0)),I 25 (.w (.here 3) (.mkslice 1 1 (.int .u8 0) (.s 24) (.s 24))),I 26 (.mv (.s 0)),I 27 (.w (.here 5) (.mkslice 1 8 (.int .u64 0) (.s 26) (.s 26))),I 28 (.mv (.s 1)),I 29 (.build [.nils,.nils,.nils,(.int .u64 0)] [(0,1,(.s 23)),(1,1,(.s 25)),(2,1,(.s 27)),(3,1,(.s 28))]),I 30 (.box (.s 29)),I 6 (.mv (.s 30))])
def p_freelist_New_4 : PC :=
 (.reg [0,6,31,32] [I 31 (.mv (.s 0)),I 32 (.mv (V 0))])
def p_freelist_New_5 : PC :=
 (.reg [0,6,31,32,33] [I 33 (.bin .lss (.s 32) (.s 31))])
def p_freelist_New_6 : PC :=
 (.reg [0,6,7,31,32] [I 34 (.mv (.s 32)),I 7 (.mv (.s 34))])
def p_freelist_New_7 : PC :=
 (.reg [0,6,7,31,32] [I 35 (.mv (.s 6)),I 36 (.nilck (.s 35)),I 37 (.fadr 0 (.s 36)),I 38 (.ld false 1 (.s 37)),I 39 (.mv (.s 7)),I 40 (.mv (.s 0)),I 41 (.bin .sub (.s 40) (V 1)),I 42 (.mv (.s 7)),I 43 (.bin .sub (.s 41) (.s 42)),I 44 (.ixS 1 (.s 38) (.s 39)),J (.st 1 (.s 44) (.s 43))])
def p_freelist_New_8 : PC :=
 (.reg [0,6,31,32] [I 45 (.mv (.s 6)),I 46 (.nilck (.s 45)),I 47 (.fadr 2 (.s 46)),I 48 (.ld false 1 (.s 47)),I 49 (.mv (.s 7)),I 50 (.ixS 1 (.s 48) (.s 49)),J (.st 1 (.s 50) (.v (.int .u64 1)))])
def p_freelist_New_9 : PC :=
 (.reg [0,6,31,32] [I 51 (.bin .add (.s 32) (V 1)),I 32 (.mv (.s 51))])
def p_freelist_New_10 : PC :=
 (.seq p_freelist_New_5
 (.seq (.ite (.s 33)
 .skip
 (.exit 0))
 (.seq (.block 1
 (.seq p_freelist_New_6
 (.seq p_freelist_New_7
 p_freelist_New_8)))
 p_freelist_New_9)))
def p_freelist_New_11 : PC :=
 (.reg [4,5] [I 52 (.mv (.s 6)),I 4 (.mv (.s 52)),I 5 (.mv (V 0))])
def p_freelist_New : PF := ⟨true,
 (.seq p_freelist_New_0
 (.seq (.seq p_freelist_New_1
 (.ite (.s 21)
 (.seq p_freelist_New_2
 .ret)
 .skip))
 (.seq p_freelist_New_3
 (.seq (.seq p_freelist_New_4
 (.block 0
 (.loop p_freelist_New_10)))
 (.seq p_freelist_New_11
 .ret))))),
 [.s 4,.s 5]⟩
theorem c_freelist_New : compF Go.Proofs.Try.prog true h_freelist_New Go.Proofs.Try.f69 = some p_freelist_New := by kernel_rfl
def h_arena_Arena_Get : List Hint := [H [0,1,4],H [0,1,4,9],H [4,5],H [0,4,6,7],H [0,4,6,21],H [4],H [4,5],H [4,6],H [4,5]]
def p_arena_Arena_Get_0 : PC :=
 (.reg [0,1,4] [I 4 (.box (.v ZN)),I 5 (.mv (V 0))])
def p_arena_Arena_Get_1 : PC :=
 (.reg [0,1,4,9] [I 8 (.mv (.s 0)),I 9 (.eqs false 3 [] (.s 8) (.v .nilptr))])
def p_arena_Arena_Get_2 : PC :=
 (.reg [4,5] [I 10 (.build [(.int .i64 0),(.str []),.nils] []),J (.st 3 (.s 4) (.s 10)),I 5 (.mv (V 1))])
def p_arena_Arena_Get_3 : PC :=
 (.reg [0,4,6,7] [I 12 (.mv (.s 0)),I 13 (.nilck (.s 12)),I 14 (.fadr 2 (.s 13)),I 15 (.ld false 1 (.s 14)),I 16 (.mv (.s 1)),I 17 (.look 0 ZN true (.s 15) (.s 16)),I 11 (.mv (.s 17)),I 18 (.ext (.s 11) 0),I 19 (.ext (.s 11) 1),I 6 (.box (.v ZN)),J (.st 3 (.s 6) (.s 18)),I 7 (.mv (.s 19))])
def p_arena_Arena_Get_4 : PC :=
 (.reg [0,4,6,21] [I 20 (.mv (.s 7)),I 21 (.un .not (.s 20))])
def p_arena_Arena_Get_5 : PC :=
 (.reg [4] [I 22 (.mv (.s 0)),I 23 (.nilck (.s 22)),I 24 (.fadr 5 (.s 23)),I 25 (.ld false 1 (.s 24)),I 26 (.bin .add (.s 25) (V 1)),I 27 (.nilck (.s 22)),I 28 (.fadr 5 (.s 27)),J (.st 1 (.s 28) (.s 26))])
def p_arena_Arena_Get_6 : PC :=
 (.reg [4,5] [I 29 (.build [(.int .i64 0),(.str []),.nils] []),J (.st 3 (.s 4) (.s 29)),I 5 (.mv (V 10))])
def p_arena_Arena_Get_7 : PC :=
 (.reg [4,6] [I 30 (.fadr 2 (.s 6)),I 31 (.ld false 1 (.s 30)),I 32 (C F_slices_Clone_api_Kid_api_Kid [(.s 31)]),I 33 (.fadr 2 (.s 6)),J (.st 1 (.s 33) (.s 32))])
def p_arena_Arena_Get_8 : PC :=
 (.reg [4,5] [I 34 (.ld true 3 (.s 6)),J (.st 3 (.s 4) (.s 34)),I 5 (.mv (V 0))])
def p_arena_Arena_Get : PF := ⟨false,
 (.seq p_arena_Arena_Get_0
 (.seq (.seq p_arena_Arena_Get_1
 (.ite (.s 9)
 (.seq p_arena_Arena_Get_2
 .ret)
 .skip))
 (.seq p_arena_Arena_Get_3
 (.seq (.seq p_arena_Arena_Get_4
 (.ite (.s 21)
 (.seq p_arena_Arena_Get_5
 (.seq p_arena_Arena_Get_6
 .ret))
 .skip))
 (.seq p_arena_Arena_Get_7
 (.seq p_arena_Arena_Get_8
 .ret)))))),
 [.c 4 true 3,.s 5]⟩
theorem c_arena_Arena_Get : compF Go.Proofs.Try.prog false h_arena_Arena_Get Go.Proofs.Try.f70 = some p_arena_Arena_Get := by kernel_rfl
def h_node_Measure : List Hint := [H [1,2],H [1,2,4],H [1,2,4,8],H [2,3],H [2,3]]
def p_node_Measure_0 : PC :=
 (.reg [1,2] [I 1 (.box (.s 0)),I 2 (.box (.v ZM)),I 3 (.mv (V 0))])
def p_node_Measure_1 : PC :=
 (.reg [1,2,4] [I 5 (.ld true 3 (.s 1)),I 6 (C F_node_Check [(.s 5)]),I 4 (.mv (.s 6))])
def p_node_Measure_2 : PC :=
 (.reg [1,2,4,8] [I 7 (.mv (.s 4)),I 8 (.bin .neq (.s 7) (V 0))])
def p_node_Measure_3 : PC :=
 (.reg [2,3] [I 9 (.build [(.int .i64 0),(.int .i64 0),(.int .i64 0)] []),I 10 (.mv (.s 4)),J (.st 3 (.s 2) (.s 9)),I 3 (.mv (.s 10))])
def p_node_Measure_4 : PC :=
 (.reg [2,3] [I 11 (.ld true 3 (.s 1)),I 12 (C F_node_sum [(.s 11)]),J (.st 3 (.s 2) (.s 12)),I 3 (.mv (V 0))])
def p_node_Measure : PF := ⟨false,
 (.seq p_node_Measure_0
 (.seq (.seq p_node_Measure_1
 (.seq p_node_Measure_2
 (.ite (.s 8)
 (.seq p_node_Measure_3
 .ret)
 .skip)))
 (.seq p_node_Measure_4
 .ret))),
 [.c 2 true 3,.s 3]⟩
theorem c_node_Measure : compF Go.Proofs.Try.prog false h_node_Measure Go.Proofs.Try.f71 = some p_node_Measure := by kernel_rfl
def h_node_choose : List Hint := [H [1,2,3],H [1,2,3,9],H [1,2,3,9,15],H [6,7,8],H [1,2,3,19],H [6,7,8],H [1,2,3,21],H [6,7,8],H [1,2,23,24,25],H [1,2,23,24,25,26],H [1,2,10,11,23,24,25],H [1,2,10,11,23,24,25,35],H [6,7,8],H [1,2,23,24,25],H [1,2,23,24,25],H [6,7,8]]
def p_node_choose_0 : PC :=
 (.reg [1,2,3] [I 3 (.box (.s 0)),I 6 (.mv (V 0)),I 7 (.mv (V 0)),I 8 (.mv (V 0))])
def p_node_choose_1 : PC :=
 (.reg [1,2,3,9] [I 12 (.ld true 3 (.s 3)),I 13 (C F_node_Check [(.s 12)]),I 9 (.mv (.s 13))])
def p_node_choose_2 : PC :=
 (.reg [1,2,3,9,15] [I 14 (.mv (.s 9)),I 15 (.bin .neq (.s 14) (V 0))])
def p_node_choose_3 : PC :=
 (.reg [6,7,8] [I 16 (.mv (.s 9)),I 6 (.mv (V 0)),I 7 (.mv (V 0)),I 8 (.mv (.s 16))])
def p_node_choose_4 : PC :=
 (.reg [1,2,3,19] [I 17 (.fadr 0 (.s 3)),I 18 (.ld false 1 (.s 17)),I 19 (.bin .eql (.s 18) (V 0))])
def p_node_choose_5 : PC :=
 (.reg [6,7,8] [I 6 (.mv (V 0)),I 7 (.mv (V 0)),I 8 (.mv (V 8))])
def p_node_choose_6 : PC :=
 (.reg [1,2,3,21] [I 20 (.mv (.s 1)),I 21 (.bin .lss (.s 20) (V 0))])
def p_node_choose_7 : PC :=
 (.reg [6,7,8] [I 6 (.mv (V 0)),I 7 (.mv (V 0)),I 8 (.mv (V 3))])
def p_node_choose_8 : PC :=
 (.reg [1,2,23,24,25] [I 22 (.fadr 2 (.s 3)),I 23 (.ld false 1 (.s 22)),I 24 (.len 1 (.s 23)),I 25 (.mv (V 0))])
def p_node_choose_9 : PC :=
 (.reg [1,2,23,24,25,26] [I 26 (.bin .lss (.s 25) (.s 24))])
def p_node_choose_10 : PC :=
 (.reg [1,2,10,11,23,24,25] [I 27 (.mv (.s 25)),I 28 (.ixS 4 (.s 23) (.s 25)),I 29 (.ld true 4 (.s 28)),I 11 (.box (.v ZK)),I 10 (.mv (.s 27)),J (.st 4 (.s 11) (.s 29))])
def p_node_choose_11 : PC :=
 (.reg [1,2,10,11,23,24,25,35] [I 30 (.mv (.s 1)),I 31 (.mv (.s 2)),I 32 (.fadr 1 (.s 11)),I 33 (.ld true 3 (.s 32)),I 34 (.call .norm (.s 31) [(.s 33)]),I 35 (.bin .lss (.s 30) (.s 34))])
def p_node_choose_12 : PC :=
 (.reg [6,7,8] [I 36 (.mv (.s 10)),I 37 (.mv (.s 1)),I 6 (.mv (.s 36)),I 7 (.mv (.s 37)),I 8 (.mv (V 0))])
def p_node_choose_13 : PC :=
 (.reg [1,2,23,24,25] [I 38 (.mv (.s 1)),I 39 (.mv (.s 2)),I 40 (.fadr 1 (.s 11)),I 41 (.ld true 3 (.s 40)),I 42 (.call .norm (.s 39) [(.s 41)]),I 43 (.bin .sub (.s 38) (.s 42)),I 1 (.mv (.s 43))])
def p_node_choose_14 : PC :=
 (.reg [1,2,23,24,25] [I 44 (.bin .add (.s 25) (V 1)),I 25 (.mv (.s 44))])
def p_node_choose_15 : PC :=
 (.seq p_node_choose_9
 (.seq (.ite (.s 26)
 .skip
 (.exit 0))
 (.seq (.block 1
 (.seq p_node_choose_10
 (.seq (.seq p_node_choose_11
 (.ite (.s 35)
 (.seq p_node_choose_12
 .ret)
 .skip))
 p_node_choose_13)))
 p_node_choose_14)))
def p_node_choose_16 : PC :=
 (.reg [6,7,8] [I 6 (.mv (V 0)),I 7 (.mv (V 0)),I 8 (.mv (V 3))])
def p_node_choose : PF := ⟨false,
 (.seq p_node_choose_0
 (.seq (.seq p_node_choose_1
 (.seq p_node_choose_2
 (.ite (.s 15)
 (.seq p_node_choose_3
 .ret)
 .skip)))
 (.seq (.seq p_node_choose_4
 (.ite (.s 19)
 (.seq p_node_choose_5
 .ret)
 .skip))
 (.seq (.seq p_node_choose_6
 (.ite (.s 21)
 (.seq p_node_choose_7
 .ret)
 .skip))
 (.seq (.seq p_node_choose_8
 (.block 0
 (.loop p_node_choose_15)))
 (.seq p_node_choose_16
 .ret)))))),
 [.s 6,.s 7,.s 8]⟩
theorem c_node_choose : compF Go.Proofs.Try.prog false h_node_choose Go.Proofs.Try.f72 = some p_node_choose := by kernel_rfl
def h_node_ChildC1 : List Hint := [H [1],H [2]]
def p_node_ChildC1_0 : PC :=
 (.reg [1] [I 1 (.box (.s 0)),I 2 (.mv (V 0))])
def p_node_ChildC1_1 : PC :=
 (.reg [2] [I 3 (.fadr 0 (.s 1)),I 4 (.ld false 1 (.s 3)),I 2 (.mv (.s 4))])
def p_node_ChildC1 : PF := ⟨false,
 (.seq p_node_ChildC1_0
 (.seq p_node_ChildC1_1
 .ret)),
 [.s 2]⟩
theorem c_node_ChildC1 : compF Go.Proofs.Try.prog false h_node_ChildC1 Go.Proofs.Try.f73 = some p_node_ChildC1 := by kernel_rfl
def h_seek_offsetC1 : List Hint := [H [1,2],H []]
def p_seek_offsetC1_0 : PC :=
 (.reg [1,2] [I 2 (.box (.s 0))])
def p_seek_offsetC1_1 : PC :=
 (.reg [] [I 3 (.ld false 1 (.s 1)),I 4 (.fadr 0 (.s 2)),I 5 (.ld false 1 (.s 4)),I 6 (.bin .add (.s 3) (.s 5)),J (.st 1 (.s 1) (.s 6))])
def p_seek_offsetC1 : PF := ⟨false,
 (.seq p_seek_offsetC1_0
 p_seek_offsetC1_1),
 []⟩
theorem c_seek_offsetC1 : compF Go.Proofs.Try.prog false h_seek_offsetC1 Go.Proofs.Try.f74 = some p_seek_offsetC1 := by kernel_rfl
def h_node_RuneC1 : List Hint := [H [1],H [2]]
def p_node_RuneC1_0 : PC :=
 (.reg [1] [I 1 (.box (.s 0)),I 2 (.mv (V 0))])
def p_node_RuneC1_1 : PC :=
 (.reg [2] [I 3 (.fadr 1 (.s 1)),I 4 (.ld false 1 (.s 3)),I 2 (.mv (.s 4))])
def p_node_RuneC1 : PF := ⟨false,
 (.seq p_node_RuneC1_0
 (.seq p_node_RuneC1_1
 .ret)),
 [.s 2]⟩
theorem c_node_RuneC1 : compF Go.Proofs.Try.prog false h_node_RuneC1 Go.Proofs.Try.f75 = some p_node_RuneC1 := by kernel_rfl
def h_measure_find : List Hint := [H [0,1,2],H [0,1,2,10,11],H [0,1,2,10,11,12],H [0,1,2,8,10,11],H [0,1,2,8,10,11,19],H [0,1,2,8,10,11,21],H [6,7],H [0,1,2,10,11],H [0,1,2,10,11],H [6,7]]
def p_measure_find_0 : PC :=
 (.reg [0,1,2] [I 6 (.mv (V 0)),I 7 (.mv (.v (.bool false)))])
def p_measure_find_1 : PC :=
 (.reg [0,1,2,10,11] [I 9 (.mv (.s 0)),I 10 (.len 0 (.s 9)),I 11 (.mv (V 0))])
def p_measure_find_2 : PC :=
 (.reg [0,1,2,10,11,12] [I 12 (.bin .lss (.s 11) (.s 10))])
def p_measure_find_3 : PC :=
 (.reg [0,1,2,8,10,11] [I 13 (.mv (.s 11)),I 8 (.mv (.s 13))])
def p_measure_find_4 : PC :=
 (.reg [0,1,2,8,10,11,19] [I 14 (.mv (.s 1)),I 15 (.mv (.s 0)),I 16 (.mv (.s 8)),I 17 (.ixStr (.s 15) (.s 16)),I 18 (.call .norm (.s 14) [(.s 17)]),I 19 (.un .not (.s 18))])
def p_measure_find_5 : PC :=
 (.reg [0,1,2,8,10,11,21] [I 20 (.mv (.s 2)),I 21 (.bin .eql (.s 20) (V 0))])
def p_measure_find_6 : PC :=
 (.reg [6,7] [I 22 (.mv (.s 8)),I 6 (.mv (.s 22)),I 7 (.mv (.v (.bool true)))])
def p_measure_find_7 : PC :=
 (.reg [0,1,2,10,11] [I 23 (.mv (.s 2)),I 24 (.bin .sub (.s 23) (V 1)),I 2 (.mv (.s 24))])
def p_measure_find_8 : PC :=
 (.reg [0,1,2,10,11] [I 25 (.bin .add (.s 11) (V 1)),I 11 (.mv (.s 25))])
def p_measure_find_9 : PC :=
 (.seq p_measure_find_2
 (.seq (.ite (.s 12)
 .skip
 (.exit 0))
 (.seq (.block 1
 (.seq p_measure_find_3
 (.seq (.seq p_measure_find_4
 (.ite (.s 19)
 (.exit 1)
 .skip))
 (.seq (.seq p_measure_find_5
 (.ite (.s 21)
 (.seq p_measure_find_6
 .ret)
 .skip))
 p_measure_find_7))))
 p_measure_find_8)))
def p_measure_find_10 : PC :=
 (.reg [6,7] [I 6 (.mv (V 0)),I 7 (.mv (.v (.bool false)))])
def p_measure_find : PF := ⟨false,
 (.seq p_measure_find_0
 (.seq (.seq p_measure_find_1
 (.block 0
 (.loop p_measure_find_9)))
 (.seq p_measure_find_10
 .ret))),
 [.s 6,.s 7]⟩
theorem c_measure_find : compF Go.Proofs.Try.prog false h_measure_find Go.Proofs.Try.f76 = some p_measure_find := by kernel_rfl
def h_measure_begins : List Hint := [H [0],H [2]]
def p_measure_begins_0 : PC :=
 (.reg [0] [I 2 (.mv (.v (.bool false)))])
def p_measure_begins_1 : PC :=
 (.reg [2] [I 3 (.mv (.s 0)),I 4 (.bin .lss (.s 3) (.v (.int .u8 128))),I 5 (.mv (.s 4)),G 6 5 false (.mv (.s 0)),G 7 5 false (.bin .gtr (.s 6) (.v (.int .u8 191))),I 8 (.pick (.s 5) (.v (.bool true)) (.s 7)),I 2 (.mv (.s 8))])
def p_measure_begins : PF := ⟨false,
 (.seq p_measure_begins_0
 (.seq p_measure_begins_1
 .ret)),
 [.s 2]⟩
theorem c_measure_begins : compF Go.Proofs.Try.prog false h_measure_begins Go.Proofs.Try.f77 = some p_measure_begins := by kernel_rfl
def h_measure_count : List Hint := [H [0,1],H [0,1,5],H [0,1,5,8,9],H [0,1,5,8,9,10],H [0,1,5,6,8,9],H [0,1,5,8,9,16],H [0,1,5,8,9],H [0,1,5,8,9],H [4]]
def p_measure_count_0 : PC :=
 (.reg [0,1] [I 4 (.mv (V 0))])
def p_measure_count_1 : PC :=
 (.reg [0,1,5] [I 5 (.mv (V 0))])
def p_measure_count_2 : PC :=
 (.reg [0,1,5,8,9] [I 7 (.mv (.s 0)),I 8 (.len 0 (.s 7)),I 9 (.mv (V 0))])
def p_measure_count_3 : PC :=
 (.reg [0,1,5,8,9,10] [I 10 (.bin .lss (.s 9) (.s 8))])
def p_measure_count_4 : PC :=
 (.reg [0,1,5,6,8,9] [I 11 (.mv (.s 9)),I 6 (.mv (.s 11))])
def p_measure_count_5 : PC :=
 (.reg [0,1,5,8,9,16] [I 12 (.mv (.s 1)),I 13 (.mv (.s 0)),I 14 (.mv (.s 6)),I 15 (.ixStr (.s 13) (.s 14)),I 16 (.call .norm (.s 12) [(.s 15)])])
def p_measure_count_6 : PC :=
 (.reg [0,1,5,8,9] [I 17 (.mv (.s 5)),I 18 (.bin .add (.s 17) (V 1)),I 5 (.mv (.s 18))])
def p_measure_count_7 : PC :=
 (.reg [0,1,5,8,9] [I 19 (.bin .add (.s 9) (V 1)),I 9 (.mv (.s 19))])
def p_measure_count_8 : PC :=
 (.seq p_measure_count_3
 (.seq (.ite (.s 10)
 .skip
 (.exit 0))
 (.seq (.block 1
 (.seq p_measure_count_4
 (.seq p_measure_count_5
 (.ite (.s 16)
 p_measure_count_6
 .skip))))
 p_measure_count_7)))
def p_measure_count_9 : PC :=
 (.reg [4] [I 20 (.mv (.s 5)),I 4 (.mv (.s 20))])
def p_measure_count : PF := ⟨false,
 (.seq p_measure_count_0
 (.seq p_measure_count_1
 (.seq (.seq p_measure_count_2
 (.block 0
 (.loop p_measure_count_8)))
 (.seq p_measure_count_9
 .ret)))),
 [.s 4]⟩
theorem c_measure_count : compF Go.Proofs.Try.prog false h_measure_count Go.Proofs.Try.f78 = some p_measure_count := by kernel_rfl
def h_seek_beforeC1 : List Hint := [H [1,2,3],⟨[],[],[(3,.pure)],[],[],[]⟩]
def p_seek_beforeC1_0 : PC :=
 (.reg [1,2,3] [I 3 (.box (.s 0))])
def p_seek_beforeC1_1 : PC :=
 (.reg [] [I 4 (.ld false 1 (.s 1)),I 5 (.ld false 1 (.s 2)),I 6 (.ld true 3 (.s 3)),I 7 (.call .pure (.s 5) [(.s 6)]),I 8 (.bin .add (.s 4) (.s 7)),J (.st 1 (.s 1) (.s 8))])
def p_seek_beforeC1 : PF := ⟨false,
 (.seq p_seek_beforeC1_0
 p_seek_beforeC1_1),
 []⟩
theorem c_seek_beforeC1 : compF Go.Proofs.Try.prog false h_seek_beforeC1 Go.Proofs.Try.f79 = some p_seek_beforeC1 := by kernel_rfl
def h_measure_before : List Hint := [H [0,1,2],H [0,1,2,15],H [6,7],H [6,7]]
def p_measure_before_0 : PC :=
 (.reg [0,1,2] [I 6 (.mv (V 0)),I 7 (.mv (V 0))])
def p_measure_before_1 : PC :=
 (.reg [0,1,2,15] [I 8 (.mv (.s 1)),I 9 (.bin .lss (.s 8) (V 0)),I 10 (.mv (.s 9)),G 11 10 false (.mv (.s 1)),G 12 10 false (.mv (.s 0)),G 13 10 false (.len 0 (.s 12)),G 14 10 false (.bin .gtr (.s 11) (.s 13)),I 15 (.pick (.s 10) (.v (.bool true)) (.s 14))])
def p_measure_before_2 : PC :=
 (.reg [6,7] [I 6 (.mv (V 0)),I 7 (.mv (V 3))])
def p_measure_before_3 : PC :=
 (.reg [6,7] [I 16 (.mv (.s 0)),I 17 (.mv (.s 1)),I 18 (.slcS (.s 16) none (some (.s 17))),I 19 (.mv (.s 2)),I 20 (C F_measure_count [(.s 18),(.s 19)]),I 6 (.mv (.s 20)),I 7 (.mv (V 0))])
def p_measure_before : PF := ⟨false,
 (.seq p_measure_before_0
 (.seq (.seq p_measure_before_1
 (.ite (.s 15)
 (.seq p_measure_before_2
 .ret)
 .skip))
 (.seq p_measure_before_3
 .ret))),
 [.s 6,.s 7]⟩
theorem c_measure_before : compF Go.Proofs.Try.prog false h_measure_before Go.Proofs.Try.f80 = some p_measure_before := by kernel_rfl
def h_node_LineC1 : List Hint := [H [1],H [2]]
def p_node_LineC1_0 : PC :=
 (.reg [1] [I 1 (.box (.s 0)),I 2 (.mv (V 0))])
def p_node_LineC1_1 : PC :=
 (.reg [2] [I 3 (.fadr 0 (.s 1)),I 4 (.ld false 1 (.s 3)),I 2 (.mv (.s 4))])
def p_node_LineC1 : PF := ⟨false,
 (.seq p_node_LineC1_0
 (.seq p_node_LineC1_1
 .ret)),
 [.s 2]⟩
theorem c_node_LineC1 : compF Go.Proofs.Try.prog false h_node_LineC1 Go.Proofs.Try.f81 = some p_node_LineC1 := by kernel_rfl
def h_node_LineC2 : List Hint := [H [1],H [2]]
def p_node_LineC2_0 : PC :=
 (.reg [1] [I 1 (.box (.s 0)),I 2 (.mv (V 0))])
def p_node_LineC2_1 : PC :=
 (.reg [2] [I 3 (.fadr 2 (.s 1)),I 4 (.ld false 1 (.s 3)),I 2 (.mv (.s 4))])
def p_node_LineC2 : PF := ⟨false,
 (.seq p_node_LineC2_0
 (.seq p_node_LineC2_1
 .ret)),
 [.s 2]⟩
theorem c_node_LineC2 : compF Go.Proofs.Try.prog false h_node_LineC2 Go.Proofs.Try.f82 = some p_node_LineC2 := by kernel_rfl
def h_measure_feeds : List Hint := [H [0],H [2]]
def p_measure_feeds_0 : PC :=
 (.reg [0] [I 2 (.mv (.v (.bool false)))])
def p_measure_feeds_1 : PC :=
 (.reg [2] [I 3 (.mv (.s 0)),I 4 (.bin .eql (.s 3) (.v (.int .u8 10))),I 2 (.mv (.s 4))])
def p_measure_feeds : PF := ⟨false,
 (.seq p_measure_feeds_0
 (.seq p_measure_feeds_1
 .ret)),
 [.s 2]⟩
theorem c_measure_feeds : compF Go.Proofs.Try.prog false h_measure_feeds Go.Proofs.Try.f83 = some p_measure_feeds := by kernel_rfl
def h_plan_kind : List Hint := [H [1],H [1,3],H [1,3,13],H [2],H [1,3,31],H [2],H [1,3,46],H [2],H [65],H [2],H [2]]
def p_plan_kind_0 : PC :=
 (.reg [1] [I 1 (.box (.s 0)),I 2 (.mv (V 0))])
def p_plan_kind_1 : PC :=
 (.reg [1,3] [I 4 (.fadr 2 (.s 1)),I 5 (.ld true 3 (.s 4)),I 6 (.build [(.int .i64 0),(.int .i64 0),(.int .i64 0)] []),I 7 (.eqs false 0 [(0,0),(1,0),(2,0)] (.s 5) (.s 6)),I 8 (.mv (.s 7)),G 9 8 true (.fadr 0 (.s 1)),G 10 8 true (.ld false 1 (.s 9)),G 11 8 true (.bin .eql (.s 10) (.v (.int .u64 0))),I 12 (.pick (.s 8) (.s 11) (.v (.bool false))),I 3 (.mv (.s 12))])
def p_plan_kind_2 : PC :=
 (.reg [1,3,13] [I 14 (.mv (.s 3)),I 15 (.mv (.s 14)),G 16 15 true (.fadr 1 (.s 1)),G 17 15 true (.ld false 1 (.s 16)),G 18 15 true (.bin .eql (.s 17) (V 0)),I 19 (.pick (.s 15) (.s 18) (.v (.bool false))),I 20 (.mv (.s 19)),G 21 20 true (.fadr 5 (.s 1)),G 22 20 true (.ld false 1 (.s 21)),G 23 20 true (.bin .eql (.s 22) (.v (.str []))),I 24 (.pick (.s 20) (.s 23) (.v (.bool false))),I 25 (.mv (.s 24)),G 26 25 true (.fadr 6 (.s 1)),G 27 25 true (.ld false 1 (.s 26)),G 28 25 true (.len 1 (.s 27)),G 29 25 true (.bin .eql (.s 28) (V 0)),I 30 (.pick (.s 25) (.s 29) (.v (.bool false))),I 13 (.mv (.s 30))])
def p_plan_kind_3 : PC :=
 (.reg [2] [I 2 (.mv (V 1))])
def p_plan_kind_4 : PC :=
 (.reg [1,3,31] [I 32 (.fadr 0 (.s 1)),I 33 (.ld false 1 (.s 32)),I 34 (.bin .neq (.s 33) (.v (.int .u64 0))),I 35 (.mv (.s 34)),G 36 35 true (.fadr 5 (.s 1)),G 37 35 true (.ld false 1 (.s 36)),G 38 35 true (.bin .eql (.s 37) (.v (.str []))),I 39 (.pick (.s 35) (.s 38) (.v (.bool false))),I 40 (.mv (.s 39)),G 41 40 true (.fadr 6 (.s 1)),G 42 40 true (.ld false 1 (.s 41)),G 43 40 true (.len 1 (.s 42)),G 44 40 true (.bin .eql (.s 43) (V 0)),I 45 (.pick (.s 40) (.s 44) (.v (.bool false))),I 31 (.mv (.s 45))])
def p_plan_kind_5 : PC :=
 (.reg [2] [I 2 (.mv (V 2))])
def p_plan_kind_6 : PC :=
 (.reg [1,3,46] [I 47 (.mv (.s 3)),I 48 (.mv (.s 47)),G 49 48 true (.fadr 1 (.s 1)),G 50 48 true (.ld false 1 (.s 49)),G 51 48 true (.bin .eql (.s 50) (V 0)),I 52 (.pick (.s 48) (.s 51) (.v (.bool false))),I 53 (.mv (.s 52)),G 54 53 true (.fadr 6 (.s 1)),G 55 53 true (.ld false 1 (.s 54)),G 56 53 true (.len 1 (.s 55)),G 57 53 true (.bin .eql (.s 56) (V 0)),I 58 (.pick (.s 53) (.s 57) (.v (.bool false))),I 59 (.mv (.s 58)),G 60 59 true (.fadr 5 (.s 1)),G 61 59 true (.ld false 1 (.s 60)),G 62 59 true (.len 0 (.s 61)),G 63 59 true (.bin .leq (.s 62) (V 16)),I 64 (.pick (.s 59) (.s 63) (.v (.bool false))),I 46 (.mv (.s 64))])
def p_plan_kind_7 : PC :=
 (.reg [2] [I 2 (.mv (V 3))])
def p_plan_kind_8 : PC :=
 (.reg [65] [I 66 (.mv (.s 3)),I 67 (.mv (.s 66)),G 68 67 true (.fadr 5 (.s 1)),G 69 67 true (.ld false 1 (.s 68)),G 70 67 true (.bin .eql (.s 69) (.v (.str []))),I 71 (.pick (.s 67) (.s 70) (.v (.bool false))),I 72 (.mv (.s 71)),G 73 72 true (.fadr 1 (.s 1)),G 74 72 true (.ld false 1 (.s 73)),G 75 72 true (.bin .geq (.s 74) (V 1)),I 76 (.pick (.s 72) (.s 75) (.v (.bool false))),I 77 (.mv (.s 76)),G 78 77 true (.fadr 1 (.s 1)),G 79 77 true (.ld false 1 (.s 78)),G 80 77 true (.bin .leq (.s 79) (V 16)),I 81 (.pick (.s 77) (.s 80) (.v (.bool false))),I 82 (.mv (.s 81)),G 83 82 true (.fadr 6 (.s 1)),G 84 82 true (.ld false 1 (.s 83)),G 85 82 true (.len 1 (.s 84)),G 86 82 true (.bin .geq (.s 85) (V 2)),I 87 (.pick (.s 82) (.s 86) (.v (.bool false))),I 88 (.mv (.s 87)),G 89 88 true (.fadr 6 (.s 1)),G 90 88 true (.ld false 1 (.s 89)),G 91 88 true (.len 1 (.s 90)),G 92 88 true (.bin .leq (.s 91) (V 4)),I 93 (.pick (.s 88) (.s 92) (.v (.bool false))),I 65 (.mv (.s 93))])
def p_plan_kind_9 : PC :=
 (.reg [2] [I 2 (.mv (V 4))])
def p_plan_kind_10 : PC :=
 (.reg [2] [I 2 (.mv (V 0))])
def p_plan_kind : PF := ⟨false,
 (.seq p_plan_kind_0
 (.seq p_plan_kind_1
 (.seq (.block 0
 (.seq p_plan_kind_2
 (.ite (.s 13)
 (.seq p_plan_kind_3
 .ret)
 (.seq p_plan_kind_4
 (.ite (.s 31)
 (.seq p_plan_kind_5
 .ret)
 (.seq p_plan_kind_6
 (.ite (.s 46)
 (.seq p_plan_kind_7
 .ret)
 (.seq p_plan_kind_8
 (.ite (.s 65)
 (.seq p_plan_kind_9
 .ret)
 .skip)))))))))
 (.seq p_plan_kind_10
 .ret)))),
 [.s 2]⟩
theorem c_plan_kind : compF Go.Proofs.Try.prog false h_plan_kind Go.Proofs.Try.f86 = some p_plan_kind := by kernel_rfl
def h_plan_check : List Hint := [H [0,2,3,5],H [0,2,3,5,9],H [0,2,5,9,30],H [8],H [0,2,5,32],H [0,2,5,10],H [0,2,5,10,42],H [8],H [0,5,54],H [8],H [0,5,56,57,58],H [0,5,56,57,58,59],H [0,5,12,56,57,58],H [0,5,13,56,57,58],H [0,5,13,56,57,58,69],H [8],H [0,5,56,57,58],H [8]]
def p_plan_check_0 : PC :=
 (.reg [0,2,3,5] [I 5 (.box (.s 1)),I 8 (.mv (V 0))])
def p_plan_check_1 : PC :=
 (.reg [0,2,3,5,9] [I 14 (.ld true 7 (.s 5)),I 15 (C F_plan_kind [(.s 14)]),I 9 (.mv (.s 15))])
def p_plan_check_2 : PC :=
 (.reg [0,2,5,9,30] [I 16 (.mv (.s 9)),I 17 (.bin .eql (.s 16) (V 0)),I 18 (.mv (.s 17)),G 19 18 false (.mv (.s 9)),G 20 18 false (.bin .eql (.s 19) (V 1)),I 21 (.pick (.s 18) (.v (.bool true)) (.s 20)),I 22 (.mv (.s 21)),G 23 22 false (.mv (.s 2)),G 24 22 false (.mv (.s 23)),G 25 24 true (.fadr 1 (.s 5)),G 26 24 true (.ld false 1 (.s 25)),G 27 24 true (.mv (.s 3)),G 28 24 true (.bin .neq (.s 26) (.s 27)),G 29 22 false (.pick (.s 24) (.s 28) (.v (.bool false))),I 30 (.pick (.s 22) (.v (.bool true)) (.s 29))])
def p_plan_check_3 : PC :=
 (.reg [8] [I 8 (.mv (V 23))])
def p_plan_check_4 : PC :=
 (.reg [0,2,5,32] [I 31 (.mv (.s 9)),I 32 (.bin .eql (.s 31) (V 2))])
def p_plan_check_5 : PC :=
 (.reg [0,2,5,10] [I 33 (.mv (.s 0)),I 34 (.fadr 0 (.s 5)),I 35 (.ld false 1 (.s 34)),I 36 (.fadr 1 (.s 5)),I 37 (.ld false 1 (.s 36)),I 38 (.fadr 2 (.s 5)),I 39 (.ld true 3 (.s 38)),I 40 (C F_plan_same [(.s 33),(.s 35),(.s 37),(.s 39)]),I 10 (.mv (.s 40))])
def p_plan_check_6 : PC :=
 (.reg [0,2,5,10,42] [I 41 (.mv (.s 10)),I 42 (.bin .neq (.s 41) (V 0))])
def p_plan_check_7 : PC :=
 (.reg [8] [I 43 (.mv (.s 10)),I 8 (.mv (.s 43))])
def p_plan_check_8 : PC :=
 (.reg [0,5,54] [I 44 (.mv (.s 2)),I 45 (.mv (.s 44)),G 46 45 true (.fadr 1 (.s 5)),G 47 45 true (.ld false 1 (.s 46)),G 48 45 true (.bin .eql (.s 47) (V 0)),I 49 (.pick (.s 45) (.s 48) (.v (.bool false))),I 50 (.mv (.s 49)),G 51 50 true (.ld true 7 (.s 5)),G 52 50 true (C F_plan_bytes [(.s 51)]),G 53 50 true (.bin .lss (.s 52) (V 8)),I 54 (.pick (.s 50) (.s 53) (.v (.bool false)))])
def p_plan_check_9 : PC :=
 (.reg [8] [I 8 (.mv (V 23))])
def p_plan_check_10 : PC :=
 (.reg [0,5,56,57,58] [I 55 (.fadr 6 (.s 5)),I 56 (.ld false 1 (.s 55)),I 57 (.len 1 (.s 56)),I 58 (.mv (V 0))])
def p_plan_check_11 : PC :=
 (.reg [0,5,56,57,58,59] [I 59 (.bin .lss (.s 58) (.s 57))])
def p_plan_check_12 : PC :=
 (.reg [0,5,12,56,57,58] [I 60 (.ixS 7 (.s 56) (.s 58)),I 61 (.ld true 7 (.s 60)),I 12 (.box (.v ZT)),J (.st 7 (.s 12) (.s 61))])
def p_plan_check_13 : PC :=
 (.reg [0,5,13,56,57,58] [I 62 (.mv (.s 0)),I 63 (.ld true 7 (.s 12)),I 64 (.fadr 1 (.s 5)),I 65 (.ld false 1 (.s 64)),I 66 (.bin .sub (.s 65) (V 1)),I 67 (C F_plan_check [(.s 62),(.s 63),(.v (.bool true)),(.s 66)]),I 13 (.mv (.s 67))])
def p_plan_check_14 : PC :=
 (.reg [0,5,13,56,57,58,69] [I 68 (.mv (.s 13)),I 69 (.bin .neq (.s 68) (V 0))])
def p_plan_check_15 : PC :=
 (.reg [8] [I 70 (.mv (.s 13)),I 8 (.mv (.s 70))])
def p_plan_check_16 : PC :=
 (.reg [0,5,56,57,58] [I 71 (.bin .add (.s 58) (V 1)),I 58 (.mv (.s 71))])
def p_plan_check_17 : PC :=
 (.seq p_plan_check_11
 (.seq (.ite (.s 59)
 .skip
 (.exit 0))
 (.seq (.block 1
 (.seq p_plan_check_12
 (.seq p_plan_check_13
 (.seq p_plan_check_14
 (.ite (.s 69)
 (.seq p_plan_check_15
 .ret)
 .skip)))))
 p_plan_check_16)))
def p_plan_check_18 : PC :=
 (.reg [8] [I 8 (.mv (V 0))])
def p_plan_check : PF := ⟨false,
 (.seq p_plan_check_0
 (.seq p_plan_check_1
 (.seq (.seq p_plan_check_2
 (.ite (.s 30)
 (.seq p_plan_check_3
 .ret)
 .skip))
 (.seq (.seq p_plan_check_4
 (.ite (.s 32)
 (.seq p_plan_check_5
 (.seq p_plan_check_6
 (.ite (.s 42)
 (.seq p_plan_check_7
 .ret)
 .skip)))
 .skip))
 (.seq (.seq p_plan_check_8
 (.ite (.s 54)
 (.seq p_plan_check_9
 .ret)
 .skip))
 (.seq (.seq p_plan_check_10
 (.block 0
 (.loop p_plan_check_17)))
 (.seq p_plan_check_18
 .ret))))))),
 [.s 8]⟩
theorem c_plan_check : compF Go.Proofs.Try.prog false h_plan_check Go.Proofs.Try.f87 = some p_plan_check := by kernel_rfl
def h_chunk_sizes : List Hint := [H [1,2],H [1,2,10],H [4],H [1,2,5],H [2,5,17],H [2,5],H [5,6],H [5,6,7],H [6,7,23,24],H [6,7,23,24,25],H [6,7,8,23,24],H [6,7,23,24],H [6,7,23,24],H [4]]
def p_chunk_sizes_0 : PC :=
 (.reg [1,2] [I 2 (.box (.s 0)),I 4 (.mv (.v .nils))])
def p_chunk_sizes_1 : PC :=
 (.reg [1,2,10] [I 9 (.ld false 1 (.s 2)),I 10 (.bin .eql (.s 9) (V 0))])
def p_chunk_sizes_2 : PC :=
 (.reg [4] [I 4 (.mv (.v .nils))])
def p_chunk_sizes_3 : PC :=
 (.reg [1,2,5] [I 11 (.ld false 1 (.s 2)),I 12 (.mv (.s 1)),I 13 (.bin .quo (.s 11) (.s 12)),I 5 (.box (V 0)),J (.st 1 (.s 5) (.s 13))])
def p_chunk_sizes_4 : PC :=
 (.reg [2,5,17] [I 14 (.ld false 1 (.s 2)),I 15 (.mv (.s 1)),I 16 (.bin .rem (.s 14) (.s 15)),I 17 (.bin .gtr (.s 16) (V 0))])
def p_chunk_sizes_5 : PC :=
 (.reg [2,5] [I 18 (.ld false 1 (.s 5)),I 19 (.bin .add (.s 18) (V 1)),J (.st 1 (.s 5) (.s 19))])
def p_chunk_sizes_6 : PC :=
 (.reg [5,6] [I 20 (.mkf (.func F_chunk_sizesC1) [] [(.s 2),(.s 5)]),I 6 (.mv (.s 20))])
def p_chunk_sizes_7 : PC :=
 (.reg [5,6,7] [I 21 (.ld false 1 (.s 5)),I 22 (.mkslice 1 8 (.int .i64 0) (.s 21) (.s 21)),I 7 (.mv (.s 22))])
def p_chunk_sizes_8 : PC :=
 (.reg [6,7,23,24] [I 23 (.ld false 1 (.s 5)),I 24 (.mv (V 0))])
def p_chunk_sizes_9 : PC :=
 (.reg [6,7,23,24,25] [I 25 (.bin .lss (.s 24) (.s 23))])
def p_chunk_sizes_10 : PC :=
 (.reg [6,7,8,23,24] [I 26 (.mv (.s 24)),I 8 (.mv (.s 26))])
def p_chunk_sizes_11 : PC :=
 (.reg [6,7,23,24] [I 27 (.mv (.s 7)),I 28 (.mv (.s 8)),I 29 (.mv (.s 6)),I 30 (.mv (.s 8)),I 31 (.call .norm (.s 29) [(.s 30)]),I 32 (.ixS 1 (.s 27) (.s 28)),J (.st 1 (.s 32) (.s 31))])
def p_chunk_sizes_12 : PC :=
 (.reg [6,7,23,24] [I 33 (.bin .add (.s 24) (V 1)),I 24 (.mv (.s 33))])
def p_chunk_sizes_13 : PC :=
 (.seq p_chunk_sizes_9
 (.seq (.ite (.s 25)
 .skip
 (.exit 0))
 (.seq (.block 1
 (.seq p_chunk_sizes_10
 p_chunk_sizes_11))
 p_chunk_sizes_12)))
def p_chunk_sizes_14 : PC :=
 (.reg [4] [I 34 (.mv (.s 7)),I 4 (.mv (.s 34))])
def p_chunk_sizes : PF := ⟨false,
 (.seq p_chunk_sizes_0
 (.seq (.seq p_chunk_sizes_1
 (.ite (.s 10)
 (.seq p_chunk_sizes_2
 .ret)
 .skip))
 (.seq p_chunk_sizes_3
 (.seq (.seq p_chunk_sizes_4
 (.ite (.s 17)
 p_chunk_sizes_5
 .skip))
 (.seq p_chunk_sizes_6
 (.seq p_chunk_sizes_7
 (.seq (.seq p_chunk_sizes_8
 (.block 0
 (.loop p_chunk_sizes_13)))
 (.seq p_chunk_sizes_14
 .ret)))))))),
 [.s 4]⟩
theorem c_chunk_sizes : compF Go.Proofs.Try.prog false h_chunk_sizes Go.Proofs.Try.f93 = some p_chunk_sizes := by kernel_rfl
def h_freelist_List_Free : List Hint := [H [0],H [0,7],H [2],H [0,3],H [3],H [3,4,5],H [3,4,5,25],H [3,4,5],H [3,4,5],H [2]]
def p_freelist_List_Free_0 : PC :=
 (.reg [0] [I 2 (.mv (.v .nils))])
def p_freelist_List_Free_1 : PC :=
 (.reg [0,7] [I 6 (.mv (.s 0)),I 7 (.eqs false 3 [] (.s 6) (.v .nilptr))])
def p_freelist_List_Free_2 : PC :=
 (.reg [2] [I 2 (.mv (.v .nils))])
def p_freelist_List_Free_3 : PC :=
 (.reg [0,3] [I 8 (.mv (.s 0)),I 9 (.nilck (.s 8)),I 10 (.fadr 0 (.s 9)),I 11 (.ld false 1 (.s 10)),I 12 (.len 1 (.s 11)),I 13 (.mkslice 1 8 (.int .i64 0) (.s 12) (.s 12)),I 3 (.mv (.s 13))])
def p_freelist_List_Free_4 : PC :=
 (.reg [3] [I 14 (.mv (.s 3)),I 15 (.mv (.s 0)),I 16 (.nilck (.s 15)),I 17 (.fadr 0 (.s 16)),I 18 (.ld false 1 (.s 17)),I 19 (.cpy 1 (.s 14) (.s 18))])
def p_freelist_List_Free_5 : PC :=
 (.reg [3,4,5] [I 20 (.mv (.s 3)),I 21 (.len 1 (.s 20)),I 22 (.bin .sub (.s 21) (V 1)),I 4 (.mv (V 0)),I 5 (.mv (.s 22))])
def p_freelist_List_Free_6 : PC :=
 (.reg [3,4,5,25] [I 23 (.mv (.s 4)),I 24 (.mv (.s 5)),I 25 (.bin .lss (.s 23) (.s 24))])
def p_freelist_List_Free_7 : PC :=
 (.reg [3,4,5] [I 30 (.mv (.s 3)),I 31 (.mv (.s 4)),I 32 (.mv (.s 3)),I 33 (.mv (.s 5)),I 34 (.mv (.s 3)),I 35 (.mv (.s 5)),I 36 (.ixS 1 (.s 34) (.s 35)),I 37 (.ld false 1 (.s 36)),I 38 (.mv (.s 3)),I 39 (.mv (.s 4)),I 40 (.ixS 1 (.s 38) (.s 39)),I 41 (.ld false 1 (.s 40)),I 42 (.ixS 1 (.s 30) (.s 31)),J (.st 1 (.s 42) (.s 37)),I 43 (.ixS 1 (.s 32) (.s 33)),J (.st 1 (.s 43) (.s 41))])
def p_freelist_List_Free_8 : PC :=
 (.reg [3,4,5] [I 26 (.mv (.s 4)),I 27 (.bin .add (.s 26) (V 1)),I 28 (.mv (.s 5)),I 29 (.bin .sub (.s 28) (V 1)),I 4 (.mv (.s 27)),I 5 (.mv (.s 29))])
def p_freelist_List_Free_9 : PC :=
 (.seq (.seq p_freelist_List_Free_6
 (.ite (.s 25)
 .skip
 (.exit 0)))
 (.seq (.block 1
 p_freelist_List_Free_7)
 p_freelist_List_Free_8))
def p_freelist_List_Free_10 : PC :=
 (.reg [2] [I 44 (.mv (.s 3)),I 2 (.mv (.s 44))])
def p_freelist_List_Free : PF := ⟨false,
 (.seq p_freelist_List_Free_0
 (.seq (.seq p_freelist_List_Free_1
 (.ite (.s 7)
 (.seq p_freelist_List_Free_2
 .ret)
 .skip))
 (.seq p_freelist_List_Free_3
 (.seq p_freelist_List_Free_4
 (.seq (.seq p_freelist_List_Free_5
 (.block 0
 (.loop p_freelist_List_Free_9)))
 (.seq p_freelist_List_Free_10
 .ret)))))),
 [.s 2]⟩
theorem c_freelist_List_Free : compF Go.Proofs.Try.prog false h_freelist_List_Free Go.Proofs.Try.f94 = some p_freelist_List_Free := by kernel_rfl
def h_freelist_List_Withdrawn : List Hint := [H [0],H [2]]
def p_freelist_List_Withdrawn_0 : PC :=
 (.reg [0] [I 2 (.mv (.v .nils))])
def p_freelist_List_Withdrawn_1 : PC :=
 (.reg [2] [I 3 (.mv (.s 0)),I 4 (C F_freelist_List_slots [(.s 3),(.v (.int .u8 2))]),I 2 (.mv (.s 4))])
def p_freelist_List_Withdrawn : PF := ⟨false,
 (.seq p_freelist_List_Withdrawn_0
 (.seq p_freelist_List_Withdrawn_1
 .ret)),
 [.s 2]⟩
theorem c_freelist_List_Withdrawn : compF Go.Proofs.Try.prog false h_freelist_List_Withdrawn Go.Proofs.Try.f95 = some p_freelist_List_Withdrawn := by kernel_rfl
def h_rope_Pen_put : List Hint := [H [3,4,5],⟨[],[6],[],[],[(0,(.only (.s 3))),(7,(.grow (.s 3)))],[]⟩]
def p_rope_Pen_put_0 : PC :=
 (.reg [3,4,5] [I 3 (.box (.s 0)),I 4 (.box (.s 1)),I 5 (.box (.s 2))])
def p_rope_Pen_put_1 : PC :=
 (.reg [] [I 6 (.w (.only (.s 3)) (.ld false 1 (.s 3))),I 7 (.ld false 1 (.s 3)),I 8 (.nilck (.s 7)),I 9 (.fadr 1 (.s 8)),I 10 (.ld false 1 (.s 9)),I 11 (.mkf (.func F_rope_Pen_putC1) [] [(.s 3),(.s 5),(.s 4)]),I 12 (.bslice true 1 [.nilfunc] [(0,(.s 11))]),I 13 (.w (.grow (.s 3)) (.app 1 8 (.s 10) (.s 12))),I 14 (.nilck (.s 6)),I 15 (.fadr 1 (.s 14)),J (.st 1 (.s 15) (.s 13))])
def p_rope_Pen_put : PF := ⟨true,
 (.seq p_rope_Pen_put_0
 p_rope_Pen_put_1),
 []⟩
theorem c_rope_Pen_put : compF Go.Proofs.Try.prog true h_rope_Pen_put Go.Proofs.Try.f96 = some p_rope_Pen_put := by kernel_rfl
def h_rope_Pen_addC1 : List Hint := [H [0,1],H [1]]
def p_rope_Pen_addC1_0 : PC :=
 (.reg [0,1] [I 1 (.box (.v ZN))])
def p_rope_Pen_addC1_1 : PC :=
 (.reg [1] [I 2 (.ld true 3 (.s 0)),J (.st 3 (.s 1) (.s 2))])
def p_rope_Pen_addC1 : PF := ⟨false,
 (.seq p_rope_Pen_addC1_0
 (.seq p_rope_Pen_addC1_1
 .ret)),
 [.c 1 true 3]⟩
theorem c_rope_Pen_addC1 : compF Go.Proofs.Try.prog false h_rope_Pen_addC1 Go.Proofs.Try.f97 = some p_rope_Pen_addC1 := by kernel_rfl
def h_rope_Pen_addC2 : List Hint := [H [0,1,2],H [1,2,3],H [2,3,9,10,11],H [2,3,9,10,11,12],H [2,3,5,9,10,11],⟨[2,3,9,10,11],[],[],[],[(11,.imm)],[]⟩,H [2,3,9,10,11],H [2]]
def p_rope_Pen_addC2_0 : PC :=
 (.reg [0,1,2] [I 2 (.box (.v ZN))])
def p_rope_Pen_addC2_1 : PC :=
 (.reg [1,2,3] [I 6 (.fadr 1 (.s 0)),I 7 (.ld false 1 (.s 6)),I 8 (.build [(.int .i64 0),(.str []),.nils] [(0,1,(.s 7))]),I 3 (.box (.v ZN)),J (.st 3 (.s 3) (.s 8))])
def p_rope_Pen_addC2_2 : PC :=
 (.reg [2,3,9,10,11] [I 9 (.ld false 1 (.s 1)),I 10 (.len 1 (.s 9)),I 11 (.mv (V 0))])
def p_rope_Pen_addC2_3 : PC :=
 (.reg [2,3,9,10,11,12] [I 12 (.bin .lss (.s 11) (.s 10))])
def p_rope_Pen_addC2_4 : PC :=
 (.reg [2,3,5,9,10,11] [I 13 (.ixS 1 (.s 9) (.s 11)),I 14 (.ld false 1 (.s 13)),I 5 (.mv (.s 14))])
def p_rope_Pen_addC2_5 : PC :=
 (.reg [2,3,9,10,11] [I 15 (.fadr 2 (.s 3)),I 16 (.ld false 1 (.s 15)),I 17 (.mv (.s 5)),I 18 (.nilck (.s 17)),I 19 (.fadr 0 (.s 18)),I 20 (.ld false 1 (.s 19)),I 21 (.mv (.s 5)),I 22 (.nilck (.s 21)),I 23 (.fadr 2 (.s 22)),I 24 (.ld true 3 (.s 23)),I 25 (.build [(.int .u64 0),(.int .i64 0),(.int .i64 0),(.int .i64 0)] [(0,1,(.s 20)),(1,3,(.s 24))]),I 26 (.w .imm (.bslice false 4 [ZK] [(0,(.s 25))])),I 27 (.app 4 32 (.s 16) (.s 26)),I 28 (.fadr 2 (.s 3)),J (.st 1 (.s 28) (.s 27))])
def p_rope_Pen_addC2_6 : PC :=
 (.reg [2,3,9,10,11] [I 29 (.bin .add (.s 11) (V 1)),I 11 (.mv (.s 29))])
def p_rope_Pen_addC2_7 : PC :=
 (.seq p_rope_Pen_addC2_3
 (.seq (.ite (.s 12)
 .skip
 (.exit 0))
 (.seq (.block 1
 (.seq p_rope_Pen_addC2_4
 p_rope_Pen_addC2_5))
 p_rope_Pen_addC2_6)))
def p_rope_Pen_addC2_8 : PC :=
 (.reg [2] [I 30 (.ld true 3 (.s 3)),J (.st 3 (.s 2) (.s 30))])
def p_rope_Pen_addC2 : PF := ⟨false,
 (.seq p_rope_Pen_addC2_0
 (.seq p_rope_Pen_addC2_1
 (.seq (.seq p_rope_Pen_addC2_2
 (.block 0
 (.loop p_rope_Pen_addC2_7)))
 (.seq p_rope_Pen_addC2_8
 .ret)))),
 [.c 2 true 3]⟩
theorem c_rope_Pen_addC2 : compF Go.Proofs.Try.prog false h_rope_Pen_addC2 Go.Proofs.Try.f98 = some p_rope_Pen_addC2 := by kernel_rfl
def h_node_Check : List Hint := [H [1],H [1,5],H [2],H [9],H [2],H [2]]
def p_node_Check_0 : PC :=
 (.reg [1] [I 1 (.box (.s 0)),I 2 (.mv (V 0))])
def p_node_Check_1 : PC :=
 (.reg [1,5] [I 3 (.ld true 3 (.s 1)),I 4 (C F_node_formed [(.s 3)]),I 5 (.un .not (.s 4))])
def p_node_Check_2 : PC :=
 (.reg [2] [I 2 (.mv (V 23))])
def p_node_Check_3 : PC :=
 (.reg [9] [I 6 (.ld true 3 (.s 1)),I 7 (C F_node_sum [(.s 6)]),I 8 (.fld false 0 1 (.s 7)),I 9 (.bin .gtr (.s 8) (V 65536))])
def p_node_Check_4 : PC :=
 (.reg [2] [I 2 (.mv (V 5))])
def p_node_Check_5 : PC :=
 (.reg [2] [I 2 (.mv (V 0))])
def p_node_Check : PF := ⟨false,
 (.seq p_node_Check_0
 (.seq (.seq p_node_Check_1
 (.ite (.s 5)
 (.seq p_node_Check_2
 .ret)
 .skip))
 (.seq (.seq p_node_Check_3
 (.ite (.s 9)
 (.seq p_node_Check_4
 .ret)
 .skip))
 (.seq p_node_Check_5
 .ret)))),
 [.s 2]⟩
theorem c_node_Check : compF Go.Proofs.Try.prog false h_node_Check Go.Proofs.Try.f105 = some p_node_Check := by kernel_rfl
def h_node_sum : List Hint := [H [1,2],H [1,2,8],H [2],⟨[1,2,3],[0],[],[],[],[]⟩,H [2,3,13,14,15],H [2,3,13,14,15,16],H [2,3,5,13,14,15],H [2,3,13,14,15],H [2,3,13,14,15],H [2]]
def p_node_sum_0 : PC :=
 (.reg [1,2] [I 1 (.box (.s 0)),I 2 (.box (.v ZM))])
def p_node_sum_1 : PC :=
 (.reg [1,2,8] [I 6 (.fadr 0 (.s 1)),I 7 (.ld false 1 (.s 6)),I 8 (.bin .eql (.s 7) (V 0))])
def p_node_sum_2 : PC :=
 (.reg [2] [I 9 (.fadr 1 (.s 1)),I 10 (.ld false 1 (.s 9)),I 11 (C F_measure_Of [(.s 10)]),J (.st 3 (.s 2) (.s 11))])
def p_node_sum_3 : PC :=
 (.reg [1,2,3] [I 3 (.onil 3)])
def p_node_sum_4 : PC :=
 (.reg [2,3,13,14,15] [I 12 (.fadr 2 (.s 1)),I 13 (.ld false 1 (.s 12)),I 14 (.len 1 (.s 13)),I 15 (.mv (V 0))])
def p_node_sum_5 : PC :=
 (.reg [2,3,13,14,15,16] [I 16 (.bin .lss (.s 15) (.s 14))])
def p_node_sum_6 : PC :=
 (.reg [2,3,5,13,14,15] [I 17 (.ixS 4 (.s 13) (.s 15)),I 18 (.ld true 4 (.s 17)),I 5 (.box (.v ZK)),J (.st 4 (.s 5) (.s 18))])
def p_node_sum_7 : PC :=
 (.reg [2,3,13,14,15] [I 19 (.mv (.s 3)),I 20 (.fadr 1 (.s 5)),I 21 (.ld true 3 (.s 20)),I 22 (.bslice false 3 [ZM] [(0,(.s 21))]),I 23 (.app 3 24 (.s 19) (.s 22)),I 3 (.mv (.s 23))])
def p_node_sum_8 : PC :=
 (.reg [2,3,13,14,15] [I 24 (.bin .add (.s 15) (V 1)),I 15 (.mv (.s 24))])
def p_node_sum_9 : PC :=
 (.seq p_node_sum_5
 (.seq (.ite (.s 16)
 .skip
 (.exit 0))
 (.seq (.block 1
 (.seq p_node_sum_6
 p_node_sum_7))
 p_node_sum_8)))
def p_node_sum_10 : PC :=
 (.reg [2] [I 25 (.mv (.s 3)),I 26 (C F_measure_Add [(.s 25)]),J (.st 3 (.s 2) (.s 26))])
def p_node_sum : PF := ⟨false,
 (.seq p_node_sum_0
 (.seq (.seq p_node_sum_1
 (.ite (.s 8)
 (.seq p_node_sum_2
 .ret)
 .skip))
 (.seq p_node_sum_3
 (.seq (.seq p_node_sum_4
 (.block 0
 (.loop p_node_sum_9)))
 (.seq p_node_sum_10
 .ret))))),
 [.c 2 true 3]⟩
theorem c_node_sum : compF Go.Proofs.Try.prog false h_node_sum Go.Proofs.Try.f106 = some p_node_sum := by kernel_rfl
def h_chunk_sizesC1 : List Hint := [H [0,1,2],H [1,2,9],H [4],H [4]]
def p_chunk_sizesC1_0 : PC :=
 (.reg [0,1,2] [I 4 (.mv (V 0))])
def p_chunk_sizesC1_1 : PC :=
 (.reg [1,2,9] [I 5 (.mv (.s 0)),I 6 (.ld false 1 (.s 1)),I 7 (.ld false 1 (.s 2)),I 8 (.bin .rem (.s 6) (.s 7)),I 9 (.bin .lss (.s 5) (.s 8))])
def p_chunk_sizesC1_2 : PC :=
 (.reg [4] [I 10 (.ld false 1 (.s 1)),I 11 (.ld false 1 (.s 2)),I 12 (.bin .quo (.s 10) (.s 11)),I 13 (.bin .add (.s 12) (V 1)),I 4 (.mv (.s 13))])
def p_chunk_sizesC1_3 : PC :=
 (.reg [4] [I 14 (.ld false 1 (.s 1)),I 15 (.ld false 1 (.s 2)),I 16 (.bin .quo (.s 14) (.s 15)),I 4 (.mv (.s 16))])
def p_chunk_sizesC1 : PF := ⟨false,
 (.seq p_chunk_sizesC1_0
 (.seq (.seq p_chunk_sizesC1_1
 (.ite (.s 9)
 (.seq p_chunk_sizesC1_2
 .ret)
 .skip))
 (.seq p_chunk_sizesC1_3
 .ret))),
 [.s 4]⟩
theorem c_chunk_sizesC1 : compF Go.Proofs.Try.prog false h_chunk_sizesC1 Go.Proofs.Try.f111 = some p_chunk_sizesC1 := by kernel_rfl
def h_freelist_List_slots : List Hint := [H [0,1],⟨[0,1,5],[0],[],[],[],[]⟩,H [0,1,5,9],H [4],H [1,5,14,15,16],H [1,5,14,15,16,17],H [1,5,6,7,14,15,16],H [1,5,6,14,15,16,23],H [1,5,14,15,16],H [1,5,14,15,16],H [4]]
def p_freelist_List_slots_0 : PC :=
 (.reg [0,1] [I 4 (.mv (.v .nils))])
def p_freelist_List_slots_1 : PC :=
 (.reg [0,1,5] [I 5 (.onil 1)])
def p_freelist_List_slots_2 : PC :=
 (.reg [0,1,5,9] [I 8 (.mv (.s 0)),I 9 (.eqs false 3 [] (.s 8) (.v .nilptr))])
def p_freelist_List_slots_3 : PC :=
 (.reg [4] [I 10 (.mv (.s 5)),I 4 (.mv (.s 10))])
def p_freelist_List_slots_4 : PC :=
 (.reg [1,5,14,15,16] [I 11 (.mv (.s 0)),I 12 (.nilck (.s 11)),I 13 (.fadr 1 (.s 12)),I 14 (.ld false 1 (.s 13)),I 15 (.len 1 (.s 14)),I 16 (.mv (V 0))])
def p_freelist_List_slots_5 : PC :=
 (.reg [1,5,14,15,16,17] [I 17 (.bin .lss (.s 16) (.s 15))])
def p_freelist_List_slots_6 : PC :=
 (.reg [1,5,6,7,14,15,16] [I 18 (.mv (.s 16)),I 19 (.ixS 1 (.s 14) (.s 16)),I 20 (.ld false 1 (.s 19)),I 6 (.mv (.s 18)),I 7 (.mv (.s 20))])
def p_freelist_List_slots_7 : PC :=
 (.reg [1,5,6,14,15,16,23] [I 21 (.mv (.s 7)),I 22 (.mv (.s 1)),I 23 (.bin .eql (.s 21) (.s 22))])
def p_freelist_List_slots_8 : PC :=
 (.reg [1,5,14,15,16] [I 24 (.mv (.s 5)),I 25 (.mv (.s 6)),I 26 (.bslice false 1 [(.int .i64 0)] [(0,(.s 25))]),I 27 (.app 1 8 (.s 24) (.s 26)),I 5 (.mv (.s 27))])
def p_freelist_List_slots_9 : PC :=
 (.reg [1,5,14,15,16] [I 28 (.bin .add (.s 16) (V 1)),I 16 (.mv (.s 28))])
def p_freelist_List_slots_10 : PC :=
 (.seq p_freelist_List_slots_5
 (.seq (.ite (.s 17)
 .skip
 (.exit 0))
 (.seq (.block 1
 (.seq p_freelist_List_slots_6
 (.seq p_freelist_List_slots_7
 (.ite (.s 23)
 p_freelist_List_slots_8
 .skip))))
 p_freelist_List_slots_9)))
def p_freelist_List_slots_11 : PC :=
 (.reg [4] [I 29 (.mv (.s 5)),I 4 (.mv (.s 29))])
def p_freelist_List_slots : PF := ⟨false,
 (.seq p_freelist_List_slots_0
 (.seq p_freelist_List_slots_1
 (.seq (.seq p_freelist_List_slots_2
 (.ite (.s 9)
 (.seq p_freelist_List_slots_3
 .ret)
 .skip))
 (.seq (.seq p_freelist_List_slots_4
 (.block 0
 (.loop p_freelist_List_slots_10)))
 (.seq p_freelist_List_slots_11
 .ret))))),
 [.s 4]⟩
theorem c_freelist_List_slots : compF Go.Proofs.Try.prog false h_freelist_List_slots Go.Proofs.Try.f112 = some p_freelist_List_slots := by kernel_rfl
def h_rope_Pen_putC1 : List Hint := [H [0,1,2],⟨[2,5,6],[],[(5,.pure)],[],[],[]⟩,H [2,5,6,18],H [5,6],H [3,4]]
def p_rope_Pen_putC1_0 : PC :=
 (.reg [0,1,2] [I 3 (.mv (.v (.int .u64 0))),I 4 (.mv (V 0))])
def p_rope_Pen_putC1_1 : PC :=
 (.reg [2,5,6] [I 8 (.ld false 1 (.s 0)),I 9 (.nilck (.s 8)),I 10 (.fadr 0 (.s 9)),I 11 (.ld false 1 (.s 10)),I 12 (.ld false 1 (.s 1)),I 13 (.call .pure (.s 12) []),I 14 (C F_arena_Arena_Alloc [(.s 11),(.s 13)]),I 7 (.mv (.s 14)),I 15 (.ext (.s 7) 0),I 16 (.ext (.s 7) 1),I 5 (.mv (.s 15)),I 6 (.mv (.s 16))])
def p_rope_Pen_putC1_2 : PC :=
 (.reg [2,5,6,18] [I 17 (.mv (.s 6)),I 18 (.bin .eql (.s 17) (V 0))])
def p_rope_Pen_putC1_3 : PC :=
 (.reg [5,6] [I 19 (.ld false 1 (.s 2)),I 20 (.mv (.s 5)),I 21 (.nilck (.s 19)),I 22 (.fadr 0 (.s 21)),J (.st 1 (.s 22) (.s 20))])
def p_rope_Pen_putC1_4 : PC :=
 (.reg [3,4] [I 23 (.mv (.s 5)),I 24 (.mv (.s 6)),I 3 (.mv (.s 23)),I 4 (.mv (.s 24))])
def p_rope_Pen_putC1 : PF := ⟨false,
 (.seq p_rope_Pen_putC1_0
 (.seq p_rope_Pen_putC1_1
 (.seq (.seq p_rope_Pen_putC1_2
 (.ite (.s 18)
 p_rope_Pen_putC1_3
 .skip))
 (.seq p_rope_Pen_putC1_4
 .ret)))),
 [.s 3,.s 4]⟩
theorem c_rope_Pen_putC1 : compF Go.Proofs.Try.prog false h_rope_Pen_putC1 Go.Proofs.Try.f113 = some p_rope_Pen_putC1 := by kernel_rfl
def h_arena_Arena_Alloc : List Hint := [H [0,3],H [0,3,16],H [4,5],H [0,3,6],H [0,3,6,20],H [4,5],H [0,3,23,24,25],H [0,3,23,24,25,26],H [0,3,8,23,24,25],H [0,3,8,9,10,23,24,25],H [0,3,8,9,23,24,25,40],H [4,5],H [0,3,8,9,11,12,23,24,25],H [0,3,23,24,25,61],H [4,5],H [0,3,23,24,25],H [0,3,13,14],H [0,3,13,14,72],H [4,5],H [0,3,13],H [0,13],H [13],H [4,5]]
def p_arena_Arena_Alloc_0 : PC :=
 (.reg [0,3] [I 3 (.box (.s 1)),I 4 (.mv (.v (.int .u64 0))),I 5 (.mv (V 0))])
def p_arena_Arena_Alloc_1 : PC :=
 (.reg [0,3,16] [I 15 (.mv (.s 0)),I 16 (.eqs false 3 [] (.s 15) (.v .nilptr))])
def p_arena_Arena_Alloc_2 : PC :=
 (.reg [4,5] [I 4 (.mv (.v (.int .u64 0))),I 5 (.mv (V 1))])
def p_arena_Arena_Alloc_3 : PC :=
 (.reg [0,3,6] [I 17 (.ld true 3 (.s 3)),I 18 (C F_node_Check [(.s 17)]),I 6 (.mv (.s 18))])
def p_arena_Arena_Alloc_4 : PC :=
 (.reg [0,3,6,20] [I 19 (.mv (.s 6)),I 20 (.bin .neq (.s 19) (V 0))])
def p_arena_Arena_Alloc_5 : PC :=
 (.reg [4,5] [I 21 (.mv (.s 6)),I 4 (.mv (.v (.int .u64 0))),I 5 (.mv (.s 21))])
def p_arena_Arena_Alloc_6 : PC :=
 (.reg [0,3,23,24,25] [I 22 (.fadr 2 (.s 3)),I 23 (.ld false 1 (.s 22)),I 24 (.len 1 (.s 23)),I 25 (.mv (V 0))])
def p_arena_Arena_Alloc_7 : PC :=
 (.reg [0,3,23,24,25,26] [I 26 (.bin .lss (.s 25) (.s 24))])
def p_arena_Arena_Alloc_8 : PC :=
 (.reg [0,3,8,23,24,25] [I 27 (.ixS 4 (.s 23) (.s 25)),I 28 (.ld true 4 (.s 27)),I 8 (.box (.v ZK)),J (.st 4 (.s 8) (.s 28))])
def p_arena_Arena_Alloc_9 : PC :=
 (.reg [0,3,8,9,10,23,24,25] [I 30 (.mv (.s 0)),I 31 (.nilck (.s 30)),I 32 (.fadr 2 (.s 31)),I 33 (.ld false 1 (.s 32)),I 34 (.fadr 0 (.s 8)),I 35 (.ld false 1 (.s 34)),I 36 (.look 0 ZN true (.s 33) (.s 35)),I 29 (.mv (.s 36)),I 37 (.ext (.s 29) 0),I 38 (.ext (.s 29) 1),I 9 (.box (.v ZN)),J (.st 3 (.s 9) (.s 37)),I 10 (.mv (.s 38))])
def p_arena_Arena_Alloc_10 : PC :=
 (.reg [0,3,8,9,23,24,25,40] [I 39 (.mv (.s 10)),I 40 (.un .not (.s 39))])
def p_arena_Arena_Alloc_11 : PC :=
 (.reg [4,5] [I 4 (.mv (.v (.int .u64 0))),I 5 (.mv (V 10))])
def p_arena_Arena_Alloc_12 : PC :=
 (.reg [0,3,8,9,11,12,23,24,25] [I 42 (.ld true 3 (.s 9)),I 43 (C F_node_Measure [(.s 42)]),I 41 (.mv (.s 43)),I 44 (.ext (.s 41) 0),I 45 (.ext (.s 41) 1),I 11 (.box (.v ZM)),J (.st 3 (.s 11) (.s 44)),I 12 (.mv (.s 45))])
def p_arena_Arena_Alloc_13 : PC :=
 (.reg [0,3,23,24,25,61] [I 46 (.mv (.s 12)),I 47 (.bin .neq (.s 46) (V 0)),I 48 (.mv (.s 47)),G 49 48 false (.fadr 0 (.s 9)),G 50 48 false (.ld false 1 (.s 49)),G 51 48 false (.fadr 0 (.s 3)),G 52 48 false (.ld false 1 (.s 51)),G 53 48 false (.bin .sub (.s 52) (V 1)),G 54 48 false (.bin .neq (.s 50) (.s 53)),I 55 (.pick (.s 48) (.v (.bool true)) (.s 54)),I 56 (.mv (.s 55)),G 57 56 false (.ld true 3 (.s 11)),G 58 56 false (.fadr 1 (.s 8)),G 59 56 false (.ld true 3 (.s 58)),G 60 56 false (.eqs true 0 [(0,0),(1,0),(2,0)] (.s 57) (.s 59)),I 61 (.pick (.s 56) (.v (.bool true)) (.s 60))])
def p_arena_Arena_Alloc_14 : PC :=
 (.reg [4,5] [I 4 (.mv (.v (.int .u64 0))),I 5 (.mv (V 23))])
def p_arena_Arena_Alloc_15 : PC :=
 (.reg [0,3,23,24,25] [I 62 (.bin .add (.s 25) (V 1)),I 25 (.mv (.s 62))])
def p_arena_Arena_Alloc_16 : PC :=
 (.seq p_arena_Arena_Alloc_7
 (.seq (.ite (.s 26)
 .skip
 (.exit 0))
 (.seq (.block 1
 (.seq p_arena_Arena_Alloc_8
 (.seq p_arena_Arena_Alloc_9
 (.seq (.seq p_arena_Arena_Alloc_10
 (.ite (.s 40)
 (.seq p_arena_Arena_Alloc_11
 .ret)
 .skip))
 (.seq p_arena_Arena_Alloc_12
 (.seq p_arena_Arena_Alloc_13
 (.ite (.s 61)
 (.seq p_arena_Arena_Alloc_14
 .ret)
 .skip)))))))
 p_arena_Arena_Alloc_15)))
def p_arena_Arena_Alloc_17 : PC :=
 (.reg [0,3,13,14] [I 64 (.mv (.s 0)),I 65 (.nilck (.s 64)),I 66 (.fadr 1 (.s 65)),I 67 (.ld false 1 (.s 66)),I 68 (C F_freelist_List_Take [(.s 67)]),I 63 (.mv (.s 68)),I 69 (.ext (.s 63) 0),I 70 (.ext (.s 63) 1),I 13 (.mv (.s 69)),I 14 (.mv (.s 70))])
def p_arena_Arena_Alloc_18 : PC :=
 (.reg [0,3,13,14,72] [I 71 (.mv (.s 14)),I 72 (.bin .neq (.s 71) (V 0))])
def p_arena_Arena_Alloc_19 : PC :=
 (.reg [4,5] [I 73 (.mv (.s 14)),I 4 (.mv (.v (.int .u64 0))),I 5 (.mv (.s 73))])
def p_arena_Arena_Alloc_20 : PC :=
 (.reg [0,3,13] [I 74 (.fadr 2 (.s 3)),I 75 (.ld false 1 (.s 74)),I 76 (C F_slices_Clone_api_Kid_api_Kid [(.s 75)]),I 77 (.fadr 2 (.s 3)),J (.st 1 (.s 77) (.s 76))])
def p_arena_Arena_Alloc_21 : PC :=
 (.reg [0,13] [I 78 (.mv (.s 0)),I 79 (.nilck (.s 78)),I 80 (.fadr 2 (.s 79)),I 81 (.ld false 1 (.s 80)),I 82 (.mv (.s 13)),I 83 (.ld true 3 (.s 3)),J (.mupd 0 (.s 81) (.s 82) (.s 83))])
def p_arena_Arena_Alloc_22 : PC :=
 (.reg [13] [I 84 (.mv (.s 0)),I 85 (.nilck (.s 84)),I 86 (.fadr 3 (.s 85)),I 87 (.ld false 1 (.s 86)),I 88 (.bin .add (.s 87) (V 1)),I 89 (.nilck (.s 84)),I 90 (.fadr 3 (.s 89)),J (.st 1 (.s 90) (.s 88))])
def p_arena_Arena_Alloc_23 : PC :=
 (.reg [4,5] [I 91 (.mv (.s 13)),I 4 (.mv (.s 91)),I 5 (.mv (V 0))])
def p_arena_Arena_Alloc : PF := ⟨false,
 (.seq p_arena_Arena_Alloc_0
 (.seq (.seq p_arena_Arena_Alloc_1
 (.ite (.s 16)
 (.seq p_arena_Arena_Alloc_2
 .ret)
 .skip))
 (.seq (.seq p_arena_Arena_Alloc_3
 (.seq p_arena_Arena_Alloc_4
 (.ite (.s 20)
 (.seq p_arena_Arena_Alloc_5
 .ret)
 .skip)))
 (.seq (.seq p_arena_Arena_Alloc_6
 (.block 0
 (.loop p_arena_Arena_Alloc_16)))
 (.seq p_arena_Arena_Alloc_17
 (.seq (.seq p_arena_Arena_Alloc_18
 (.ite (.s 72)
 (.seq p_arena_Arena_Alloc_19
 .ret)
 .skip))
 (.seq p_arena_Arena_Alloc_20
 (.seq p_arena_Arena_Alloc_21
 (.seq p_arena_Arena_Alloc_22
 (.seq p_arena_Arena_Alloc_23
 .ret)))))))))),
 [.s 4,.s 5]⟩
theorem c_arena_Arena_Alloc : compF Go.Proofs.Try.prog false h_arena_Arena_Alloc Go.Proofs.Try.f114 = some p_arena_Arena_Alloc := by kernel_rfl
def h_node_formed : List Hint := [H [1],H [1,9],H [2],H [1,50],H [2],H [1,3,4],H [3,4,59,60,61],H [3,4,59,60,61,62],H [3,4,6,59,60,61],H [3,4,59,60,61,112],H [2],H [3,4,59,60,61],H [2]]
def p_node_formed_0 : PC :=
 (.reg [1] [I 1 (.box (.s 0)),I 2 (.mv (.v (.bool false)))])
def p_node_formed_1 : PC :=
 (.reg [1,9] [I 7 (.fadr 0 (.s 1)),I 8 (.ld false 1 (.s 7)),I 9 (.bin .eql (.s 8) (V 0))])
def p_node_formed_2 : PC :=
 (.reg [2] [I 10 (.fadr 1 (.s 1)),I 11 (.ld false 1 (.s 10)),I 12 (.len 0 (.s 11)),I 13 (.bin .geq (.s 12) (V 1)),I 14 (.mv (.s 13)),G 15 14 true (.fadr 1 (.s 1)),G 16 14 true (.ld false 1 (.s 15)),G 17 14 true (.len 0 (.s 16)),G 18 14 true (.bin .leq (.s 17) (V 16)),I 19 (.pick (.s 14) (.s 18) (.v (.bool false))),I 20 (.mv (.s 19)),G 21 20 true (.fadr 2 (.s 1)),G 22 20 true (.ld false 1 (.s 21)),G 23 20 true (.len 1 (.s 22)),G 24 20 true (.bin .eql (.s 23) (V 0)),I 25 (.pick (.s 20) (.s 24) (.v (.bool false))),I 2 (.mv (.s 25))])
def p_node_formed_3 : PC :=
 (.reg [1,50] [I 26 (.fadr 0 (.s 1)),I 27 (.ld false 1 (.s 26)),I 28 (.bin .lss (.s 27) (V 1)),I 29 (.mv (.s 28)),G 30 29 false (.fadr 0 (.s 1)),G 31 29 false (.ld false 1 (.s 30)),G 32 29 false (.bin .gtr (.s 31) (V 16)),I 33 (.pick (.s 29) (.v (.bool true)) (.s 32)),I 34 (.mv (.s 33)),G 35 34 false (.fadr 1 (.s 1)),G 36 34 false (.ld false 1 (.s 35)),G 37 34 false (.bin .neq (.s 36) (.v (.str []))),I 38 (.pick (.s 34) (.v (.bool true)) (.s 37)),I 39 (.mv (.s 38)),G 40 39 false (.fadr 2 (.s 1)),G 41 39 false (.ld false 1 (.s 40)),G 42 39 false (.len 1 (.s 41)),G 43 39 false (.bin .lss (.s 42) (V 2)),I 44 (.pick (.s 39) (.v (.bool true)) (.s 43)),I 45 (.mv (.s 44)),G 46 45 false (.fadr 2 (.s 1)),G 47 45 false (.ld false 1 (.s 46)),G 48 45 false (.len 1 (.s 47)),G 49 45 false (.bin .gtr (.s 48) (V 4)),I 50 (.pick (.s 45) (.v (.bool true)) (.s 49))])
def p_node_formed_4 : PC :=
 (.reg [2] [I 2 (.mv (.v (.bool false)))])
def p_node_formed_5 : PC :=
 (.reg [1,3,4] [I 52 (.fadr 0 (.s 1)),I 53 (.ld false 1 (.s 52)),I 54 (.bin .sub (.s 53) (V 1)),I 55 (C F_node_bounds [(.s 54)]),I 51 (.mv (.s 55)),I 56 (.ext (.s 51) 0),I 57 (.ext (.s 51) 1),I 3 (.mv (.s 56)),I 4 (.mv (.s 57))])
def p_node_formed_6 : PC :=
 (.reg [3,4,59,60,61] [I 58 (.fadr 2 (.s 1)),I 59 (.ld false 1 (.s 58)),I 60 (.len 1 (.s 59)),I 61 (.mv (V 0))])
def p_node_formed_7 : PC :=
 (.reg [3,4,59,60,61,62] [I 62 (.bin .lss (.s 61) (.s 60))])
def p_node_formed_8 : PC :=
 (.reg [3,4,6,59,60,61] [I 63 (.ixS 4 (.s 59) (.s 61)),I 64 (.ld true 4 (.s 63)),I 6 (.box (.v ZK)),J (.st 4 (.s 6) (.s 64))])
def p_node_formed_9 : PC :=
 (.reg [3,4,59,60,61,112] [I 65 (.fadr 0 (.s 6)),I 66 (.ld false 1 (.s 65)),I 67 (C F_handle_Check [(.s 66)]),I 68 (.bin .neq (.s 67) (V 0)),I 69 (.mv (.s 68)),G 70 69 false (.fadr 1 (.s 6)),G 71 69 false (.fadr 0 (.s 70)),G 72 69 false (.ld false 1 (.s 71)),G 73 69 false (.mv (.s 3)),G 74 69 false (.bin .lss (.s 72) (.s 73)),I 75 (.pick (.s 69) (.v (.bool true)) (.s 74)),I 76 (.mv (.s 75)),G 77 76 false (.fadr 1 (.s 6)),G 78 76 false (.fadr 0 (.s 77)),G 79 76 false (.ld false 1 (.s 78)),G 80 76 false (.mv (.s 4)),G 81 76 false (.bin .gtr (.s 79) (.s 80)),I 82 (.pick (.s 76) (.v (.bool true)) (.s 81)),I 83 (.mv (.s 82)),G 84 83 false (.fadr 1 (.s 6)),G 85 83 false (.fadr 1 (.s 84)),G 86 83 false (.ld false 1 (.s 85)),G 87 83 false (.bin .lss (.s 86) (V 0)),I 88 (.pick (.s 83) (.v (.bool true)) (.s 87)),I 89 (.mv (.s 88)),G 90 89 false (.fadr 1 (.s 6)),G 91 89 false (.fadr 1 (.s 90)),G 92 89 false (.ld false 1 (.s 91)),G 93 89 false (.fadr 1 (.s 6)),G 94 89 false (.fadr 0 (.s 93)),G 95 89 false (.ld false 1 (.s 94)),G 96 89 false (.bin .gtr (.s 92) (.s 95)),I 97 (.pick (.s 89) (.v (.bool true)) (.s 96)),I 98 (.mv (.s 97)),G 99 98 false (.fadr 1 (.s 6)),G 100 98 false (.fadr 2 (.s 99)),G 101 98 false (.ld false 1 (.s 100)),G 102 98 false (.bin .lss (.s 101) (V 0)),I 103 (.pick (.s 98) (.v (.bool true)) (.s 102)),I 104 (.mv (.s 103)),G 105 104 false (.fadr 1 (.s 6)),G 106 104 false (.fadr 2 (.s 105)),G 107 104 false (.ld false 1 (.s 106)),G 108 104 false (.fadr 1 (.s 6)),G 109 104 false (.fadr 1 (.s 108)),G 110 104 false (.ld false 1 (.s 109)),G 111 104 false (.bin .gtr (.s 107) (.s 110)),I 112 (.pick (.s 104) (.v (.bool true)) (.s 111))])
def p_node_formed_10 : PC :=
 (.reg [2] [I 2 (.mv (.v (.bool false)))])
def p_node_formed_11 : PC :=
 (.reg [3,4,59,60,61] [I 113 (.bin .add (.s 61) (V 1)),I 61 (.mv (.s 113))])
def p_node_formed_12 : PC :=
 (.seq p_node_formed_7
 (.seq (.ite (.s 62)
 .skip
 (.exit 0))
 (.seq (.block 1
 (.seq p_node_formed_8
 (.seq p_node_formed_9
 (.ite (.s 112)
 (.seq p_node_formed_10
 .ret)
 .skip))))
 p_node_formed_11)))
def p_node_formed_13 : PC :=
 (.reg [2] [I 2 (.mv (.v (.bool true)))])
def p_node_formed : PF := ⟨false,
 (.seq p_node_formed_0
 (.seq (.seq p_node_formed_1
 (.ite (.s 9)
 (.seq p_node_formed_2
 .ret)
 .skip))
 (.seq (.seq p_node_formed_3
 (.ite (.s 50)
 (.seq p_node_formed_4
 .ret)
 .skip))
 (.seq p_node_formed_5
 (.seq (.seq p_node_formed_6
 (.block 0
 (.loop p_node_formed_12)))
 (.seq p_node_formed_13
 .ret)))))),
 [.s 2]⟩
theorem c_node_formed : compF Go.Proofs.Try.prog false h_node_formed Go.Proofs.Try.f117 = some p_node_formed := by kernel_rfl
def h_measure_Of : List Hint := [H [0,2],H [0,2,3],H [0,2,3,6,7],H [0,2,3,6,7,8],H [0,2,3,4,5,6,7],H [0,2,3,6,7],H [0,2,3,6,7],H [2]]
def p_measure_Of_0 : PC :=
 (.reg [0,2] [I 2 (.box (.v ZM))])
def p_measure_Of_1 : PC :=
 (.reg [0,2,3] [I 3 (.box (.v ZM))])
def p_measure_Of_2 : PC :=
 (.reg [0,2,3,6,7] [I 6 (.build [.nilfunc,.nilfunc,.nilfunc] [(0,1,(.v (.func (.func F_measure_every) [] []))),(1,1,(.v (.func (.func F_measure_begins) [] []))),(2,1,(.v (.func (.func F_measure_feeds) [] [])))]),I 7 (.mv (V 0))])
def p_measure_Of_3 : PC :=
 (.reg [0,2,3,6,7,8] [I 8 (.bin .lss (.s 7) (V 3))])
def p_measure_Of_4 : PC :=
 (.reg [0,2,3,4,5,6,7] [I 9 (.mv (.s 7)),I 10 (.ixArr false 3 1 (.s 6) (.s 7)),I 4 (.mv (.s 9)),I 5 (.mv (.s 10))])
def p_measure_Of_5 : PC :=
 (.reg [0,2,3,6,7] [I 11 (.mv (.s 4)),I 12 (.mv (.s 0)),I 13 (.mv (.s 5)),I 14 (C F_measure_count [(.s 12),(.s 13)]),I 15 (.ixA 3 1 (.s 3) (.s 11)),J (.st 1 (.s 15) (.s 14))])
def p_measure_Of_6 : PC :=
 (.reg [0,2,3,6,7] [I 16 (.bin .add (.s 7) (V 1)),I 7 (.mv (.s 16))])
def p_measure_Of_7 : PC :=
 (.seq p_measure_Of_3
 (.seq (.ite (.s 8)
 .skip
 (.exit 0))
 (.seq (.block 1
 (.seq p_measure_Of_4
 p_measure_Of_5))
 p_measure_Of_6)))
def p_measure_Of_8 : PC :=
 (.reg [2] [I 17 (.ld true 3 (.s 3)),I 18 (C F_measure_measured [(.s 17)]),J (.st 3 (.s 2) (.s 18))])
def p_measure_Of : PF := ⟨false,
 (.seq p_measure_Of_0
 (.seq p_measure_Of_1
 (.seq (.seq p_measure_Of_2
 (.block 0
 (.loop p_measure_Of_7)))
 (.seq p_measure_Of_8
 .ret)))),
 [.c 2 true 3]⟩
theorem c_measure_Of : compF Go.Proofs.Try.prog false h_measure_Of Go.Proofs.Try.f118 = some p_measure_Of := by kernel_rfl
def h_measure_Add : List Hint := [H [0,2],H [0,2,3],H [2,3,8,9,10],H [2,3,8,9,10,11],H [2,3,5,8,9,10],H [2,3,8,9,10,20,21],H [2,3,8,9,10,20,21,22],H [2,3,6,7,8,9,10,20,21],H [2,3,8,9,10,20,21],H [2,3,8,9,10,20,21],H [2,3,8,9,10],H [2]]
def p_measure_Add_0 : PC :=
 (.reg [0,2] [I 2 (.box (.v ZM))])
def p_measure_Add_1 : PC :=
 (.reg [0,2,3] [I 3 (.box (.v ZM))])
def p_measure_Add_2 : PC :=
 (.reg [2,3,8,9,10] [I 8 (.mv (.s 0)),I 9 (.len 1 (.s 8)),I 10 (.mv (V 0))])
def p_measure_Add_3 : PC :=
 (.reg [2,3,8,9,10,11] [I 11 (.bin .lss (.s 10) (.s 9))])
def p_measure_Add_4 : PC :=
 (.reg [2,3,5,8,9,10] [I 12 (.ixS 3 (.s 8) (.s 10)),I 13 (.ld true 3 (.s 12)),I 5 (.box (.v ZM)),J (.st 3 (.s 5) (.s 13))])
def p_measure_Add_5 : PC :=
 (.reg [2,3,8,9,10,20,21] [I 14 (.fadr 0 (.s 5)),I 15 (.ld false 1 (.s 14)),I 16 (.fadr 1 (.s 5)),I 17 (.ld false 1 (.s 16)),I 18 (.fadr 2 (.s 5)),I 19 (.ld false 1 (.s 18)),I 20 (.build [(.int .i64 0),(.int .i64 0),(.int .i64 0)] [(0,1,(.s 15)),(1,1,(.s 17)),(2,1,(.s 19))]),I 21 (.mv (V 0))])
def p_measure_Add_6 : PC :=
 (.reg [2,3,8,9,10,20,21,22] [I 22 (.bin .lss (.s 21) (V 3))])
def p_measure_Add_7 : PC :=
 (.reg [2,3,6,7,8,9,10,20,21] [I 23 (.mv (.s 21)),I 24 (.ixArr false 3 1 (.s 20) (.s 21)),I 6 (.mv (.s 23)),I 7 (.mv (.s 24))])
def p_measure_Add_8 : PC :=
 (.reg [2,3,8,9,10,20,21] [I 25 (.mv (.s 6)),I 26 (.ixA 3 1 (.s 3) (.s 25)),I 27 (.ld false 1 (.s 26)),I 28 (.mv (.s 7)),I 29 (.bin .add (.s 27) (.s 28)),I 30 (.ixA 3 1 (.s 3) (.s 25)),J (.st 1 (.s 30) (.s 29))])
def p_measure_Add_9 : PC :=
 (.reg [2,3,8,9,10,20,21] [I 31 (.bin .add (.s 21) (V 1)),I 21 (.mv (.s 31))])
def p_measure_Add_10 : PC :=
 (.seq p_measure_Add_6
 (.seq (.ite (.s 22)
 .skip
 (.exit 2))
 (.seq (.block 3
 (.seq p_measure_Add_7
 p_measure_Add_8))
 p_measure_Add_9)))
def p_measure_Add_11 : PC :=
 (.reg [2,3,8,9,10] [I 32 (.bin .add (.s 10) (V 1)),I 10 (.mv (.s 32))])
def p_measure_Add_12 : PC :=
 (.seq p_measure_Add_3
 (.seq (.ite (.s 11)
 .skip
 (.exit 0))
 (.seq (.block 1
 (.seq p_measure_Add_4
 (.seq p_measure_Add_5
 (.block 2
 (.loop p_measure_Add_10)))))
 p_measure_Add_11)))
def p_measure_Add_13 : PC :=
 (.reg [2] [I 33 (.ld true 3 (.s 3)),I 34 (C F_measure_measured [(.s 33)]),J (.st 3 (.s 2) (.s 34))])
def p_measure_Add : PF := ⟨false,
 (.seq p_measure_Add_0
 (.seq p_measure_Add_1
 (.seq (.seq p_measure_Add_2
 (.block 0
 (.loop p_measure_Add_12)))
 (.seq p_measure_Add_13
 .ret)))),
 [.c 2 true 3]⟩
theorem c_measure_Add : compF Go.Proofs.Try.prog false h_measure_Add Go.Proofs.Try.f119 = some p_measure_Add := by kernel_rfl
def h_freelist_List_Take : List Hint := [H [0],H [0,6],H [2,3],H [0,12],H [2,3],H [0,4],H [0,4],H [0,4],H [2,3]]
def p_freelist_List_Take_0 : PC :=
 (.reg [0] [I 2 (.mv (.v (.int .u64 0))),I 3 (.mv (V 0))])
def p_freelist_List_Take_1 : PC :=
 (.reg [0,6] [I 5 (.mv (.s 0)),I 6 (.eqs false 3 [] (.s 5) (.v .nilptr))])
def p_freelist_List_Take_2 : PC :=
 (.reg [2,3] [I 2 (.mv (.v (.int .u64 0))),I 3 (.mv (V 1))])
def p_freelist_List_Take_3 : PC :=
 (.reg [0,12] [I 7 (.mv (.s 0)),I 8 (.nilck (.s 7)),I 9 (.fadr 0 (.s 8)),I 10 (.ld false 1 (.s 9)),I 11 (.len 1 (.s 10)),I 12 (.bin .eql (.s 11) (V 0))])
def p_freelist_List_Take_4 : PC :=
 (.reg [2,3] [I 2 (.mv (.v (.int .u64 0))),I 3 (.mv (V 6))])
def p_freelist_List_Take_5 : PC :=
 (.reg [0,4] [I 13 (.mv (.s 0)),I 14 (.nilck (.s 13)),I 15 (.fadr 0 (.s 14)),I 16 (.ld false 1 (.s 15)),I 17 (.mv (.s 0)),I 18 (.nilck (.s 17)),I 19 (.fadr 0 (.s 18)),I 20 (.ld false 1 (.s 19)),I 21 (.len 1 (.s 20)),I 22 (.bin .sub (.s 21) (V 1)),I 23 (.ixS 1 (.s 16) (.s 22)),I 24 (.ld false 1 (.s 23)),I 4 (.mv (.s 24))])
def p_freelist_List_Take_6 : PC :=
 (.reg [0,4] [I 25 (.mv (.s 0)),I 26 (.mv (.s 0)),I 27 (.nilck (.s 26)),I 28 (.fadr 0 (.s 27)),I 29 (.ld false 1 (.s 28)),I 30 (.mv (.s 0)),I 31 (.nilck (.s 30)),I 32 (.fadr 0 (.s 31)),I 33 (.ld false 1 (.s 32)),I 34 (.len 1 (.s 33)),I 35 (.bin .sub (.s 34) (V 1)),I 36 (.slc 1 (.s 29) none (some (.s 35))),I 37 (.nilck (.s 25)),I 38 (.fadr 0 (.s 37)),J (.st 1 (.s 38) (.s 36))])
def p_freelist_List_Take_7 : PC :=
 (.reg [0,4] [I 39 (.mv (.s 0)),I 40 (.nilck (.s 39)),I 41 (.fadr 1 (.s 40)),I 42 (.ld false 1 (.s 41)),I 43 (.mv (.s 4)),I 44 (.ixS 1 (.s 42) (.s 43)),J (.st 1 (.s 44) (.v (.int .u8 1)))])
def p_freelist_List_Take_8 : PC :=
 (.reg [2,3] [I 45 (.mv (.s 4)),I 46 (.mv (.s 0)),I 47 (.nilck (.s 46)),I 48 (.fadr 2 (.s 47)),I 49 (.ld false 1 (.s 48)),I 50 (.mv (.s 4)),I 51 (.ixS 1 (.s 49) (.s 50)),I 52 (.ld false 1 (.s 51)),I 53 (C F_handle_Make [(.s 45),(.s 52)]),I 54 (.ext (.s 53) 0),I 55 (.ext (.s 53) 1),I 2 (.mv (.s 54)),I 3 (.mv (.s 55))])
def p_freelist_List_Take : PF := ⟨false,
 (.seq p_freelist_List_Take_0
 (.seq (.seq p_freelist_List_Take_1
 (.ite (.s 6)
 (.seq p_freelist_List_Take_2
 .ret)
 .skip))
 (.seq (.seq p_freelist_List_Take_3
 (.ite (.s 12)
 (.seq p_freelist_List_Take_4
 .ret)
 .skip))
 (.seq p_freelist_List_Take_5
 (.seq p_freelist_List_Take_6
 (.seq p_freelist_List_Take_7
 (.seq p_freelist_List_Take_8
 .ret))))))),
 [.s 2,.s 3]⟩
theorem c_freelist_List_Take : compF Go.Proofs.Try.prog false h_freelist_List_Take Go.Proofs.Try.f123 = some p_freelist_List_Take := by kernel_rfl
def h_node_bounds : List Hint := [H [0],H [0,2,3],H [2,3,4,5],H [2,3,4,5,6],H [2,3,4,5],H [2,3,4,5],H [2,3,4,5],H [2,3]]
def p_node_bounds_0 : PC :=
 (.reg [0] [I 2 (.mv (V 0)),I 3 (.mv (V 0))])
def p_node_bounds_1 : PC :=
 (.reg [0,2,3] [I 2 (.mv (V 8)),I 3 (.mv (V 16))])
def p_node_bounds_2 : PC :=
 (.reg [2,3,4,5] [I 4 (.mv (.s 0)),I 5 (.mv (V 0))])
def p_node_bounds_3 : PC :=
 (.reg [2,3,4,5,6] [I 6 (.bin .lss (.s 5) (.s 4))])
def p_node_bounds_4 : PC :=
 (.reg [2,3,4,5] [I 7 (.mv (.s 2)),I 8 (.bin .mul (.s 7) (V 2)),I 2 (.mv (.s 8))])
def p_node_bounds_5 : PC :=
 (.reg [2,3,4,5] [I 9 (.mv (.s 3)),I 10 (.bin .mul (.s 9) (V 4)),I 11 (.mnx false (.s 10) (V 65536)),I 3 (.mv (.s 11))])
def p_node_bounds_6 : PC :=
 (.reg [2,3,4,5] [I 12 (.bin .add (.s 5) (V 1)),I 5 (.mv (.s 12))])
def p_node_bounds_7 : PC :=
 (.seq p_node_bounds_3
 (.seq (.ite (.s 6)
 .skip
 (.exit 0))
 (.seq (.block 1
 (.seq p_node_bounds_4
 p_node_bounds_5))
 p_node_bounds_6)))
def p_node_bounds_8 : PC :=
 (.reg [2,3] [I 13 (.mv (.s 2)),I 14 (.mv (.s 3)),I 15 (.mnx false (.s 14) (V 65536)),I 2 (.mv (.s 13)),I 3 (.mv (.s 15))])
def p_node_bounds : PF := ⟨false,
 (.seq p_node_bounds_0
 (.seq p_node_bounds_1
 (.seq (.seq p_node_bounds_2
 (.block 0
 (.loop p_node_bounds_7)))
 (.seq p_node_bounds_8
 .ret)))),
 [.s 2,.s 3]⟩
theorem c_node_bounds : compF Go.Proofs.Try.prog false h_node_bounds Go.Proofs.Try.f124 = some p_node_bounds := by kernel_rfl
def h_handle_Check : List Hint := [H [0],H [3,4],H [19],H [2],H [2]]
def p_handle_Check_0 : PC :=
 (.reg [0] [I 2 (.mv (V 0))])
def p_handle_Check_1 : PC :=
 (.reg [3,4] [I 6 (.mv (.s 0)),I 7 (C F_handle_parts [(.s 6)]),I 5 (.mv (.s 7)),I 8 (.ext (.s 5) 0),I 9 (.ext (.s 5) 1),I 3 (.mv (.s 8)),I 4 (.mv (.s 9))])
def p_handle_Check_2 : PC :=
 (.reg [19] [I 10 (.mv (.s 3)),I 11 (.bin .geq (.s 10) (V 16384)),I 12 (.mv (.s 11)),G 13 12 false (.mv (.s 4)),G 14 12 false (.bin .lss (.s 13) (.v (.int .u64 1))),I 15 (.pick (.s 12) (.v (.bool true)) (.s 14)),I 16 (.mv (.s 15)),G 17 16 false (.mv (.s 4)),G 18 16 false (.bin .gtr (.s 17) (.v (.int .u64 4294967295))),I 19 (.pick (.s 16) (.v (.bool true)) (.s 18))])
def p_handle_Check_3 : PC :=
 (.reg [2] [I 2 (.mv (V 2))])
def p_handle_Check_4 : PC :=
 (.reg [2] [I 2 (.mv (V 0))])
def p_handle_Check : PF := ⟨false,
 (.seq p_handle_Check_0
 (.seq (.seq p_handle_Check_1
 (.seq p_handle_Check_2
 (.ite (.s 19)
 (.seq p_handle_Check_3
 .ret)
 .skip)))
 (.seq p_handle_Check_4
 .ret))),
 [.s 2]⟩
theorem c_handle_Check : compF Go.Proofs.Try.prog false h_handle_Check Go.Proofs.Try.f125 = some p_handle_Check := by kernel_rfl
def h_measure_every : List Hint := [H [],H [2]]
def p_measure_every_0 : PC :=
 (.reg [] [I 2 (.mv (.v (.bool false)))])
def p_measure_every_1 : PC :=
 (.reg [2] [I 2 (.mv (.v (.bool true)))])
def p_measure_every : PF := ⟨false,
 (.seq p_measure_every_0
 (.seq p_measure_every_1
 .ret)),
 [.s 2]⟩
theorem c_measure_every : compF Go.Proofs.Try.prog false h_measure_every Go.Proofs.Try.f126 = some p_measure_every := by kernel_rfl
def h_measure_measured : List Hint := [H [1,2],H [1,2,5],H [2],H [2]]
def p_measure_measured_0 : PC :=
 (.reg [1,2] [I 1 (.box (.s 0)),I 2 (.box (.v ZM))])
def p_measure_measured_1 : PC :=
 (.reg [1,2,5] [I 3 (.ld true 3 (.s 1)),I 4 (.build [(.int .i64 0),(.int .i64 0),(.int .i64 0)] []),I 5 (.eqs false 0 [(0,0),(1,0),(2,0)] (.s 3) (.s 4))])
def p_measure_measured_2 : PC :=
 (.reg [2] [I 6 (.build [(.int .i64 0),(.int .i64 0),(.int .i64 0)] []),J (.st 3 (.s 2) (.s 6))])
def p_measure_measured_3 : PC :=
 (.reg [2] [I 7 (.ixA 3 1 (.s 1) (V 0)),I 8 (.ld false 1 (.s 7)),I 9 (.ixA 3 1 (.s 1) (V 1)),I 10 (.ld false 1 (.s 9)),I 11 (.ixA 3 1 (.s 1) (V 2)),I 12 (.ld false 1 (.s 11)),I 13 (.build [(.int .i64 0),(.int .i64 0),(.int .i64 0)] [(0,1,(.s 8)),(1,1,(.s 10)),(2,1,(.s 12))]),J (.st 3 (.s 2) (.s 13))])
def p_measure_measured : PF := ⟨false,
 (.seq p_measure_measured_0
 (.seq (.seq p_measure_measured_1
 (.ite (.s 5)
 (.seq p_measure_measured_2
 .ret)
 .skip))
 (.seq p_measure_measured_3
 .ret))),
 [.c 2 true 3]⟩
theorem c_measure_measured : compF Go.Proofs.Try.prog false h_measure_measured Go.Proofs.Try.f127 = some p_measure_measured := by kernel_rfl
def h_handle_parts : List Hint := [H [0],H [2,3]]
def p_handle_parts_0 : PC :=
 (.reg [0] [I 2 (.mv (V 0)),I 3 (.mv (.v (.int .u64 0)))])
def p_handle_parts_1 : PC :=
 (.reg [2,3] [I 4 (.mv (.s 0)),I 5 (.bin .and (.s 4) (.v (.int .u64 65535))),I 6 (.cint .i64 (.s 5)),I 7 (.mv (.s 0)),I 8 (.bin .shr (.s 7) (.v (.int .u64 16))),I 2 (.mv (.s 6)),I 3 (.mv (.s 8))])
def p_handle_parts : PF := ⟨false,
 (.seq p_handle_parts_0
 (.seq p_handle_parts_1
 .ret)),
 [.s 2,.s 3]⟩
theorem c_handle_parts : compF Go.Proofs.Try.prog false h_handle_parts Go.Proofs.Try.f128 = some p_handle_parts := by kernel_rfl
def h_handle_Make : List Hint := [H [0,1],H [0,1,19],H [4,5],H [4,5]]
def p_handle_Make_0 : PC :=
 (.reg [0,1] [I 4 (.mv (.v (.int .u64 0))),I 5 (.mv (V 0))])
def p_handle_Make_1 : PC :=
 (.reg [0,1,19] [I 6 (.mv (.s 0)),I 7 (.bin .lss (.s 6) (V 0)),I 8 (.mv (.s 7)),G 9 8 false (.mv (.s 0)),G 10 8 false (.bin .geq (.s 9) (V 16384)),I 11 (.pick (.s 8) (.v (.bool true)) (.s 10)),I 12 (.mv (.s 11)),G 13 12 false (.mv (.s 1)),G 14 12 false (.bin .lss (.s 13) (.v (.int .u64 1))),I 15 (.pick (.s 12) (.v (.bool true)) (.s 14)),I 16 (.mv (.s 15)),G 17 16 false (.mv (.s 1)),G 18 16 false (.bin .gtr (.s 17) (.v (.int .u64 4294967295))),I 19 (.pick (.s 16) (.v (.bool true)) (.s 18))])
def p_handle_Make_2 : PC :=
 (.reg [4,5] [I 4 (.mv (.v (.int .u64 0))),I 5 (.mv (V 3))])
def p_handle_Make_3 : PC :=
 (.reg [4,5] [I 20 (.mv (.s 1)),I 21 (.bin .shl (.s 20) (.v (.int .u64 16))),I 22 (.mv (.s 0)),I 23 (.cint .u64 (.s 22)),I 24 (.bin .or (.s 21) (.s 23)),I 4 (.mv (.s 24)),I 5 (.mv (V 0))])
def p_handle_Make : PF := ⟨false,
 (.seq p_handle_Make_0
 (.seq (.seq p_handle_Make_1
 (.ite (.s 19)
 (.seq p_handle_Make_2
 .ret)
 .skip))
 (.seq p_handle_Make_3
 .ret))),
 [.s 4,.s 5]⟩
theorem c_handle_Make : compF Go.Proofs.Try.prog false h_handle_Make Go.Proofs.Try.f129 = some p_handle_Make := by kernel_rfl
end Go.Q17
namespace Go.Q17
open Go Go.QAbs
set_option maxRecDepth 100000
def tabL : List (FuncId × Ent) := [(F_quartolaw17_SeekNames, .pf p_quartolaw17_SeekNames), (F_quartolaw17_small, .pf p_quartolaw17_small), (F_quartolaw17_works, .pf p_quartolaw17_works), (F_seek_Leaf, .pf p_seek_Leaf), (F_quartokit_EqualHandles, .pf p_quartokit_EqualHandles), (F_seek_Byte, .pf p_seek_Byte), (F_quartolaw17_number, .pf p_quartolaw17_number), (F_seek_Rune, .pf p_seek_Rune), (F_seek_RunesBefore, .pf p_seek_RunesBefore), (F_seek_Line, .pf p_seek_Line), (F_seek_LineOf, .pf p_seek_LineOf), (F_seek_Boundary, .pf p_seek_Boundary), (F_rope_Write, .pf p_rope_Write), (F_rope_New, .pf p_rope_New), (F_plan_Build, .pf p_plan_Build), (F_rope_Begin, .pf p_rope_Begin), (F_rope_Pen_Root, .pf p_rope_Pen_Root), (F_rope_Pen_Step, .pf p_rope_Pen_Step), (F_arena_New, .pf p_arena_New), (F_seek_check, .pf p_seek_check), (F_seek_walk, .pf p_seek_walk), (F_node_Child, .pf p_node_Child), (F_seek_LeafC1, .pf p_seek_LeafC1), (F_quartolaw17_numberC1, .pf p_quartolaw17_numberC1), (F_seek_offset, .pf p_seek_offset), (F_node_Rune, .pf p_node_Rune), (F_measure_Rune, .pf p_measure_Rune), (F_seek_before, .pf p_seek_before), (F_seek_RunesBeforeC1, .pf p_seek_RunesBeforeC1), (F_measure_RunesBefore, .pf p_measure_RunesBefore), (F_node_Line, .pf p_node_Line), (F_measure_Line, .pf p_measure_Line), (F_seek_LineOfC1, .pf p_seek_LineOfC1), (F_measure_LineOf, .pf p_measure_LineOf), (F_plan_same, .pf p_plan_same), (F_plan_Check, .pf p_plan_Check), (F_plan_bytes, .pf p_plan_bytes), (F_chunk_Chunks, .pf p_chunk_Chunks), (F_chunk_Even, .pf p_chunk_Even), (F_plan_group, .pf p_plan_group), (F_plan_New, .pf p_plan_New), (F_arena_Arena_Stats, .pf p_arena_Arena_Stats), (F_rope_Pen_add, .pf p_rope_Pen_add), (F_freelist_New, .pf p_freelist_New), (F_arena_Arena_Get, .pf p_arena_Arena_Get), (F_node_Measure, .pf p_node_Measure), (F_node_choose, .pf p_node_choose), (F_node_ChildC1, .pf p_node_ChildC1), (F_seek_offsetC1, .pf p_seek_offsetC1), (F_node_RuneC1, .pf p_node_RuneC1), (F_measure_find, .pf p_measure_find), (F_measure_begins, .pf p_measure_begins), (F_measure_count, .pf p_measure_count), (F_seek_beforeC1, .pf p_seek_beforeC1), (F_measure_before, .pf p_measure_before), (F_node_LineC1, .pf p_node_LineC1), (F_node_LineC2, .pf p_node_LineC2), (F_measure_feeds, .pf p_measure_feeds), (F_plan_kind, .pf p_plan_kind), (F_plan_check, .pf p_plan_check), (F_chunk_sizes, .pf p_chunk_sizes), (F_freelist_List_Free, .pf p_freelist_List_Free), (F_freelist_List_Withdrawn, .pf p_freelist_List_Withdrawn), (F_rope_Pen_put, .pf p_rope_Pen_put), (F_rope_Pen_addC1, .pf p_rope_Pen_addC1), (F_rope_Pen_addC2, .pf p_rope_Pen_addC2), (F_node_Check, .pf p_node_Check), (F_node_sum, .pf p_node_sum), (F_chunk_sizesC1, .pf p_chunk_sizesC1), (F_freelist_List_slots, .pf p_freelist_List_slots), (F_rope_Pen_putC1, .pf p_rope_Pen_putC1), (F_arena_Arena_Alloc, .pf p_arena_Arena_Alloc), (F_node_formed, .pf p_node_formed), (F_measure_Of, .pf p_measure_Of), (F_measure_Add, .pf p_measure_Add), (F_freelist_List_Take, .pf p_freelist_List_Take), (F_node_bounds, .pf p_node_bounds), (F_handle_Check, .pf p_handle_Check), (F_measure_every, .pf p_measure_every), (F_measure_measured, .pf p_measure_measured), (F_handle_parts, .pf p_handle_parts), (F_handle_Make, .pf p_handle_Make)]
theorem tab_all : AllOk Go.Proofs.Try.prog tabL := ⟨⟨Go.Proofs.Try.call3, _, _, _, Go.Proofs.Try.func3, c_quartolaw17_SeekNames⟩, ⟨⟨Go.Proofs.Try.call5, _, _, _, Go.Proofs.Try.func5, c_quartolaw17_small⟩, ⟨⟨Go.Proofs.Try.call6, _, _, _, Go.Proofs.Try.func6, c_quartolaw17_works⟩, ⟨⟨Go.Proofs.Try.call7, _, _, _, Go.Proofs.Try.func7, c_seek_Leaf⟩, ⟨⟨Go.Proofs.Try.call8, _, _, _, Go.Proofs.Try.func8, c_quartokit_EqualHandles⟩, ⟨⟨Go.Proofs.Try.call9, _, _, _, Go.Proofs.Try.func9, c_seek_Byte⟩, ⟨⟨Go.Proofs.Try.call10, _, _, _, Go.Proofs.Try.func10, c_quartolaw17_number⟩, ⟨⟨Go.Proofs.Try.call11, _, _, _, Go.Proofs.Try.func11, c_seek_Rune⟩, ⟨⟨Go.Proofs.Try.call12, _, _, _, Go.Proofs.Try.func12, c_seek_RunesBefore⟩, ⟨⟨Go.Proofs.Try.call13, _, _, _, Go.Proofs.Try.func13, c_seek_Line⟩, ⟨⟨Go.Proofs.Try.call14, _, _, _, Go.Proofs.Try.func14, c_seek_LineOf⟩, ⟨⟨Go.Proofs.Try.call15, _, _, _, Go.Proofs.Try.func15, c_seek_Boundary⟩, ⟨⟨Go.Proofs.Try.call23, _, _, _, Go.Proofs.Try.func23, c_rope_Write⟩, ⟨⟨Go.Proofs.Try.call26, _, _, _, Go.Proofs.Try.func26, c_rope_New⟩, ⟨⟨Go.Proofs.Try.call27, _, _, _, Go.Proofs.Try.func27, c_plan_Build⟩, ⟨⟨Go.Proofs.Try.call28, _, _, _, Go.Proofs.Try.func28, c_rope_Begin⟩, ⟨⟨Go.Proofs.Try.call29, _, _, _, Go.Proofs.Try.func29, c_rope_Pen_Root⟩, ⟨⟨Go.Proofs.Try.call30, _, _, _, Go.Proofs.Try.func30, c_rope_Pen_Step⟩, ⟨⟨Go.Proofs.Try.call33, _, _, _, Go.Proofs.Try.func33, c_arena_New⟩, ⟨⟨Go.Proofs.Try.call34, _, _, _, Go.Proofs.Try.func34, c_seek_check⟩, ⟨⟨Go.Proofs.Try.call35, _, _, _, Go.Proofs.Try.func35, c_seek_walk⟩, ⟨⟨Go.Proofs.Try.call36, _, _, _, Go.Proofs.Try.func36, c_node_Child⟩, ⟨⟨Go.Proofs.Try.call37, _, _, _, Go.Proofs.Try.func37, c_seek_LeafC1⟩, ⟨⟨Go.Proofs.Try.call38, _, _, _, Go.Proofs.Try.func38, c_quartolaw17_numberC1⟩, ⟨⟨Go.Proofs.Try.call39, _, _, _, Go.Proofs.Try.func39, c_seek_offset⟩, ⟨⟨Go.Proofs.Try.call40, _, _, _, Go.Proofs.Try.func40, c_node_Rune⟩, ⟨⟨Go.Proofs.Try.call41, _, _, _, Go.Proofs.Try.func41, c_measure_Rune⟩, ⟨⟨Go.Proofs.Try.call42, _, _, _, Go.Proofs.Try.func42, c_seek_before⟩, ⟨⟨Go.Proofs.Try.call43, _, _, _, Go.Proofs.Try.func43, c_seek_RunesBeforeC1⟩, ⟨⟨Go.Proofs.Try.call44, _, _, _, Go.Proofs.Try.func44, c_measure_RunesBefore⟩, ⟨⟨Go.Proofs.Try.call45, _, _, _, Go.Proofs.Try.func45, c_node_Line⟩, ⟨⟨Go.Proofs.Try.call46, _, _, _, Go.Proofs.Try.func46, c_measure_Line⟩, ⟨⟨Go.Proofs.Try.call47, _, _, _, Go.Proofs.Try.func47, c_seek_LineOfC1⟩, ⟨⟨Go.Proofs.Try.call48, _, _, _, Go.Proofs.Try.func48, c_measure_LineOf⟩, ⟨⟨Go.Proofs.Try.call50, _, _, _, Go.Proofs.Try.func50, c_plan_same⟩, ⟨⟨Go.Proofs.Try.call51, _, _, _, Go.Proofs.Try.func51, c_plan_Check⟩, ⟨⟨Go.Proofs.Try.call52, _, _, _, Go.Proofs.Try.func52, c_plan_bytes⟩, ⟨⟨Go.Proofs.Try.call57, _, _, _, Go.Proofs.Try.func57, c_chunk_Chunks⟩, ⟨⟨Go.Proofs.Try.call58, _, _, _, Go.Proofs.Try.func58, c_chunk_Even⟩, ⟨⟨Go.Proofs.Try.call59, _, _, _, Go.Proofs.Try.func59, c_plan_group⟩, ⟨⟨Go.Proofs.Try.call60, _, _, _, Go.Proofs.Try.func60, c_plan_New⟩, ⟨⟨Go.Proofs.Try.call61, _, _, _, Go.Proofs.Try.func61, c_arena_Arena_Stats⟩, ⟨⟨Go.Proofs.Try.call62, _, _, _, Go.Proofs.Try.func62, c_rope_Pen_add⟩, ⟨⟨Go.Proofs.Try.call69, _, _, _, Go.Proofs.Try.func69, c_freelist_New⟩, ⟨⟨Go.Proofs.Try.call70, _, _, _, Go.Proofs.Try.func70, c_arena_Arena_Get⟩, ⟨⟨Go.Proofs.Try.call71, _, _, _, Go.Proofs.Try.func71, c_node_Measure⟩, ⟨⟨Go.Proofs.Try.call72, _, _, _, Go.Proofs.Try.func72, c_node_choose⟩, ⟨⟨Go.Proofs.Try.call73, _, _, _, Go.Proofs.Try.func73, c_node_ChildC1⟩, ⟨⟨Go.Proofs.Try.call74, _, _, _, Go.Proofs.Try.func74, c_seek_offsetC1⟩, ⟨⟨Go.Proofs.Try.call75, _, _, _, Go.Proofs.Try.func75, c_node_RuneC1⟩, ⟨⟨Go.Proofs.Try.call76, _, _, _, Go.Proofs.Try.func76, c_measure_find⟩, ⟨⟨Go.Proofs.Try.call77, _, _, _, Go.Proofs.Try.func77, c_measure_begins⟩, ⟨⟨Go.Proofs.Try.call78, _, _, _, Go.Proofs.Try.func78, c_measure_count⟩, ⟨⟨Go.Proofs.Try.call79, _, _, _, Go.Proofs.Try.func79, c_seek_beforeC1⟩, ⟨⟨Go.Proofs.Try.call80, _, _, _, Go.Proofs.Try.func80, c_measure_before⟩, ⟨⟨Go.Proofs.Try.call81, _, _, _, Go.Proofs.Try.func81, c_node_LineC1⟩, ⟨⟨Go.Proofs.Try.call82, _, _, _, Go.Proofs.Try.func82, c_node_LineC2⟩, ⟨⟨Go.Proofs.Try.call83, _, _, _, Go.Proofs.Try.func83, c_measure_feeds⟩, ⟨⟨Go.Proofs.Try.call86, _, _, _, Go.Proofs.Try.func86, c_plan_kind⟩, ⟨⟨Go.Proofs.Try.call87, _, _, _, Go.Proofs.Try.func87, c_plan_check⟩, ⟨⟨Go.Proofs.Try.call93, _, _, _, Go.Proofs.Try.func93, c_chunk_sizes⟩, ⟨⟨Go.Proofs.Try.call94, _, _, _, Go.Proofs.Try.func94, c_freelist_List_Free⟩, ⟨⟨Go.Proofs.Try.call95, _, _, _, Go.Proofs.Try.func95, c_freelist_List_Withdrawn⟩, ⟨⟨Go.Proofs.Try.call96, _, _, _, Go.Proofs.Try.func96, c_rope_Pen_put⟩, ⟨⟨Go.Proofs.Try.call97, _, _, _, Go.Proofs.Try.func97, c_rope_Pen_addC1⟩, ⟨⟨Go.Proofs.Try.call98, _, _, _, Go.Proofs.Try.func98, c_rope_Pen_addC2⟩, ⟨⟨Go.Proofs.Try.call105, _, _, _, Go.Proofs.Try.func105, c_node_Check⟩, ⟨⟨Go.Proofs.Try.call106, _, _, _, Go.Proofs.Try.func106, c_node_sum⟩, ⟨⟨Go.Proofs.Try.call111, _, _, _, Go.Proofs.Try.func111, c_chunk_sizesC1⟩, ⟨⟨Go.Proofs.Try.call112, _, _, _, Go.Proofs.Try.func112, c_freelist_List_slots⟩, ⟨⟨Go.Proofs.Try.call113, _, _, _, Go.Proofs.Try.func113, c_rope_Pen_putC1⟩, ⟨⟨Go.Proofs.Try.call114, _, _, _, Go.Proofs.Try.func114, c_arena_Arena_Alloc⟩, ⟨⟨Go.Proofs.Try.call117, _, _, _, Go.Proofs.Try.func117, c_node_formed⟩, ⟨⟨Go.Proofs.Try.call118, _, _, _, Go.Proofs.Try.func118, c_measure_Of⟩, ⟨⟨Go.Proofs.Try.call119, _, _, _, Go.Proofs.Try.func119, c_measure_Add⟩, ⟨⟨Go.Proofs.Try.call123, _, _, _, Go.Proofs.Try.func123, c_freelist_List_Take⟩, ⟨⟨Go.Proofs.Try.call124, _, _, _, Go.Proofs.Try.func124, c_node_bounds⟩, ⟨⟨Go.Proofs.Try.call125, _, _, _, Go.Proofs.Try.func125, c_handle_Check⟩, ⟨⟨Go.Proofs.Try.call126, _, _, _, Go.Proofs.Try.func126, c_measure_every⟩, ⟨⟨Go.Proofs.Try.call127, _, _, _, Go.Proofs.Try.func127, c_measure_measured⟩, ⟨⟨Go.Proofs.Try.call128, _, _, _, Go.Proofs.Try.func128, c_handle_parts⟩, ⟨⟨Go.Proofs.Try.call129, _, _, _, Go.Proofs.Try.func129, c_handle_Make⟩, trivial⟩⟩⟩⟩⟩⟩⟩⟩⟩⟩⟩⟩⟩⟩⟩⟩⟩⟩⟩⟩⟩⟩⟩⟩⟩⟩⟩⟩⟩⟩⟩⟩⟩⟩⟩⟩⟩⟩⟩⟩⟩⟩⟩⟩⟩⟩⟩⟩⟩⟩⟩⟩⟩⟩⟩⟩⟩⟩⟩⟩⟩⟩⟩⟩⟩⟩⟩⟩⟩⟩⟩⟩⟩⟩⟩⟩⟩⟩⟩⟩⟩⟩
end Go.Q17
