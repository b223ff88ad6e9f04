/- Resolved code, printed by program. No condition. -/
import Derived.Test.YtjlmaolamafdmaaGreatProg
import Derived.KernelRfl
import Derived.Test.YtjlmaolamafdmaaGreatCuT3
set_option linter.unusedVariables false
set_option linter.unusedSimpArgs false
namespace Go.QZ
open Go Go.QAbs
set_option maxRecDepth 100000
abbrev F_gosem_cut:FuncId:=1
abbrev F_gosem_cut_init:FuncId:=2
abbrev F_quartolaw15_PlanNames:FuncId:=3
abbrev F_quartolaw21_CursorNames:FuncId:=4
abbrev F_quartolaw19_EditNames:FuncId:=5
abbrev F_quartolaw18_SliceNames:FuncId:=6
abbrev F_quartolaw22_ReachNames:FuncId:=7
abbrev F_quartolaw15_Lay:FuncId:=8
abbrev F_quartolaw15_two:FuncId:=9
abbrev F_quartolaw15_works:FuncId:=10
abbrev F_plan_Keep:FuncId:=11
abbrev F_quartokit_EqualHandles:FuncId:=12
abbrev F_plan_Kept:FuncId:=13
abbrev F_plan_New:FuncId:=14
abbrev F_plan_Cut:FuncId:=15
abbrev F_plan_Replace:FuncId:=16
abbrev F_plan_Dropped:FuncId:=17
abbrev F_plan_Concat:FuncId:=18
abbrev F_plan_Merge:FuncId:=19
abbrev F_plan_Build:FuncId:=20
abbrev F_strings_Repeat:FuncId:=21
abbrev F_plan_Text:FuncId:=22
abbrev F_plan_Check:FuncId:=23
abbrev F_quartolaw21_small:FuncId:=24
abbrev F_quartolaw21_works:FuncId:=25
abbrev F_cursor_New:FuncId:=26
abbrev F_cursor_Cursor_At:FuncId:=27
abbrev F_cursor_Cursor_Visited:FuncId:=28
abbrev F_cursor_Cursor_Next:FuncId:=29
abbrev F_cursor_Cursor_Seek:FuncId:=30
abbrev F_cursor_Cursor_Prev:FuncId:=31
abbrev F_cursor_Cursor_Read:FuncId:=32
abbrev F_cursor_Cursor_NextLine:FuncId:=33
abbrev F_cursor_Cursor_PrevLine:FuncId:=34
abbrev F_rope_Free:FuncId:=35
abbrev F_arena_Arena_Stats:FuncId:=36
abbrev F_quartolaw19_small:FuncId:=37
abbrev F_quartolaw19_works:FuncId:=38
abbrev F_edit_Needs:FuncId:=39
abbrev F_edit_Insert:FuncId:=40
abbrev F_quartokit_EqualChange:FuncId:=41
abbrev F_edit_Undo:FuncId:=42
abbrev F_edit_Append:FuncId:=43
abbrev F_edit_Delete:FuncId:=44
abbrev F_edit_Replace:FuncId:=45
abbrev F_edit_Plan:FuncId:=46
abbrev F_quartolaw18_small:FuncId:=47
abbrev F_quartolaw18_works:FuncId:=48
abbrev F_slice_Pieces:FuncId:=49
abbrev F_slice_Read:FuncId:=50
abbrev F_quartokit_EqualStrings:FuncId:=51
abbrev F_slice_Measure:FuncId:=52
abbrev F_slice_Compare:FuncId:=53
abbrev F_slice_Find:FuncId:=54
abbrev F_slice_Copy:FuncId:=55
abbrev F_quartolaw22_small:FuncId:=56
abbrev F_quartolaw22_works:FuncId:=57
abbrev F_quartolaw22_ReachNamesC1:FuncId:=58
abbrev F_quartolaw22_list:FuncId:=59
abbrev F_reach_Set:FuncId:=60
abbrev F_reach_Shared:FuncId:=61
abbrev F_reach_Dropped:FuncId:=62
abbrev F_reach_Audit:FuncId:=63
abbrev F_reach_Leaked:FuncId:=64
abbrev F_arena_Arena_Free:FuncId:=65
abbrev F_arena_New:FuncId:=66
abbrev F_quartoref13_New:FuncId:=67
abbrev F_quartoref15_Built:FuncId:=68
abbrev F_quartolaw15_Write:FuncId:=69
abbrev F_arena_Arena_Alloc:FuncId:=70
abbrev F_quartoref13_Arena_Alloc:FuncId:=71
abbrev F_plan_same:FuncId:=72
abbrev F_plan_KeptC1:FuncId:=73
abbrev F_plan_kind:FuncId:=74
abbrev F_plan_bytes:FuncId:=75
abbrev F_plan_cut:FuncId:=76
abbrev F_plan_own:FuncId:=77
abbrev F_plan_concat:FuncId:=78
abbrev F_plan_below:FuncId:=79
abbrev F_plan_DroppedC1:FuncId:=80
abbrev F_plan_DroppedC2:FuncId:=81
abbrev F_plan_both:FuncId:=82
abbrev F_plan_merge:FuncId:=83
abbrev F_plan_all:FuncId:=84
abbrev F_chunk_Chunks:FuncId:=85
abbrev F_chunk_Even:FuncId:=86
abbrev F_plan_group:FuncId:=87
abbrev F_math_bits_Mul:FuncId:=88
abbrev F_strings_HasPrefix:FuncId:=89
abbrev F_strings_Builder_WriteString:FuncId:=91
abbrev F_strings_Builder_Len:FuncId:=92
abbrev F_plan_TextC1:FuncId:=94
abbrev F_plan_line:FuncId:=95
abbrev F_plan_children:FuncId:=96
abbrev F_plan_check:FuncId:=97
abbrev F_rope_New:FuncId:=98
abbrev F_cursor_check:FuncId:=99
abbrev F_cursor_path_enter:FuncId:=100
abbrev F_cursor_Cursor_ready:FuncId:=101
abbrev F_cursor_Cursor_forward:FuncId:=102
abbrev F_cursor_Cursor_NextC1:FuncId:=103
abbrev F_cursor_cont:FuncId:=104
abbrev F_cursor_Cursor_jump:FuncId:=105
abbrev F_cursor_Cursor_PrevC1:FuncId:=106
abbrev F_cursor_path_leaf:FuncId:=107
abbrev F_cursor_Cursor_ReadC1:FuncId:=108
abbrev F_seek_LineOf:FuncId:=109
abbrev F_seek_Line:FuncId:=110
abbrev F_rope_Nodes:FuncId:=111
abbrev F_freelist_List_Free:FuncId:=112
abbrev F_freelist_List_Withdrawn:FuncId:=113
abbrev F_rope_Text:FuncId:=114
abbrev F_arena_Arena_Live:FuncId:=115
abbrev F_edit_change:FuncId:=116
abbrev F_edit_AppendC1:FuncId:=117
abbrev F_edit_ReplaceC1:FuncId:=118
abbrev F_slice_check:FuncId:=119
abbrev F_slice_parts:FuncId:=120
abbrev F_strings_Join:FuncId:=121
abbrev F_seek_RunesBefore:FuncId:=122
abbrev F_strings_Compare:FuncId:=123
abbrev F_strings_Index:FuncId:=124
abbrev F_rope_Write:FuncId:=125
abbrev F_quartolaw22_listC1:FuncId:=126
abbrev F_reach_counts:FuncId:=127
abbrev F_reach_atLeast:FuncId:=128
abbrev F_reach_parts:FuncId:=129
abbrev F_arena_Arena_Slots:FuncId:=130
abbrev F_freelist_List_Give:FuncId:=131
abbrev F_freelist_New:FuncId:=132
abbrev F_quartoref11_New:FuncId:=133
abbrev F_quartoref14_Chunks:FuncId:=134
abbrev F_quartoref15_leaf:FuncId:=135
abbrev F_quartoref14_Sizes:FuncId:=136
abbrev F_quartoref15_inner:FuncId:=137
abbrev F_quartoref15_group:FuncId:=138
abbrev F_quartoref15_Zero:FuncId:=139
abbrev F_quartolaw15_Measure:FuncId:=140
abbrev F_node_Check:FuncId:=141
abbrev F_node_Measure:FuncId:=142
abbrev F_freelist_List_Take:FuncId:=143
abbrev F_slices_Clone_api_Kid_api_Kid:FuncId:=144
abbrev F_quartoref12_Check:FuncId:=145
abbrev F_quartoref13_Arena_kids:FuncId:=146
abbrev F_quartoref11_List_Take:FuncId:=147
abbrev F_quartoref12_CopyNode:FuncId:=148
abbrev F_arena_Arena_Get:FuncId:=149
abbrev F_chunk_Cut:FuncId:=150
abbrev F_plan_leaves:FuncId:=151
abbrev F_plan_fold:FuncId:=152
abbrev F_chunk_sizes:FuncId:=153
abbrev F_math_bits_Mul32:FuncId:=154
abbrev F_math_bits_Mul64:FuncId:=155
abbrev F_internal_stringslite_HasPrefix:FuncId:=156
abbrev F_strings_Builder_copyCheck:FuncId:=157
abbrev F_seek_Boundary:FuncId:=159
abbrev F_cursor_path_visit:FuncId:=160
abbrev F_cursor_Cursor_forwardC1:FuncId:=161
abbrev F_cursor_path_stands:FuncId:=162
abbrev F_seek_before:FuncId:=163
abbrev F_seek_LineOfC1:FuncId:=164
abbrev F_measure_LineOf:FuncId:=165
abbrev F_seek_check:FuncId:=166
abbrev F_seek_offset:FuncId:=167
abbrev F_node_Line:FuncId:=168
abbrev F_measure_Line:FuncId:=169
abbrev F_rope_Check:FuncId:=170
abbrev F_rope_nodes:FuncId:=171
abbrev F_freelist_List_slots:FuncId:=172
abbrev F_rope_Leaves:FuncId:=173
abbrev F_freelist_List_Live:FuncId:=174
abbrev F_slice_partsC1:FuncId:=175
abbrev F_seek_Leaf:FuncId:=176
abbrev F_seek_RunesBeforeC1:FuncId:=177
abbrev F_measure_RunesBefore:FuncId:=178
abbrev F_internal_bytealg_CompareString:FuncId:=179
abbrev F_internal_stringslite_Index:FuncId:=180
abbrev F_rope_Begin:FuncId:=181
abbrev F_rope_Pen_Step:FuncId:=182
abbrev F_rope_Pen_Root:FuncId:=183
abbrev F_handle_Sort:FuncId:=184
abbrev F_arena_Arena_Handles:FuncId:=185
abbrev F_freelist_List_slot:FuncId:=186
abbrev F_node_formed:FuncId:=187
abbrev F_node_sum:FuncId:=188
abbrev F_handle_Make:FuncId:=189
abbrev F_quartoref12_formed:FuncId:=190
abbrev F_quartoref12_sum:FuncId:=191
abbrev F_quartoref13_Arena_find:FuncId:=192
abbrev F_quartoref12_Measure:FuncId:=193
abbrev F_quartoref10_Make:FuncId:=194
abbrev F_quartokit_CopyKids:FuncId:=195
abbrev F_chunk_leaf:FuncId:=196
abbrev F_chunk_Join:FuncId:=197
abbrev F_chunk_sizesC1:FuncId:=198
abbrev F_seek_Byte:FuncId:=201
abbrev F_seek_walk:FuncId:=202
abbrev F_node_Child:FuncId:=203
abbrev F_seek_beforeC1:FuncId:=204
abbrev F_measure_before:FuncId:=205
abbrev F_measure_feeds:FuncId:=206
abbrev F_seek_offsetC1:FuncId:=207
abbrev F_node_choose:FuncId:=208
abbrev F_node_LineC1:FuncId:=209
abbrev F_node_LineC2:FuncId:=210
abbrev F_measure_find:FuncId:=211
abbrev F_rope_nodesC1:FuncId:=212
abbrev F_rope_nodesC1C1:FuncId:=213
abbrev F_seek_LeafC1:FuncId:=214
abbrev F_measure_begins:FuncId:=215
abbrev F_internal_bytealg_abigen_runtime_cmpstring:FuncId:=216
abbrev F_internal_stringslite_IndexByte:FuncId:=217
abbrev F_internal_bytealg_Cutover:FuncId:=219
abbrev F_internal_bytealg_IndexRabinKarp_string:FuncId:=220
abbrev F_rope_Pen_add:FuncId:=221
abbrev F_slices_Clone_api_Handle_api_Handle:FuncId:=222
abbrev F_slices_SortFunc_api_Handle_api_Handle:FuncId:=223
abbrev F_handle_SortC1:FuncId:=224
abbrev F_slices_Compact_api_Handle_api_Handle:FuncId:=225
abbrev F_freelist_List_Handles:FuncId:=226
abbrev F_handle_Slot:FuncId:=227
abbrev F_handle_Gen:FuncId:=228
abbrev F_node_bounds:FuncId:=229
abbrev F_handle_Check:FuncId:=230
abbrev F_measure_Of:FuncId:=231
abbrev F_measure_Add:FuncId:=232
abbrev F_quartoref12_kid:FuncId:=233
abbrev F_quartoref02_Of:FuncId:=234
abbrev F_node_ChildC1:FuncId:=235
abbrev F_measure_count:FuncId:=236
abbrev F_internal_bytealg_IndexByteString:FuncId:=237
abbrev F_internal_bytealg_hashStr_string:FuncId:=238
abbrev F_rope_Pen_put:FuncId:=239
abbrev F_rope_Pen_addC1:FuncId:=240
abbrev F_rope_Pen_addC2:FuncId:=241
abbrev F_slices_pdqsortCmpFunc_api_Handle:FuncId:=242
abbrev F_math_bits_Len:FuncId:=243
abbrev F_handle_parts:FuncId:=244
abbrev F_measure_every:FuncId:=245
abbrev F_measure_measured:FuncId:=246
abbrev F_quartoref10_Check:FuncId:=247
abbrev F_quartoref01_Count:FuncId:=248
abbrev F_rope_Pen_putC1:FuncId:=249
abbrev F_slices_insertionSortCmpFunc_api_Handle:FuncId:=250
abbrev F_slices_heapSortCmpFunc_api_Handle:FuncId:=251
abbrev F_slices_breakPatternsCmpFunc_api_Handle:FuncId:=252
abbrev F_slices_choosePivotCmpFunc_api_Handle:FuncId:=253
abbrev F_slices_reverseRangeCmpFunc_api_Handle:FuncId:=254
abbrev F_slices_partialInsertionSortCmpFunc_api_Handle:FuncId:=255
abbrev F_slices_partitionEqualCmpFunc_api_Handle:FuncId:=256
abbrev F_slices_partitionCmpFunc_api_Handle:FuncId:=257
abbrev F_math_bits_Len32:FuncId:=258
abbrev F_math_bits_Len64:FuncId:=259
abbrev F_quartoref01_Cont:FuncId:=260
abbrev F_slices_siftDownCmpFunc_api_Handle:FuncId:=261
abbrev F_slices_nextPowerOfTwo:FuncId:=262
abbrev F_slices_xorshift_Next:FuncId:=263
abbrev F_slices_medianAdjacentCmpFunc_api_Handle:FuncId:=264
abbrev F_slices_medianCmpFunc_api_Handle:FuncId:=265
abbrev F_slices_order2CmpFunc_api_Handle:FuncId:=266
abbrev I (d:Nat) (o:PO):PI:=⟨some d,none,false,o⟩
abbrev G (d g:Nat) (b:Bool) (o:PO):PI:=⟨some d,some (g,b),false,o⟩
abbrev J (o:PO):PI:=⟨none,none,false,o⟩
abbrev C (f:FuncId) (a:List Opd):PO:=.call .norm (.v (.func (.func f) [] [])) a
abbrev H (k:List Nat):Hint:=⟨k,[],[],[],[],[]⟩
abbrev V (i:Int):Opd:=.v (.int .i64 i)
abbrev ZT:AV:=.agg [(.int .u64 0),(.int .i64 0),(.int .i64 0),(.int .i64 0),(.int .i64 0),(.str []),.nils]
abbrev ZR:AV:=.agg [(.int .u64 0),(.int .i64 0),(.int .i64 0),(.int .i64 0),(.int .i64 0)]
abbrev ZM:AV:=.agg [(.int .i64 0),(.int .i64 0),(.int .i64 0)]
abbrev ZN:AV:=.agg [(.int .i64 0),(.str []),.nils]
abbrev ZK:AV:=.agg [(.int .u64 0),(.int .i64 0),(.int .i64 0),(.int .i64 0)]
def h_quartolaw21_CursorNames:List Hint:=[H [],H [1,2,3],H [1,2,30],H [0],H [1,2,4,5],H [1,2,4,52],H [0],H [1,2,4,6,7],H [1,2,4,73],H [0],H [1,2,4,6,7],H [1,2,4,94],H [0],H [1,2,4,6,7],H [1,2,4,130],H [0],H [1,2,4,7],H [1,2,4,6,7,8],H [1,2,4,170],H [0],H [1,2,4,7],H [1,2,4,7,8],H [1,2,4,206],H [0],H [1,2,4,5,9],H [1,2,4,9,243],H [0],H [1,2,4,5,6,9],H [1,2,4,9,254],H [0],H [1,2,4,7,9],H [1,2,4,7,8,9],H [1,2,4,7,8,9,11],H [1,2,4,7,8,9,11,13],H [1,2,4,9,293],H [0],H [1,2,4,9,14],H [1,2,4,7,9,14],H [1,2,4,7,8,9,14],H [1,2,4,7,8,9,11,14],H [1,2,4,9,343],H [0],H [1,4,9],H [1,4,9,15],H [1,4,7,9,15],H [1,4,7,8,9,15],H [0]]
def p_quartolaw21_CursorNames_0:PC :=
 (.reg [] [I 0 (.mv (.v (.bool false)))])
def p_quartolaw21_CursorNames_1:PC :=
 (.reg [1,2,3] [I 17 (C F_quartolaw21_small []),I 16 (.mv (.s 17)),I 18 (.ext (.s 16) 0),I 19 (.ext (.s 16) 1),I 20 (.ext (.s 16) 2),I 2 (.box (.v ZR)),I 1 (.mv (.s 18)),J (.st 5 (.s 2) (.s 19)),I 3 (.mv (.s 20))])
def p_quartolaw21_CursorNames_2:PC :=
 (.reg [1,2,30] [I 21 (.mv (.s 3)),I 22 (.un .not (.s 21)),I 23 (.mv (.s 22)),G 24 23 false (C F_quartolaw21_works []),G 25 23 false (.un .not (.s 24)),I 26 (.pick (.s 23) (.v (.bool true)) (.s 25)),I 27 (.mv (.s 26)),I 28 (.pick (.s 27) (.v (.bool true)) (.v (.bool false))),I 29 (.mv (.s 28)),I 30 (.pick (.s 29) (.v (.bool true)) (.v (.bool false)))])
def p_quartolaw21_CursorNames_3:PC :=
 (.reg [0] [I 0 (.mv (.v (.bool false)))])
def p_quartolaw21_CursorNames_4:PC :=
 (.reg [1,2,4,5] [I 32 (.mv (.s 1)),I 33 (.ld true 5 (.s 2)),I 34 (C F_cursor_New [(.s 32),(.s 33)]),I 31 (.mv (.s 34)),I 35 (.ext (.s 31) 0),I 36 (.ext (.s 31) 1),I 4 (.mv (.s 35)),I 5 (.mv (.s 36))])
def p_quartolaw21_CursorNames_5:PC :=
 (.reg [1,2,4,52] [I 37 (.mv (.s 4)),I 38 (.eqs false 3 [] (.s 37) (.v .nilptr)),I 39 (.mv (.s 38)),G 40 39 false (.mv (.s 5)),G 41 39 false (.bin .neq (.s 40) (V 0)),I 42 (.pick (.s 39) (.v (.bool true)) (.s 41)),I 43 (.mv (.s 42)),G 44 43 false (.mv (.s 4)),G 45 43 false (C F_cursor_Cursor_At [(.s 44)]),G 46 43 false (.bin .neq (.s 45) (V 0)),I 47 (.pick (.s 43) (.v (.bool true)) (.s 46)),I 48 (.mv (.s 47)),G 49 48 false (.mv (.s 4)),G 50 48 false (C F_cursor_Cursor_Visited [(.s 49)]),G 51 48 false (.bin .neq (.s 50) (V 2)),I 52 (.pick (.s 48) (.v (.bool true)) (.s 51))])
def p_quartolaw21_CursorNames_6:PC :=
 (.reg [0] [I 0 (.mv (.v (.bool false)))])
def p_quartolaw21_CursorNames_7:PC :=
 (.reg [1,2,4,6,7] [I 54 (.mv (.s 4)),I 55 (C F_cursor_Cursor_Next [(.s 54)]),I 53 (.mv (.s 55)),I 56 (.ext (.s 53) 0),I 57 (.ext (.s 53) 1),I 6 (.mv (.s 56)),I 7 (.mv (.s 57))])
def p_quartolaw21_CursorNames_8:PC :=
 (.reg [1,2,4,73] [I 58 (.mv (.s 6)),I 59 (.bin .neq (.s 58) (.v (.str [97]))),I 60 (.mv (.s 59)),G 61 60 false (.mv (.s 7)),G 62 60 false (.bin .neq (.s 61) (V 0)),I 63 (.pick (.s 60) (.v (.bool true)) (.s 62)),I 64 (.mv (.s 63)),G 65 64 false (.mv (.s 4)),G 66 64 false (C F_cursor_Cursor_Seek [(.s 65),(V 9)]),G 67 64 false (.bin .neq (.s 66) (V 0)),I 68 (.pick (.s 64) (.v (.bool true)) (.s 67)),I 69 (.mv (.s 68)),G 70 69 false (.mv (.s 4)),G 71 69 false (C F_cursor_Cursor_Visited [(.s 70)]),G 72 69 false (.bin .neq (.s 71) (V 3)),I 73 (.pick (.s 69) (.v (.bool true)) (.s 72))])
def p_quartolaw21_CursorNames_9:PC :=
 (.reg [0] [I 0 (.mv (.v (.bool false)))])
def p_quartolaw21_CursorNames_10:PC :=
 (.reg [1,2,4,6,7] [I 75 (.mv (.s 4)),I 76 (C F_cursor_Cursor_Prev [(.s 75)]),I 74 (.mv (.s 76)),I 77 (.ext (.s 74) 0),I 78 (.ext (.s 74) 1),I 6 (.mv (.s 77)),I 7 (.mv (.s 78))])
def p_quartolaw21_CursorNames_11:PC :=
 (.reg [1,2,4,94] [I 79 (.mv (.s 6)),I 80 (.bin .neq (.s 79) (.v (.str [105]))),I 81 (.mv (.s 80)),G 82 81 false (.mv (.s 7)),G 83 81 false (.bin .neq (.s 82) (V 0)),I 84 (.pick (.s 81) (.v (.bool true)) (.s 83)),I 85 (.mv (.s 84)),G 86 85 false (.mv (.s 4)),G 87 85 false (C F_cursor_Cursor_At [(.s 86)]),G 88 85 false (.bin .neq (.s 87) (V 8)),I 89 (.pick (.s 85) (.v (.bool true)) (.s 88)),I 90 (.mv (.s 89)),G 91 90 false (.mv (.s 4)),G 92 90 false (C F_cursor_Cursor_Visited [(.s 91)]),G 93 90 false (.bin .neq (.s 92) (V 4)),I 94 (.pick (.s 90) (.v (.bool true)) (.s 93))])
def p_quartolaw21_CursorNames_12:PC :=
 (.reg [0] [I 0 (.mv (.v (.bool false)))])
def p_quartolaw21_CursorNames_13:PC :=
 (.reg [1,2,4,6,7] [I 96 (.mv (.s 4)),I 97 (C F_cursor_Cursor_Read [(.s 96),(V 3)]),I 95 (.mv (.s 97)),I 98 (.ext (.s 95) 0),I 99 (.ext (.s 95) 1),I 6 (.mv (.s 98)),I 7 (.mv (.s 99))])
def p_quartolaw21_CursorNames_14:PC :=
 (.reg [1,2,4,130] [I 100 (.mv (.s 6)),I 101 (.bin .neq (.s 100) (.v (.str [105,106,107]))),I 102 (.mv (.s 101)),G 103 102 false (.mv (.s 7)),G 104 102 false (.bin .neq (.s 103) (V 0)),I 105 (.pick (.s 102) (.v (.bool true)) (.s 104)),I 106 (.mv (.s 105)),G 107 106 false (.mv (.s 4)),G 108 106 false (C F_cursor_Cursor_At [(.s 107)]),G 109 106 false (.bin .neq (.s 108) (V 11)),I 110 (.pick (.s 106) (.v (.bool true)) (.s 109)),I 111 (.mv (.s 110)),G 112 111 false (.mv (.s 4)),G 113 111 false (C F_cursor_Cursor_Visited [(.s 112)]),G 114 111 false (.bin .neq (.s 113) (V 5)),I 115 (.pick (.s 111) (.v (.bool true)) (.s 114)),I 116 (.mv (.s 115)),G 117 116 false (.mv (.s 4)),G 118 116 false (C F_cursor_Cursor_NextLine [(.s 117)]),G 119 116 false (.bin .neq (.s 118) (V 3)),I 120 (.pick (.s 116) (.v (.bool true)) (.s 119)),I 121 (.mv (.s 120)),G 122 121 false (.mv (.s 4)),G 123 121 false (C F_cursor_Cursor_Seek [(.s 122),(V 17)]),G 124 121 false (.bin .neq (.s 123) (V 0)),I 125 (.pick (.s 121) (.v (.bool true)) (.s 124)),I 126 (.mv (.s 125)),G 127 126 false (.mv (.s 4)),G 128 126 false (C F_cursor_Cursor_Visited [(.s 127)]),G 129 126 false (.bin .neq (.s 128) (V 5)),I 130 (.pick (.s 126) (.v (.bool true)) (.s 129))])
def p_quartolaw21_CursorNames_15:PC :=
 (.reg [0] [I 0 (.mv (.v (.bool false)))])
def p_quartolaw21_CursorNames_16:PC :=
 (.reg [1,2,4,7] [I 132 (.mv (.s 4)),I 133 (C F_cursor_Cursor_Next [(.s 132)]),I 131 (.mv (.s 133)),I 134 (.ext (.s 131) 0),I 135 (.ext (.s 131) 1),I 7 (.mv (.s 135))])
def p_quartolaw21_CursorNames_17:PC :=
 (.reg [1,2,4,6,7,8] [I 137 (.mv (.s 4)),I 138 (C F_cursor_Cursor_Read [(.s 137),(V 5)]),I 136 (.mv (.s 138)),I 139 (.ext (.s 136) 0),I 140 (.ext (.s 136) 1),I 6 (.mv (.s 139)),I 8 (.mv (.s 140))])
def p_quartolaw21_CursorNames_18:PC :=
 (.reg [1,2,4,170] [I 141 (.mv (.s 7)),I 142 (.bin .neq (.s 141) (V 3)),I 143 (.mv (.s 142)),G 144 143 false (.mv (.s 6)),G 145 143 false (.bin .neq (.s 144) (.v (.str []))),I 146 (.pick (.s 143) (.v (.bool true)) (.s 145)),I 147 (.mv (.s 146)),G 148 147 false (.mv (.s 8)),G 149 147 false (.bin .neq (.s 148) (V 0)),I 150 (.pick (.s 147) (.v (.bool true)) (.s 149)),I 151 (.mv (.s 150)),G 152 151 false (.mv (.s 4)),G 153 151 false (C F_cursor_Cursor_PrevLine [(.s 152)]),G 154 151 false (.bin .neq (.s 153) (V 0)),I 155 (.pick (.s 151) (.v (.bool true)) (.s 154)),I 156 (.mv (.s 155)),G 157 156 false (.mv (.s 4)),G 158 156 false (C F_cursor_Cursor_At [(.s 157)]),G 159 156 false (.bin .neq (.s 158) (V 0)),I 160 (.pick (.s 156) (.v (.bool true)) (.s 159)),I 161 (.mv (.s 160)),G 162 161 false (.mv (.s 4)),G 163 161 false (C F_cursor_Cursor_Visited [(.s 162)]),G 164 161 false (.bin .neq (.s 163) (V 6)),I 165 (.pick (.s 161) (.v (.bool true)) (.s 164)),I 166 (.mv (.s 165)),G 167 166 false (.mv (.s 4)),G 168 166 false (C F_cursor_Cursor_PrevLine [(.s 167)]),G 169 166 false (.bin .neq (.s 168) (V 3)),I 170 (.pick (.s 166) (.v (.bool true)) (.s 169))])
def p_quartolaw21_CursorNames_19:PC :=
 (.reg [0] [I 0 (.mv (.v (.bool false)))])
def p_quartolaw21_CursorNames_20:PC :=
 (.reg [1,2,4,7] [I 172 (.mv (.s 4)),I 173 (C F_cursor_Cursor_Read [(.s 172),(.v (.int .i64 (-1)))]),I 171 (.mv (.s 173)),I 174 (.ext (.s 171) 0),I 175 (.ext (.s 171) 1),I 7 (.mv (.s 175))])
def p_quartolaw21_CursorNames_21:PC :=
 (.reg [1,2,4,7,8] [I 177 (.mv (.s 4)),I 178 (C F_cursor_Cursor_Prev [(.s 177)]),I 176 (.mv (.s 178)),I 179 (.ext (.s 176) 0),I 180 (.ext (.s 176) 1),I 8 (.mv (.s 180))])
def p_quartolaw21_CursorNames_22:PC :=
 (.reg [1,2,4,206] [I 181 (.mv (.s 7)),I 182 (.bin .neq (.s 181) (V 2)),I 183 (.mv (.s 182)),G 184 183 false (.mv (.s 8)),G 185 183 false (.bin .neq (.s 184) (V 3)),I 186 (.pick (.s 183) (.v (.bool true)) (.s 185)),I 187 (.mv (.s 186)),G 188 187 false (.mv (.s 4)),G 189 187 false (C F_cursor_Cursor_Seek [(.s 188),(.v (.int .i64 (-1)))]),G 190 187 false (.bin .neq (.s 189) (V 3)),I 191 (.pick (.s 187) (.v (.bool true)) (.s 190)),I 192 (.mv (.s 191)),G 193 192 false (.mv (.s 4)),G 194 192 false (C F_cursor_Cursor_Seek [(.s 193),(V 18)]),G 195 192 false (.bin .neq (.s 194) (V 3)),I 196 (.pick (.s 192) (.v (.bool true)) (.s 195)),I 197 (.mv (.s 196)),G 198 197 false (.mv (.s 4)),G 199 197 false (C F_cursor_Cursor_At [(.s 198)]),G 200 197 false (.bin .neq (.s 199) (V 0)),I 201 (.pick (.s 197) (.v (.bool true)) (.s 200)),I 202 (.mv (.s 201)),G 203 202 false (.mv (.s 4)),G 204 202 false (C F_cursor_Cursor_Visited [(.s 203)]),G 205 202 false (.bin .neq (.s 204) (V 6)),I 206 (.pick (.s 202) (.v (.bool true)) (.s 205))])
def p_quartolaw21_CursorNames_23:PC :=
 (.reg [0] [I 0 (.mv (.v (.bool false)))])
def p_quartolaw21_CursorNames_24:PC :=
 (.reg [1,2,4,5,9] [I 208 (.mv (.s 1)),I 209 (.build [(.int .u64 0),(.int .i64 0),(.int .i64 0),(.int .i64 0),(.int .i64 0)] []),I 210 (C F_cursor_New [(.s 208),(.s 209)]),I 207 (.mv (.s 210)),I 211 (.ext (.s 207) 0),I 212 (.ext (.s 207) 1),I 9 (.mv (.s 211)),I 5 (.mv (.s 212))])
def p_quartolaw21_CursorNames_25:PC :=
 (.reg [1,2,4,9,243] [I 213 (.mv (.s 9)),I 214 (.eqs false 3 [] (.s 213) (.v .nilptr)),I 215 (.mv (.s 214)),G 216 215 false (.mv (.s 5)),G 217 215 false (.bin .neq (.s 216) (V 0)),I 218 (.pick (.s 215) (.v (.bool true)) (.s 217)),I 219 (.mv (.s 218)),G 220 219 false (.mv (.s 9)),G 221 219 false (C F_cursor_Cursor_Visited [(.s 220)]),G 222 219 false (.bin .neq (.s 221) (V 0)),I 223 (.pick (.s 219) (.v (.bool true)) (.s 222)),I 224 (.mv (.s 223)),G 225 224 false (.mv (.s 9)),G 226 224 false (C F_cursor_Cursor_Seek [(.s 225),(V 0)]),G 227 224 false (.bin .neq (.s 226) (V 0)),I 228 (.pick (.s 224) (.v (.bool true)) (.s 227)),I 229 (.mv (.s 228)),G 230 229 false (.mv (.s 9)),G 231 229 false (C F_cursor_Cursor_NextLine [(.s 230)]),G 232 229 false (.bin .neq (.s 231) (V 3)),I 233 (.pick (.s 229) (.v (.bool true)) (.s 232)),I 234 (.mv (.s 233)),G 235 234 false (.mv (.s 9)),G 236 234 false (C F_cursor_Cursor_PrevLine [(.s 235)]),G 237 234 false (.bin .neq (.s 236) (V 3)),I 238 (.pick (.s 234) (.v (.bool true)) (.s 237)),I 239 (.mv (.s 238)),G 240 239 false (.mv (.s 9)),G 241 239 false (C F_cursor_Cursor_Visited [(.s 240)]),G 242 239 false (.bin .neq (.s 241) (V 0)),I 243 (.pick (.s 239) (.v (.bool true)) (.s 242))])
def p_quartolaw21_CursorNames_26:PC :=
 (.reg [0] [I 0 (.mv (.v (.bool false)))])
def p_quartolaw21_CursorNames_27:PC :=
 (.reg [1,2,4,5,6,9] [I 245 (.mv (.s 9)),I 246 (C F_cursor_Cursor_Read [(.s 245),(V 9)]),I 244 (.mv (.s 246)),I 247 (.ext (.s 244) 0),I 248 (.ext (.s 244) 1),I 6 (.mv (.s 247)),I 5 (.mv (.s 248))])
def p_quartolaw21_CursorNames_28:PC :=
 (.reg [1,2,4,9,254] [I 249 (.mv (.s 6)),I 250 (.bin .neq (.s 249) (.v (.str []))),I 251 (.mv (.s 250)),G 252 251 false (.mv (.s 5)),G 253 251 false (.bin .neq (.s 252) (V 0)),I 254 (.pick (.s 251) (.v (.bool true)) (.s 253))])
def p_quartolaw21_CursorNames_29:PC :=
 (.reg [0] [I 0 (.mv (.v (.bool false)))])
def p_quartolaw21_CursorNames_30:PC :=
 (.reg [1,2,4,7,9] [I 256 (.build [(.int .u64 0),(.int .i64 0),(.int .i64 0),(.int .i64 0),(.int .i64 0)] [(1,1,(V 1))]),I 257 (C F_cursor_New [(.v .nilptr),(.s 256)]),I 255 (.mv (.s 257)),I 258 (.ext (.s 255) 0),I 259 (.ext (.s 255) 1),I 7 (.mv (.s 259))])
def p_quartolaw21_CursorNames_31:PC :=
 (.reg [1,2,4,7,8,9] [I 261 (.mv (.s 1)),I 262 (.build [(.int .u64 0),(.int .i64 0),(.int .i64 0),(.int .i64 0),(.int .i64 0)] [(1,1,(V 1))]),I 263 (C F_cursor_New [(.s 261),(.s 262)]),I 260 (.mv (.s 263)),I 264 (.ext (.s 260) 0),I 265 (.ext (.s 260) 1),I 8 (.mv (.s 265))])
def p_quartolaw21_CursorNames_32:PC :=
 (.reg [1,2,4,7,8,9,11] [I 267 (.mv (.s 1)),I 268 (.build [(.int .u64 0),(.int .i64 0),(.int .i64 0),(.int .i64 0),(.int .i64 0)] [(0,1,(.v (.int .u64 65543)))]),I 269 (C F_cursor_New [(.s 267),(.s 268)]),I 266 (.mv (.s 269)),I 270 (.ext (.s 266) 0),I 271 (.ext (.s 266) 1),I 10 (.mv (.s 270)),I 11 (.mv (.s 271))])
def p_quartolaw21_CursorNames_33:PC :=
 (.reg [1,2,4,7,8,9,11,13] [I 273 (.mv (.s 1)),I 274 (.fadr 0 (.s 2)),I 275 (.ld false 1 (.s 274)),I 276 (.build [(.int .u64 0),(.int .i64 0),(.int .i64 0),(.int .i64 0),(.int .i64 0)] [(0,1,(.s 275))]),I 277 (C F_cursor_New [(.s 273),(.s 276)]),I 272 (.mv (.s 277)),I 278 (.ext (.s 272) 0),I 279 (.ext (.s 272) 1),I 12 (.mv (.s 278)),I 13 (.mv (.s 279))])
def p_quartolaw21_CursorNames_34:PC :=
 (.reg [1,2,4,9,293] [I 280 (.mv (.s 7)),I 281 (.bin .neq (.s 280) (V 1)),I 282 (.mv (.s 281)),G 283 282 false (.mv (.s 8)),G 284 282 false (.bin .neq (.s 283) (V 2)),I 285 (.pick (.s 282) (.v (.bool true)) (.s 284)),I 286 (.mv (.s 285)),G 287 286 false (.mv (.s 11)),G 288 286 false (.bin .neq (.s 287) (V 10)),I 289 (.pick (.s 286) (.v (.bool true)) (.s 288)),I 290 (.mv (.s 289)),G 291 290 false (.mv (.s 13)),G 292 290 false (.bin .neq (.s 291) (V 23)),I 293 (.pick (.s 290) (.v (.bool true)) (.s 292))])
def p_quartolaw21_CursorNames_35:PC :=
 (.reg [0] [I 0 (.mv (.v (.bool false)))])
def p_quartolaw21_CursorNames_36:PC :=
 (.reg [1,2,4,9,14] [I 14 (.mv (.v .nilptr))])
def p_quartolaw21_CursorNames_37:PC :=
 (.reg [1,2,4,7,9,14] [I 295 (.mv (.s 14)),I 296 (C F_cursor_Cursor_Next [(.s 295)]),I 294 (.mv (.s 296)),I 297 (.ext (.s 294) 0),I 298 (.ext (.s 294) 1),I 7 (.mv (.s 298))])
def p_quartolaw21_CursorNames_38:PC :=
 (.reg [1,2,4,7,8,9,14] [I 300 (.mv (.s 14)),I 301 (C F_cursor_Cursor_Prev [(.s 300)]),I 299 (.mv (.s 301)),I 302 (.ext (.s 299) 0),I 303 (.ext (.s 299) 1),I 8 (.mv (.s 303))])
def p_quartolaw21_CursorNames_39:PC :=
 (.reg [1,2,4,7,8,9,11,14] [I 305 (.mv (.s 14)),I 306 (C F_cursor_Cursor_Read [(.s 305),(.v (.int .i64 (-1)))]),I 304 (.mv (.s 306)),I 307 (.ext (.s 304) 0),I 308 (.ext (.s 304) 1),I 11 (.mv (.s 308))])
def p_quartolaw21_CursorNames_40:PC :=
 (.reg [1,2,4,9,343] [I 309 (.mv (.s 7)),I 310 (.bin .neq (.s 309) (V 1)),I 311 (.mv (.s 310)),G 312 311 false (.mv (.s 8)),G 313 311 false (.bin .neq (.s 312) (V 1)),I 314 (.pick (.s 311) (.v (.bool true)) (.s 313)),I 315 (.mv (.s 314)),G 316 315 false (.mv (.s 11)),G 317 315 false (.bin .neq (.s 316) (V 1)),I 318 (.pick (.s 315) (.v (.bool true)) (.s 317)),I 319 (.mv (.s 318)),G 320 319 false (.mv (.s 14)),G 321 319 false (C F_cursor_Cursor_Seek [(.s 320),(V 0)]),G 322 319 false (.bin .neq (.s 321) (V 1)),I 323 (.pick (.s 319) (.v (.bool true)) (.s 322)),I 324 (.mv (.s 323)),G 325 324 false (.mv (.s 14)),G 326 324 false (C F_cursor_Cursor_NextLine [(.s 325)]),G 327 324 false (.bin .neq (.s 326) (V 1)),I 328 (.pick (.s 324) (.v (.bool true)) (.s 327)),I 329 (.mv (.s 328)),G 330 329 false (.mv (.s 14)),G 331 329 false (C F_cursor_Cursor_PrevLine [(.s 330)]),G 332 329 false (.bin .neq (.s 331) (V 1)),I 333 (.pick (.s 329) (.v (.bool true)) (.s 332)),I 334 (.mv (.s 333)),G 335 334 false (.mv (.s 14)),G 336 334 false (C F_cursor_Cursor_At [(.s 335)]),G 337 334 false (.bin .neq (.s 336) (V 0)),I 338 (.pick (.s 334) (.v (.bool true)) (.s 337)),I 339 (.mv (.s 338)),G 340 339 false (.mv (.s 14)),G 341 339 false (C F_cursor_Cursor_Visited [(.s 340)]),G 342 339 false (.bin .neq (.s 341) (V 0)),I 343 (.pick (.s 339) (.v (.bool true)) (.s 342))])
def p_quartolaw21_CursorNames_41:PC :=
 (.reg [0] [I 0 (.mv (.v (.bool false)))])
def p_quartolaw21_CursorNames_42:PC :=
 (.reg [1,4,9] [I 344 (.mv (.s 1)),I 345 (.ld true 5 (.s 2)),I 346 (C F_rope_Free [(.s 344),(.s 345)])])
def p_quartolaw21_CursorNames_43:PC :=
 (.reg [1,4,9,15] [I 347 (.mv (.s 1)),I 348 (C F_arena_Arena_Stats [(.s 347)]),I 349 (.fld false 6 1 (.s 348)),I 15 (.mv (.s 349))])
def p_quartolaw21_CursorNames_44:PC :=
 (.reg [1,4,7,9,15] [I 351 (.mv (.s 4)),I 352 (C F_cursor_Cursor_Read [(.s 351),(.v (.int .i64 (-1)))]),I 350 (.mv (.s 352)),I 353 (.ext (.s 350) 0),I 354 (.ext (.s 350) 1),I 7 (.mv (.s 354))])
def p_quartolaw21_CursorNames_45:PC :=
 (.reg [1,4,7,8,9,15] [I 356 (.mv (.s 4)),I 357 (C F_cursor_Cursor_Next [(.s 356)]),I 355 (.mv (.s 357)),I 358 (.ext (.s 355) 0),I 359 (.ext (.s 355) 1),I 8 (.mv (.s 359))])
def p_quartolaw21_CursorNames_46:PC :=
 (.reg [0] [I 360 (.mv (.s 7)),I 361 (.bin .eql (.s 360) (V 10)),I 362 (.mv (.s 361)),G 363 362 true (.mv (.s 8)),G 364 362 true (.bin .eql (.s 363) (V 10)),I 365 (.pick (.s 362) (.s 364) (.v (.bool false))),I 366 (.mv (.s 365)),G 367 366 true (.mv (.s 4)),G 368 366 true (C F_cursor_Cursor_Seek [(.s 367),(V 99)]),G 369 366 true (.bin .eql (.s 368) (V 10)),I 370 (.pick (.s 366) (.s 369) (.v (.bool false))),I 371 (.mv (.s 370)),G 372 371 true (.mv (.s 4)),G 373 371 true (C F_cursor_Cursor_PrevLine [(.s 372)]),G 374 371 true (.bin .eql (.s 373) (V 10)),I 375 (.pick (.s 371) (.s 374) (.v (.bool false))),I 376 (.mv (.s 375)),G 377 376 true (.mv (.s 1)),G 378 376 true (C F_arena_Arena_Stats [(.s 377)]),G 379 376 true (.fld false 6 1 (.s 378)),G 380 376 true (.mv (.s 15)),G 381 376 true (.bin .add (.s 380) (V 4)),G 382 376 true (.bin .eql (.s 379) (.s 381)),I 383 (.pick (.s 376) (.s 382) (.v (.bool false))),I 384 (.mv (.s 383)),G 385 384 true (.mv (.s 4)),G 386 384 true (C F_cursor_Cursor_At [(.s 385)]),G 387 384 true (.bin .eql (.s 386) (V 0)),I 388 (.pick (.s 384) (.s 387) (.v (.bool false))),I 389 (.mv (.s 388)),G 390 389 true (.mv (.s 9)),G 391 389 true (C F_cursor_Cursor_Seek [(.s 390),(V 0)]),G 392 389 true (.bin .eql (.s 391) (V 0)),I 393 (.pick (.s 389) (.s 392) (.v (.bool false))),I 0 (.mv (.s 393))])
def p_quartolaw21_CursorNames:PF:=⟨false,
 (.seq p_quartolaw21_CursorNames_0
 (.seq p_quartolaw21_CursorNames_1
 (.seq (.seq p_quartolaw21_CursorNames_2
 (.ite (.s 30)
 (.seq p_quartolaw21_CursorNames_3
 .ret)
 .skip))
 (.seq p_quartolaw21_CursorNames_4
 (.seq (.seq p_quartolaw21_CursorNames_5
 (.ite (.s 52)
 (.seq p_quartolaw21_CursorNames_6
 .ret)
 .skip))
 (.seq p_quartolaw21_CursorNames_7
 (.seq (.seq p_quartolaw21_CursorNames_8
 (.ite (.s 73)
 (.seq p_quartolaw21_CursorNames_9
 .ret)
 .skip))
 (.seq p_quartolaw21_CursorNames_10
 (.seq (.seq p_quartolaw21_CursorNames_11
 (.ite (.s 94)
 (.seq p_quartolaw21_CursorNames_12
 .ret)
 .skip))
 (.seq p_quartolaw21_CursorNames_13
 (.seq (.seq p_quartolaw21_CursorNames_14
 (.ite (.s 130)
 (.seq p_quartolaw21_CursorNames_15
 .ret)
 .skip))
 (.seq p_quartolaw21_CursorNames_16
 (.seq p_quartolaw21_CursorNames_17
 (.seq (.seq p_quartolaw21_CursorNames_18
 (.ite (.s 170)
 (.seq p_quartolaw21_CursorNames_19
 .ret)
 .skip))
 (.seq p_quartolaw21_CursorNames_20
 (.seq p_quartolaw21_CursorNames_21
 (.seq (.seq p_quartolaw21_CursorNames_22
 (.ite (.s 206)
 (.seq p_quartolaw21_CursorNames_23
 .ret)
 .skip))
 (.seq p_quartolaw21_CursorNames_24
 (.seq (.seq p_quartolaw21_CursorNames_25
 (.ite (.s 243)
 (.seq p_quartolaw21_CursorNames_26
 .ret)
 .skip))
 (.seq p_quartolaw21_CursorNames_27
 (.seq (.seq p_quartolaw21_CursorNames_28
 (.ite (.s 254)
 (.seq p_quartolaw21_CursorNames_29
 .ret)
 .skip))
 (.seq p_quartolaw21_CursorNames_30
 (.seq p_quartolaw21_CursorNames_31
 (.seq p_quartolaw21_CursorNames_32
 (.seq p_quartolaw21_CursorNames_33
 (.seq (.seq p_quartolaw21_CursorNames_34
 (.ite (.s 293)
 (.seq p_quartolaw21_CursorNames_35
 .ret)
 .skip))
 (.seq p_quartolaw21_CursorNames_36
 (.seq p_quartolaw21_CursorNames_37
 (.seq p_quartolaw21_CursorNames_38
 (.seq p_quartolaw21_CursorNames_39
 (.seq (.seq p_quartolaw21_CursorNames_40
 (.ite (.s 343)
 (.seq p_quartolaw21_CursorNames_41
 .ret)
 .skip))
 (.seq p_quartolaw21_CursorNames_42
 (.seq p_quartolaw21_CursorNames_43
 (.seq p_quartolaw21_CursorNames_44
 (.seq p_quartolaw21_CursorNames_45
 (.seq p_quartolaw21_CursorNames_46
 .ret)))))))))))))))))))))))))))))))))))),
 [.s 0]⟩
theorem c_quartolaw21_CursorNames:compF Go.Proofs.Tryz.prog false h_quartolaw21_CursorNames Go.Proofs.Tryz.f4=some p_quartolaw21_CursorNames:=by kernel_rfl
def h_plan_Keep:List Hint:=[H [0,3,4],H [0,3,4,8],H [4,5],H [0,3,4,12],H [4,5],H [0,3,4,16],H [4,5],H [3,4,6],H [3,4,6,27],H [4,5],H [4,5]]
def p_plan_Keep_0:PC :=
 (.reg [0,3,4] [I 3 (.box (.s 1)),I 4 (.box (.v ZT)),I 5 (.mv (V 0))])
def p_plan_Keep_1:PC :=
 (.reg [0,3,4,8] [I 7 (.mv (.s 0)),I 8 (.eqs false 3 [] (.s 7) (.v .nilptr))])
def p_plan_Keep_2:PC :=
 (.reg [4,5] [I 9 (.build [(.int .u64 0),(.int .i64 0),(.int .i64 0),(.int .i64 0),(.int .i64 0),(.str []),.nils] []),J (.st 7 (.s 4) (.s 9)),I 5 (.mv (V 1))])
def p_plan_Keep_3:PC :=
 (.reg [0,3,4,12] [I 10 (.ld true 5 (.s 3)),I 11 (.build [(.int .u64 0),(.int .i64 0),(.int .i64 0),(.int .i64 0),(.int .i64 0)] []),I 12 (.eqs false 0 [(0,0),(1,0),(2,0),(3,0),(4,0)] (.s 10) (.s 11))])
def p_plan_Keep_4:PC :=
 (.reg [4,5] [I 13 (.build [(.int .u64 0),(.int .i64 0),(.int .i64 0),(.int .i64 0),(.int .i64 0),(.str []),.nils] []),J (.st 7 (.s 4) (.s 13)),I 5 (.mv (V 0))])
def p_plan_Keep_5:PC :=
 (.reg [0,3,4,16] [I 14 (.fadr 0 (.s 3)),I 15 (.ld false 1 (.s 14)),I 16 (.bin .eql (.s 15) (.v (.int .u64 0)))])
def p_plan_Keep_6:PC :=
 (.reg [4,5] [I 17 (.build [(.int .u64 0),(.int .i64 0),(.int .i64 0),(.int .i64 0),(.int .i64 0),(.str []),.nils] []),J (.st 7 (.s 4) (.s 17)),I 5 (.mv (V 2))])
def p_plan_Keep_7:PC :=
 (.reg [3,4,6] [I 18 (.mv (.s 0)),I 19 (.fadr 0 (.s 3)),I 20 (.ld false 1 (.s 19)),I 21 (.fadr 1 (.s 3)),I 22 (.ld false 1 (.s 21)),I 23 (.fadr 2 (.s 3)),I 24 (.ld true 3 (.s 23)),I 25 (C F_plan_same [(.s 18),(.s 20),(.s 22),(.s 24)]),I 6 (.mv (.s 25))])
def p_plan_Keep_8:PC :=
 (.reg [3,4,6,27] [I 26 (.mv (.s 6)),I 27 (.bin .neq (.s 26) (V 0))])
def p_plan_Keep_9:PC :=
 (.reg [4,5] [I 28 (.build [(.int .u64 0),(.int .i64 0),(.int .i64 0),(.int .i64 0),(.int .i64 0),(.str []),.nils] []),I 29 (.mv (.s 6)),J (.st 7 (.s 4) (.s 28)),I 5 (.mv (.s 29))])
def p_plan_Keep_10:PC :=
 (.reg [4,5] [I 30 (.fadr 0 (.s 3)),I 31 (.ld false 1 (.s 30)),I 32 (.fadr 1 (.s 3)),I 33 (.ld false 1 (.s 32)),I 34 (.fadr 2 (.s 3)),I 35 (.ld true 3 (.s 34)),I 36 (.build [(.int .u64 0),(.int .i64 0),(.int .i64 0),(.int .i64 0),(.int .i64 0),(.str []),.nils] [(0,1,(.s 31)),(1,1,(.s 33)),(2,3,(.s 35))]),J (.st 7 (.s 4) (.s 36)),I 5 (.mv (V 0))])
def p_plan_Keep:PF:=⟨false,
 (.seq p_plan_Keep_0
 (.seq (.seq p_plan_Keep_1
 (.ite (.s 8)
 (.seq p_plan_Keep_2
 .ret)
 .skip))
 (.seq (.seq p_plan_Keep_3
 (.ite (.s 12)
 (.seq p_plan_Keep_4
 .ret)
 .skip))
 (.seq (.seq p_plan_Keep_5
 (.ite (.s 16)
 (.seq p_plan_Keep_6
 .ret)
 .skip))
 (.seq (.seq p_plan_Keep_7
 (.seq p_plan_Keep_8
 (.ite (.s 27)
 (.seq p_plan_Keep_9
 .ret)
 .skip)))
 (.seq p_plan_Keep_10
 .ret)))))),
 [.c 4 true 7,.s 5]⟩
theorem c_plan_Keep:compF Go.Proofs.Tryz.prog false h_plan_Keep Go.Proofs.Tryz.f11=some p_plan_Keep:=by kernel_rfl
def h_plan_New:List Hint:=[H [1],H [1,3],H [1,3,4],H [1,3,14],H [1,3],H [3,16,17,18],H [3,16,17,18,19],H [3,6,16,17,18],H [3,16,17,18],H [3,16,17,18],H [2]]
def p_plan_New_0:PC :=
 (.reg [1] [I 1 (.box (.s 0)),I 2 (.mv (V 0))])
def p_plan_New_1:PC :=
 (.reg [1,3] [I 3 (.mv (V 0))])
def p_plan_New_2:PC :=
 (.reg [1,3,4] [I 7 (.ld true 7 (.s 1)),I 8 (C F_plan_kind [(.s 7)]),I 4 (.mv (.s 8))])
def p_plan_New_3:PC :=
 (.reg [1,3,14] [I 9 (.mv (.s 4)),I 10 (.bin .eql (.s 9) (V 3)),I 11 (.mv (.s 10)),G 12 11 false (.mv (.s 4)),G 13 11 false (.bin .eql (.s 12) (V 4)),I 14 (.pick (.s 11) (.v (.bool true)) (.s 13))])
def p_plan_New_4:PC :=
 (.reg [1,3] [I 3 (.mv (V 1))])
def p_plan_New_5:PC :=
 (.reg [3,16,17,18] [I 15 (.fadr 6 (.s 1)),I 16 (.ld false 1 (.s 15)),I 17 (.len 1 (.s 16)),I 18 (.mv (V 0))])
def p_plan_New_6:PC :=
 (.reg [3,16,17,18,19] [I 19 (.bin .lss (.s 18) (.s 17))])
def p_plan_New_7:PC :=
 (.reg [3,6,16,17,18] [I 20 (.ixS 7 (.s 16) (.s 18)),I 21 (.ld true 7 (.s 20)),I 6 (.box (.v ZT)),J (.st 7 (.s 6) (.s 21))])
def p_plan_New_8:PC :=
 (.reg [3,16,17,18] [I 22 (.mv (.s 3)),I 23 (.ld true 7 (.s 6)),I 24 (C F_plan_New [(.s 23)]),I 25 (.bin .add (.s 22) (.s 24)),I 3 (.mv (.s 25))])
def p_plan_New_9:PC :=
 (.reg [3,16,17,18] [I 26 (.bin .add (.s 18) (V 1)),I 18 (.mv (.s 26))])
def p_plan_New_10:PC :=
 (.seq p_plan_New_6
 (.seq (.ite (.s 19)
 .skip
 (.exit 0))
 (.seq (.block 1
 (.seq p_plan_New_7
 p_plan_New_8))
 p_plan_New_9)))
def p_plan_New_11:PC :=
 (.reg [2] [I 27 (.mv (.s 3)),I 2 (.mv (.s 27))])
def p_plan_New:PF:=⟨false,
 (.seq p_plan_New_0
 (.seq p_plan_New_1
 (.seq (.seq p_plan_New_2
 (.seq p_plan_New_3
 (.ite (.s 14)
 p_plan_New_4
 .skip)))
 (.seq (.seq p_plan_New_5
 (.block 0
 (.loop p_plan_New_10)))
 (.seq p_plan_New_11
 .ret))))),
 [.s 2]⟩
theorem c_plan_New:compF Go.Proofs.Tryz.prog false h_plan_New Go.Proofs.Tryz.f14=some p_plan_New:=by kernel_rfl
def h_plan_Build:List Hint:=[H [0,2],H [0,2,14],H [2,3],⟨[0,2,4],[0],[],[],[],[]⟩,H [2,4,17,18,19],H [2,4,17,18,19,20],H [2,4,6,17,18,19],H [2,4,17,18,19],H [2,4,17,18,19],H [2,4,31],H [2,4,7,8],H [2,4,7,8,39],H [2,3],⟨[2,4,7,9],[0],[],[],[],[]⟩,H [2,4,9,42,43,44],H [2,4,9,42,43,44,45],H [2,4,9,11,42,43,44],H [2,4,9,11,42,43,44],H [2,4,9,42,43,44],H [2,4,9,42,43,44],H [2,4],H [2,3]]
def p_plan_Build_0:PC :=
 (.reg [0,2] [I 2 (.box (.v ZT)),I 3 (.mv (V 0))])
def p_plan_Build_1:PC :=
 (.reg [0,2,14] [I 12 (.mv (.s 0)),I 13 (.len 0 (.s 12)),I 14 (.bin .gtr (.s 13) (V 65536))])
def p_plan_Build_2:PC :=
 (.reg [2,3] [I 15 (.build [(.int .u64 0),(.int .i64 0),(.int .i64 0),(.int .i64 0),(.int .i64 0),(.str []),.nils] []),J (.st 7 (.s 2) (.s 15)),I 3 (.mv (V 5))])
def p_plan_Build_3:PC :=
 (.reg [0,2,4] [I 4 (.onil 7)])
def p_plan_Build_4:PC :=
 (.reg [2,4,17,18,19] [I 16 (.mv (.s 0)),I 17 (C F_chunk_Chunks [(.s 16)]),I 18 (.len 1 (.s 17)),I 19 (.mv (V 0))])
def p_plan_Build_5:PC :=
 (.reg [2,4,17,18,19,20] [I 20 (.bin .lss (.s 19) (.s 18))])
def p_plan_Build_6:PC :=
 (.reg [2,4,6,17,18,19] [I 21 (.ixS 1 (.s 17) (.s 19)),I 22 (.ld false 1 (.s 21)),I 6 (.mv (.s 22))])
def p_plan_Build_7:PC :=
 (.reg [2,4,17,18,19] [I 23 (.mv (.s 4)),I 24 (.mv (.s 6)),I 25 (.build [(.int .u64 0),(.int .i64 0),(.int .i64 0),(.int .i64 0),(.int .i64 0),(.str []),.nils] [(5,1,(.s 24))]),I 26 (.bslice false 7 [ZT] [(0,(.s 25))]),I 27 (.app 7 80 (.s 23) (.s 26)),I 4 (.mv (.s 27))])
def p_plan_Build_8:PC :=
 (.reg [2,4,17,18,19] [I 28 (.bin .add (.s 19) (V 1)),I 19 (.mv (.s 28))])
def p_plan_Build_9:PC :=
 (.seq p_plan_Build_5
 (.seq (.ite (.s 20)
 .skip
 (.exit 0))
 (.seq (.block 1
 (.seq p_plan_Build_6
 p_plan_Build_7))
 p_plan_Build_8)))
def p_plan_Build_10:PC :=
 (.reg [2,4,31] [I 29 (.mv (.s 4)),I 30 (.len 1 (.s 29)),I 31 (.bin .gtr (.s 30) (V 1))])
def p_plan_Build_11:PC :=
 (.reg [2,4,7,8] [I 33 (.mv (.s 4)),I 34 (.len 1 (.s 33)),I 35 (C F_chunk_Even [(.s 34),(V 4)]),I 32 (.mv (.s 35)),I 36 (.ext (.s 32) 0),I 37 (.ext (.s 32) 1),I 7 (.mv (.s 36)),I 8 (.mv (.s 37))])
def p_plan_Build_12:PC :=
 (.reg [2,4,7,8,39] [I 38 (.mv (.s 8)),I 39 (.bin .neq (.s 38) (V 0))])
def p_plan_Build_13:PC :=
 (.reg [2,3] [I 40 (.build [(.int .u64 0),(.int .i64 0),(.int .i64 0),(.int .i64 0),(.int .i64 0),(.str []),.nils] []),I 41 (.mv (.s 8)),J (.st 7 (.s 2) (.s 40)),I 3 (.mv (.s 41))])
def p_plan_Build_14:PC :=
 (.reg [2,4,7,9] [I 9 (.onil 7)])
def p_plan_Build_15:PC :=
 (.reg [2,4,9,42,43,44] [I 42 (.mv (.s 7)),I 43 (.len 1 (.s 42)),I 44 (.mv (V 0))])
def p_plan_Build_16:PC :=
 (.reg [2,4,9,42,43,44,45] [I 45 (.bin .lss (.s 44) (.s 43))])
def p_plan_Build_17:PC :=
 (.reg [2,4,9,11,42,43,44] [I 46 (.ixS 1 (.s 42) (.s 44)),I 47 (.ld false 1 (.s 46)),I 11 (.mv (.s 47))])
def p_plan_Build_18:PC :=
 (.reg [2,4,9,11,42,43,44] [I 48 (.mv (.s 9)),I 49 (.mv (.s 4)),I 50 (.mv (.s 11)),I 51 (.slc 7 (.s 49) none (some (.s 50))),I 52 (C F_plan_group [(.s 51)]),I 53 (.bslice false 7 [ZT] [(0,(.s 52))]),I 54 (.app 7 80 (.s 48) (.s 53)),I 9 (.mv (.s 54))])
def p_plan_Build_19:PC :=
 (.reg [2,4,9,42,43,44] [I 55 (.mv (.s 4)),I 56 (.mv (.s 11)),I 57 (.slc 7 (.s 55) (some (.s 56)) none),I 4 (.mv (.s 57))])
def p_plan_Build_20:PC :=
 (.reg [2,4,9,42,43,44] [I 58 (.bin .add (.s 44) (V 1)),I 44 (.mv (.s 58))])
def p_plan_Build_21:PC :=
 (.seq p_plan_Build_16
 (.seq (.ite (.s 45)
 .skip
 (.exit 4))
 (.seq (.block 5
 (.seq p_plan_Build_17
 (.seq p_plan_Build_18
 p_plan_Build_19)))
 p_plan_Build_20)))
def p_plan_Build_22:PC :=
 (.reg [2,4] [I 59 (.mv (.s 9)),I 4 (.mv (.s 59))])
def p_plan_Build_23:PC :=
 (.seq (.seq p_plan_Build_10
 (.ite (.s 31)
 .skip
 (.exit 2)))
 (.block 3
 (.seq p_plan_Build_11
 (.seq (.seq p_plan_Build_12
 (.ite (.s 39)
 (.seq p_plan_Build_13
 .ret)
 .skip))
 (.seq p_plan_Build_14
 (.seq (.seq p_plan_Build_15
 (.block 4
 (.loop p_plan_Build_21)))
 p_plan_Build_22))))))
def p_plan_Build_24:PC :=
 (.reg [2,3] [I 60 (.mv (.s 4)),I 61 (C F_plan_group [(.s 60)]),J (.st 7 (.s 2) (.s 61)),I 3 (.mv (V 0))])
def p_plan_Build:PF:=⟨false,
 (.seq p_plan_Build_0
 (.seq (.seq p_plan_Build_1
 (.ite (.s 14)
 (.seq p_plan_Build_2
 .ret)
 .skip))
 (.seq p_plan_Build_3
 (.seq (.seq p_plan_Build_4
 (.block 0
 (.loop p_plan_Build_9)))
 (.seq (.block 2
 (.loop p_plan_Build_23))
 (.seq p_plan_Build_24
 .ret)))))),
 [.c 2 true 7,.s 3]⟩
theorem c_plan_Build:compF Go.Proofs.Tryz.prog false h_plan_Build Go.Proofs.Tryz.f20=some p_plan_Build:=by kernel_rfl
def h_plan_Check:List Hint:=[H [0,3],H [0,3,7],H [4],H [0,3,10],H [4],H [3,5],H [3,5,15],H [4],H [19],H [4],H [4]]
def p_plan_Check_0:PC :=
 (.reg [0,3] [I 3 (.box (.s 1)),I 4 (.mv (V 0))])
def p_plan_Check_1:PC :=
 (.reg [0,3,7] [I 6 (.mv (.s 0)),I 7 (.eqs false 3 [] (.s 6) (.v .nilptr))])
def p_plan_Check_2:PC :=
 (.reg [4] [I 4 (.mv (V 1))])
def p_plan_Check_3:PC :=
 (.reg [0,3,10] [I 8 (.ld true 7 (.s 3)),I 9 (C F_plan_kind [(.s 8)]),I 10 (.bin .eql (.s 9) (V 1))])
def p_plan_Check_4:PC :=
 (.reg [4] [I 4 (.mv (V 0))])
def p_plan_Check_5:PC :=
 (.reg [3,5] [I 11 (.mv (.s 0)),I 12 (.ld true 7 (.s 3)),I 13 (C F_plan_check [(.s 11),(.s 12),(.v (.bool false)),(V 0)]),I 5 (.mv (.s 13))])
def p_plan_Check_6:PC :=
 (.reg [3,5,15] [I 14 (.mv (.s 5)),I 15 (.bin .neq (.s 14) (V 0))])
def p_plan_Check_7:PC :=
 (.reg [4] [I 16 (.mv (.s 5)),I 4 (.mv (.s 16))])
def p_plan_Check_8:PC :=
 (.reg [19] [I 17 (.ld true 7 (.s 3)),I 18 (C F_plan_bytes [(.s 17)]),I 19 (.bin .gtr (.s 18) (V 65536))])
def p_plan_Check_9:PC :=
 (.reg [4] [I 4 (.mv (V 5))])
def p_plan_Check_10:PC :=
 (.reg [4] [I 4 (.mv (V 0))])
def p_plan_Check:PF:=⟨false,
 (.seq p_plan_Check_0
 (.seq (.seq p_plan_Check_1
 (.ite (.s 7)
 (.seq p_plan_Check_2
 .ret)
 .skip))
 (.seq (.seq p_plan_Check_3
 (.ite (.s 10)
 (.seq p_plan_Check_4
 .ret)
 .skip))
 (.seq (.seq p_plan_Check_5
 (.seq p_plan_Check_6
 (.ite (.s 15)
 (.seq p_plan_Check_7
 .ret)
 .skip)))
 (.seq (.seq p_plan_Check_8
 (.ite (.s 19)
 (.seq p_plan_Check_9
 .ret)
 .skip))
 (.seq p_plan_Check_10
 .ret)))))),
 [.s 4]⟩
theorem c_plan_Check:compF Go.Proofs.Tryz.prog false h_plan_Check Go.Proofs.Tryz.f23=some p_plan_Check:=by kernel_rfl
def h_quartolaw21_small:List Hint:=[H [1],H [1,3,4],H [1,3,15],H [0,1,2],H [1,3,4,5],⟨[0,1,2],[],[],[],[(6,(.hide [(.s 1)])),(10,(.plain (.s 1)))],[]⟩]
def p_quartolaw21_small_0:PC :=
 (.reg [1] [I 0 (.mv (.v .nilptr)),I 1 (.box (.v ZR)),I 2 (.mv (.v (.bool false)))])
def p_quartolaw21_small_1:PC :=
 (.reg [1,3,4] [I 7 (C F_arena_New [(V 8),(.v (.int .u64 4))]),I 6 (.mv (.s 7)),I 8 (.ext (.s 6) 0),I 9 (.ext (.s 6) 1),I 3 (.mv (.s 8)),I 4 (.mv (.s 9))])
def p_quartolaw21_small_2:PC :=
 (.reg [1,3,15] [I 10 (.mv (.s 3)),I 11 (.eqs false 3 [] (.s 10) (.v .nilptr)),I 12 (.mv (.s 11)),G 13 12 false (.mv (.s 4)),G 14 12 false (.bin .neq (.s 13) (V 0)),I 15 (.pick (.s 12) (.v (.bool true)) (.s 14))])
def p_quartolaw21_small_3:PC :=
 (.reg [0,1,2] [I 16 (.build [(.int .u64 0),(.int .i64 0),(.int .i64 0),(.int .i64 0),(.int .i64 0)] []),I 0 (.mv (.v .nilptr)),J (.st 5 (.s 1) (.s 16)),I 2 (.mv (.v (.bool false)))])
def p_quartolaw21_small_4:PC :=
 (.reg [1,3,4,5] [I 18 (.mv (.s 3)),I 19 (C F_rope_New [(.s 18),(.v (.str [97,98,99,100,101,102,103,104,105,106,107,108,109,110,111,112,113]))]),I 17 (.mv (.s 19)),I 20 (.ext (.s 17) 0),I 21 (.ext (.s 17) 1),I 5 (.box (.v ZR)),J (.st 5 (.s 5) (.s 20)),I 4 (.mv (.s 21))])
def p_quartolaw21_small_5:PC :=
 (.reg [0,1,2] [I 22 (.mv (.s 3)),I 23 (.ld true 5 (.s 5)),I 24 (.mv (.s 4)),I 25 (.bin .eql (.s 24) (V 0)),I 26 (.mv (.s 25)),G 27 26 true (.fadr 0 (.s 5)),G 28 26 true (.w (.hide [(.s 1)]) (.ld false 1 (.s 27))),G 29 26 true (.bin .eql (.s 28) (.v (.int .u64 65538))),I 30 (.pick (.s 26) (.s 29) (.v (.bool false))),I 0 (.mv (.s 22)),J (.w (.plain (.s 1)) (.st 5 (.s 1) (.s 23))),I 2 (.mv (.s 30))])
def p_quartolaw21_small:PF:=⟨true,
 (.seq p_quartolaw21_small_0
 (.seq p_quartolaw21_small_1
 (.seq (.seq p_quartolaw21_small_2
 (.ite (.s 15)
 (.seq p_quartolaw21_small_3
 .ret)
 .skip))
 (.seq p_quartolaw21_small_4
 (.seq p_quartolaw21_small_5
 .ret))))),
 [.s 0,.c 1 true 5,.s 2]⟩
theorem c_quartolaw21_small:compF Go.Proofs.Tryz.prog true h_quartolaw21_small Go.Proofs.Tryz.f24=some p_quartolaw21_small:=by kernel_rfl
def h_quartolaw21_works:List Hint:=[H [],H [1,2,3],H [1,2,13],H [0],H [4,5],H [4,25],H [0],H [4,5,6],H [0]]
def p_quartolaw21_works_0:PC :=
 (.reg [] [I 0 (.mv (.v (.bool false)))])
def p_quartolaw21_works_1:PC :=
 (.reg [1,2,3] [I 8 (C F_quartolaw21_small []),I 7 (.mv (.s 8)),I 9 (.ext (.s 7) 0),I 10 (.ext (.s 7) 1),I 11 (.ext (.s 7) 2),I 2 (.box (.v ZR)),I 1 (.mv (.s 9)),J (.st 5 (.s 2) (.s 10)),I 3 (.mv (.s 11))])
def p_quartolaw21_works_2:PC :=
 (.reg [1,2,13] [I 12 (.mv (.s 3)),I 13 (.un .not (.s 12))])
def p_quartolaw21_works_3:PC :=
 (.reg [0] [I 0 (.mv (.v (.bool false)))])
def p_quartolaw21_works_4:PC :=
 (.reg [4,5] [I 15 (.mv (.s 1)),I 16 (.ld true 5 (.s 2)),I 17 (C F_cursor_New [(.s 15),(.s 16)]),I 14 (.mv (.s 17)),I 18 (.ext (.s 14) 0),I 19 (.ext (.s 14) 1),I 4 (.mv (.s 18)),I 5 (.mv (.s 19))])
def p_quartolaw21_works_5:PC :=
 (.reg [4,25] [I 20 (.mv (.s 4)),I 21 (.eqs false 3 [] (.s 20) (.v .nilptr)),I 22 (.mv (.s 21)),G 23 22 false (.mv (.s 5)),G 24 22 false (.bin .neq (.s 23) (V 0)),I 25 (.pick (.s 22) (.v (.bool true)) (.s 24))])
def p_quartolaw21_works_6:PC :=
 (.reg [0] [I 0 (.mv (.v (.bool false)))])
def p_quartolaw21_works_7:PC :=
 (.reg [4,5,6] [I 27 (.mv (.s 4)),I 28 (C F_cursor_Cursor_Next [(.s 27)]),I 26 (.mv (.s 28)),I 29 (.ext (.s 26) 0),I 30 (.ext (.s 26) 1),I 6 (.mv (.s 29)),I 5 (.mv (.s 30))])
def p_quartolaw21_works_8:PC :=
 (.reg [0] [I 31 (.mv (.s 5)),I 32 (.bin .eql (.s 31) (V 0)),I 33 (.mv (.s 32)),G 34 33 true (.mv (.s 6)),G 35 33 true (.bin .eql (.s 34) (.v (.str [97]))),I 36 (.pick (.s 33) (.s 35) (.v (.bool false))),I 37 (.mv (.s 36)),G 38 37 true (.mv (.s 4)),G 39 37 true (C F_cursor_Cursor_At [(.s 38)]),G 40 37 true (.bin .eql (.s 39) (V 1)),I 41 (.pick (.s 37) (.s 40) (.v (.bool false))),I 42 (.mv (.s 41)),G 43 42 true (.mv (.s 4)),G 44 42 true (C F_cursor_Cursor_Visited [(.s 43)]),G 45 42 true (.bin .eql (.s 44) (V 2)),I 46 (.pick (.s 42) (.s 45) (.v (.bool false))),I 0 (.mv (.s 46))])
def p_quartolaw21_works:PF:=⟨false,
 (.seq p_quartolaw21_works_0
 (.seq p_quartolaw21_works_1
 (.seq (.seq p_quartolaw21_works_2
 (.ite (.s 13)
 (.seq p_quartolaw21_works_3
 .ret)
 .skip))
 (.seq p_quartolaw21_works_4
 (.seq (.seq p_quartolaw21_works_5
 (.ite (.s 25)
 (.seq p_quartolaw21_works_6
 .ret)
 .skip))
 (.seq p_quartolaw21_works_7
 (.seq p_quartolaw21_works_8
 .ret))))))),
 [.s 0]⟩
theorem c_quartolaw21_works:compF Go.Proofs.Tryz.prog false h_quartolaw21_works Go.Proofs.Tryz.f25=some p_quartolaw21_works:=by kernel_rfl
def h_cursor_New:List Hint:=[H [0,3],H [0,3,6],H [0,3,6,13],H [4,5],H [3,7],H [7,22],H [7,8],H [7,8,28],H [4,5],H [4,5]]
def p_cursor_New_0:PC :=
 (.reg [0,3] [I 3 (.box (.s 1)),I 4 (.mv (.v .nilptr)),I 5 (.mv (V 0))])
def p_cursor_New_1:PC :=
 (.reg [0,3,6] [I 9 (.mv (.s 0)),I 10 (.ld true 5 (.s 3)),I 11 (C F_cursor_check [(.s 9),(.s 10)]),I 6 (.mv (.s 11))])
def p_cursor_New_2:PC :=
 (.reg [0,3,6,13] [I 12 (.mv (.s 6)),I 13 (.bin .neq (.s 12) (V 0))])
def p_cursor_New_3:PC :=
 (.reg [4,5] [I 14 (.mv (.s 6)),I 4 (.mv (.v .nilptr)),I 5 (.mv (.s 14))])
def p_cursor_New_4:PC :=
 (.reg [3,7] [I 15 (.mv (.s 0)),I 16 (.ld true 5 (.s 3)),I 17 (.build [.nilptr,(.int .u64 0),(.int .i64 0),(.int .i64 0),(.int .i64 0),(.int .i64 0),.nils,(.int .i64 0)] [(0,1,(.s 15)),(1,5,(.s 16))]),I 18 (.build [.nilptr,(.int .u64 0),(.int .i64 0),(.int .i64 0),(.int .i64 0),(.int .i64 0),.nils,(.int .i64 0),(.int .i64 0)] [(0,8,(.s 17))]),I 19 (.box (.s 18)),I 7 (.mv (.s 19))])
def p_cursor_New_5:PC :=
 (.reg [7,22] [I 20 (.fadr 0 (.s 3)),I 21 (.ld false 1 (.s 20)),I 22 (.bin .neq (.s 21) (.v (.int .u64 0)))])
def p_cursor_New_6:PC :=
 (.reg [7,8] [I 23 (.mv (.s 7)),I 24 (.nilck (.s 23)),I 25 (.fadr 0 (.s 24)),I 26 (C F_cursor_path_enter [(.s 25),(V 0)]),I 8 (.mv (.s 26))])
def p_cursor_New_7:PC :=
 (.reg [7,8,28] [I 27 (.mv (.s 8)),I 28 (.bin .neq (.s 27) (V 0))])
def p_cursor_New_8:PC :=
 (.reg [4,5] [I 29 (.mv (.s 8)),I 4 (.mv (.v .nilptr)),I 5 (.mv (.s 29))])
def p_cursor_New_9:PC :=
 (.reg [4,5] [I 30 (.mv (.s 7)),I 4 (.mv (.s 30)),I 5 (.mv (V 0))])
def p_cursor_New:PF:=⟨true,
 (.seq p_cursor_New_0
 (.seq (.seq p_cursor_New_1
 (.seq p_cursor_New_2
 (.ite (.s 13)
 (.seq p_cursor_New_3
 .ret)
 .skip)))
 (.seq p_cursor_New_4
 (.seq (.seq p_cursor_New_5
 (.ite (.s 22)
 (.seq p_cursor_New_6
 (.seq p_cursor_New_7
 (.ite (.s 28)
 (.seq p_cursor_New_8
 .ret)
 .skip)))
 .skip))
 (.seq p_cursor_New_9
 .ret))))),
 [.s 4,.s 5]⟩
theorem c_cursor_New:compF Go.Proofs.Tryz.prog true h_cursor_New Go.Proofs.Tryz.f26=some p_cursor_New:=by kernel_rfl
def h_cursor_Cursor_At:List Hint:=[H [0],H [0,4],H [2],H [2]]
def p_cursor_Cursor_At_0:PC :=
 (.reg [0] [I 2 (.mv (V 0))])
def p_cursor_Cursor_At_1:PC :=
 (.reg [0,4] [I 3 (.mv (.s 0)),I 4 (.eqs false 3 [] (.s 3) (.v .nilptr))])
def p_cursor_Cursor_At_2:PC :=
 (.reg [2] [I 2 (.mv (V 0))])
def p_cursor_Cursor_At_3:PC :=
 (.reg [2] [I 5 (.mv (.s 0)),I 6 (.nilck (.s 5)),I 7 (.fadr 8 (.s 6)),I 8 (.ld false 1 (.s 7)),I 2 (.mv (.s 8))])
def p_cursor_Cursor_At:PF:=⟨false,
 (.seq p_cursor_Cursor_At_0
 (.seq (.seq p_cursor_Cursor_At_1
 (.ite (.s 4)
 (.seq p_cursor_Cursor_At_2
 .ret)
 .skip))
 (.seq p_cursor_Cursor_At_3
 .ret))),
 [.s 2]⟩
theorem c_cursor_Cursor_At:compF Go.Proofs.Tryz.prog false h_cursor_Cursor_At Go.Proofs.Tryz.f27=some p_cursor_Cursor_At:=by kernel_rfl
def h_cursor_Cursor_Visited:List Hint:=[H [0],H [0,4],H [2],H [2]]
def p_cursor_Cursor_Visited_0:PC :=
 (.reg [0] [I 2 (.mv (V 0))])
def p_cursor_Cursor_Visited_1:PC :=
 (.reg [0,4] [I 3 (.mv (.s 0)),I 4 (.eqs false 3 [] (.s 3) (.v .nilptr))])
def p_cursor_Cursor_Visited_2:PC :=
 (.reg [2] [I 2 (.mv (V 0))])
def p_cursor_Cursor_Visited_3:PC :=
 (.reg [2] [I 5 (.mv (.s 0)),I 6 (.nilck (.s 5)),I 7 (.fadr 0 (.s 6)),I 8 (.fadr 7 (.s 7)),I 9 (.ld false 1 (.s 8)),I 2 (.mv (.s 9))])
def p_cursor_Cursor_Visited:PF:=⟨false,
 (.seq p_cursor_Cursor_Visited_0
 (.seq (.seq p_cursor_Cursor_Visited_1
 (.ite (.s 4)
 (.seq p_cursor_Cursor_Visited_2
 .ret)
 .skip))
 (.seq p_cursor_Cursor_Visited_3
 .ret))),
 [.s 2]⟩
theorem c_cursor_Cursor_Visited:compF Go.Proofs.Tryz.prog false h_cursor_Cursor_Visited Go.Proofs.Tryz.f28=some p_cursor_Cursor_Visited:=by kernel_rfl
def h_cursor_Cursor_Next:List Hint:=[H [0],H [0,4],H [0,4,8],H [2,3],H [0,21],H [2,3],H [2,3]]
def p_cursor_Cursor_Next_0:PC :=
 (.reg [0] [I 2 (.mv (.v (.str []))),I 3 (.mv (V 0))])
def p_cursor_Cursor_Next_1:PC :=
 (.reg [0,4] [I 5 (.mv (.s 0)),I 6 (C F_cursor_Cursor_ready [(.s 5)]),I 4 (.mv (.s 6))])
def p_cursor_Cursor_Next_2:PC :=
 (.reg [0,4,8] [I 7 (.mv (.s 4)),I 8 (.bin .neq (.s 7) (V 0))])
def p_cursor_Cursor_Next_3:PC :=
 (.reg [2,3] [I 9 (.mv (.s 4)),I 2 (.mv (.v (.str []))),I 3 (.mv (.s 9))])
def p_cursor_Cursor_Next_4:PC :=
 (.reg [0,21] [I 10 (.mv (.s 0)),I 11 (.nilck (.s 10)),I 12 (.fadr 8 (.s 11)),I 13 (.ld false 1 (.s 12)),I 14 (.mv (.s 0)),I 15 (.nilck (.s 14)),I 16 (.fadr 0 (.s 15)),I 17 (.fadr 1 (.s 16)),I 18 (.fadr 2 (.s 17)),I 19 (.fadr 0 (.s 18)),I 20 (.ld false 1 (.s 19)),I 21 (.bin .eql (.s 13) (.s 20))])
def p_cursor_Cursor_Next_5:PC :=
 (.reg [2,3] [I 2 (.mv (.v (.str []))),I 3 (.mv (V 3))])
def p_cursor_Cursor_Next_6:PC :=
 (.reg [2,3] [I 22 (.mv (.s 0)),I 23 (C F_cursor_Cursor_forward [(.s 22),(.v (.func (.func F_cursor_Cursor_NextC1) [] []))]),I 24 (.ext (.s 23) 0),I 25 (.ext (.s 23) 1),I 2 (.mv (.s 24)),I 3 (.mv (.s 25))])
def p_cursor_Cursor_Next:PF:=⟨true,
 (.seq p_cursor_Cursor_Next_0
 (.seq (.seq p_cursor_Cursor_Next_1
 (.seq p_cursor_Cursor_Next_2
 (.ite (.s 8)
 (.seq p_cursor_Cursor_Next_3
 .ret)
 .skip)))
 (.seq (.seq p_cursor_Cursor_Next_4
 (.ite (.s 21)
 (.seq p_cursor_Cursor_Next_5
 .ret)
 .skip))
 (.seq p_cursor_Cursor_Next_6
 .ret)))),
 [.s 2,.s 3]⟩
theorem c_cursor_Cursor_Next:compF Go.Proofs.Tryz.prog true h_cursor_Cursor_Next Go.Proofs.Tryz.f29=some p_cursor_Cursor_Next:=by kernel_rfl
def h_cursor_Cursor_Seek:List Hint:=[H [0,1],H [0,1,5],H [0,1,5,9],H [4],H [0,1,23],H [4],H [4]]
def p_cursor_Cursor_Seek_0:PC :=
 (.reg [0,1] [I 4 (.mv (V 0))])
def p_cursor_Cursor_Seek_1:PC :=
 (.reg [0,1,5] [I 6 (.mv (.s 0)),I 7 (C F_cursor_Cursor_ready [(.s 6)]),I 5 (.mv (.s 7))])
def p_cursor_Cursor_Seek_2:PC :=
 (.reg [0,1,5,9] [I 8 (.mv (.s 5)),I 9 (.bin .neq (.s 8) (V 0))])
def p_cursor_Cursor_Seek_3:PC :=
 (.reg [4] [I 10 (.mv (.s 5)),I 4 (.mv (.s 10))])
def p_cursor_Cursor_Seek_4:PC :=
 (.reg [0,1,23] [I 11 (.mv (.s 1)),I 12 (.bin .lss (.s 11) (V 0)),I 13 (.mv (.s 12)),G 14 13 false (.mv (.s 1)),G 15 13 false (.mv (.s 0)),G 16 13 false (.nilck (.s 15)),G 17 13 false (.fadr 0 (.s 16)),G 18 13 false (.fadr 1 (.s 17)),G 19 13 false (.fadr 2 (.s 18)),G 20 13 false (.fadr 0 (.s 19)),G 21 13 false (.ld false 1 (.s 20)),G 22 13 false (.bin .gtr (.s 14) (.s 21)),I 23 (.pick (.s 13) (.v (.bool true)) (.s 22))])
def p_cursor_Cursor_Seek_5:PC :=
 (.reg [4] [I 4 (.mv (V 3))])
def p_cursor_Cursor_Seek_6:PC :=
 (.reg [4] [I 24 (.mv (.s 0)),I 25 (.mv (.s 1)),I 26 (C F_cursor_Cursor_jump [(.s 24),(.s 25)]),I 4 (.mv (.s 26))])
def p_cursor_Cursor_Seek:PF:=⟨true,
 (.seq p_cursor_Cursor_Seek_0
 (.seq (.seq p_cursor_Cursor_Seek_1
 (.seq p_cursor_Cursor_Seek_2
 (.ite (.s 9)
 (.seq p_cursor_Cursor_Seek_3
 .ret)
 .skip)))
 (.seq (.seq p_cursor_Cursor_Seek_4
 (.ite (.s 23)
 (.seq p_cursor_Cursor_Seek_5
 .ret)
 .skip))
 (.seq p_cursor_Cursor_Seek_6
 .ret)))),
 [.s 4]⟩
theorem c_cursor_Cursor_Seek:compF Go.Proofs.Tryz.prog true h_cursor_Cursor_Seek Go.Proofs.Tryz.f30=some p_cursor_Cursor_Seek:=by kernel_rfl
def h_cursor_Cursor_Prev:List Hint:=[H [0],H [0,4],H [0,4,19],H [2,3],H [0,25],H [2,3],⟨[0,5],[0],[],[],[],[]⟩,H [0,5,6],H [0,5,6,7],H [0,5,6,7,34],H [0,5,6,7,8,9],H [0,5,6,7,8,9,49],H [0,5,6,7,11],H [0,5,6,7,11,60],H [2,3],H [0,5,6,8,9,71],H [2,3],H [0,5,6,8,9],H [0,5,6,12],H [0,5,6,12],H [0,5,6,7],H [5,13],H [5,13,95,96,97],H [5,13,95,96,97,98],H [5,13,14,15,95,96,97],H [5,13,95,96,97],H [5,13,95,96,97],H [2,3]]
def p_cursor_Cursor_Prev_0:PC :=
 (.reg [0] [I 2 (.mv (.v (.str []))),I 3 (.mv (V 0))])
def p_cursor_Cursor_Prev_1:PC :=
 (.reg [0,4] [I 16 (.mv (.s 0)),I 17 (C F_cursor_Cursor_ready [(.s 16)]),I 4 (.mv (.s 17))])
def p_cursor_Cursor_Prev_2:PC :=
 (.reg [0,4,19] [I 18 (.mv (.s 4)),I 19 (.bin .neq (.s 18) (V 0))])
def p_cursor_Cursor_Prev_3:PC :=
 (.reg [2,3] [I 20 (.mv (.s 4)),I 2 (.mv (.v (.str []))),I 3 (.mv (.s 20))])
def p_cursor_Cursor_Prev_4:PC :=
 (.reg [0,25] [I 21 (.mv (.s 0)),I 22 (.nilck (.s 21)),I 23 (.fadr 8 (.s 22)),I 24 (.ld false 1 (.s 23)),I 25 (.bin .eql (.s 24) (V 0))])
def p_cursor_Cursor_Prev_5:PC :=
 (.reg [2,3] [I 2 (.mv (.v (.str []))),I 3 (.mv (V 3))])
def p_cursor_Cursor_Prev_6:PC :=
 (.reg [0,5] [I 5 (.boxnil 1)])
def p_cursor_Cursor_Prev_7:PC :=
 (.reg [0,5,6] [I 26 (.mkf (.func F_cursor_Cursor_PrevC1) [] [(.s 5)]),I 6 (.mv (.s 26))])
def p_cursor_Cursor_Prev_8:PC :=
 (.reg [0,5,6,7] [I 7 (.mv (.v (.bool true)))])
def p_cursor_Cursor_Prev_9:PC :=
 (.reg [0,5,6,7,34] [I 27 (.mv (.s 7)),I 28 (.mv (.s 27)),G 29 28 true (.mv (.s 0)),G 30 28 true (.nilck (.s 29)),G 31 28 true (.fadr 8 (.s 30)),G 32 28 true (.ld false 1 (.s 31)),G 33 28 true (.bin .gtr (.s 32) (V 0)),I 34 (.pick (.s 28) (.s 33) (.v (.bool false)))])
def p_cursor_Cursor_Prev_10:PC :=
 (.reg [0,5,6,7,8,9] [I 36 (.mv (.s 0)),I 37 (.nilck (.s 36)),I 38 (.fadr 0 (.s 37)),I 39 (C F_cursor_path_leaf [(.s 38)]),I 35 (.mv (.s 39)),I 40 (.ext (.s 35) 0),I 41 (.ext (.s 35) 1),I 42 (.ext (.s 35) 2),I 8 (.mv (.s 40)),I 9 (.mv (.s 41)),I 10 (.mv (.s 42))])
def p_cursor_Cursor_Prev_11:PC :=
 (.reg [0,5,6,7,8,9,49] [I 43 (.mv (.s 0)),I 44 (.nilck (.s 43)),I 45 (.fadr 8 (.s 44)),I 46 (.ld false 1 (.s 45)),I 47 (.bin .sub (.s 46) (V 1)),I 48 (.mv (.s 9)),I 49 (.bin .lss (.s 47) (.s 48))])
def p_cursor_Cursor_Prev_12:PC :=
 (.reg [0,5,6,7,11] [I 50 (.mv (.s 0)),I 51 (.nilck (.s 50)),I 52 (.fadr 0 (.s 51)),I 53 (.mv (.s 0)),I 54 (.nilck (.s 53)),I 55 (.fadr 8 (.s 54)),I 56 (.ld false 1 (.s 55)),I 57 (.bin .sub (.s 56) (V 1)),I 58 (C F_cursor_path_enter [(.s 52),(.s 57)]),I 11 (.mv (.s 58))])
def p_cursor_Cursor_Prev_13:PC :=
 (.reg [0,5,6,7,11,60] [I 59 (.mv (.s 11)),I 60 (.bin .neq (.s 59) (V 0))])
def p_cursor_Cursor_Prev_14:PC :=
 (.reg [2,3] [I 61 (.mv (.s 11)),I 2 (.mv (.v (.str []))),I 3 (.mv (.s 61))])
def p_cursor_Cursor_Prev_15:PC :=
 (.reg [0,5,6,8,9,71] [I 62 (.mv (.s 0)),I 63 (.nilck (.s 62)),I 64 (.fadr 8 (.s 63)),I 65 (.ld false 1 (.s 64)),I 66 (.bin .sub (.s 65) (V 1)),I 67 (.mv (.s 9)),I 68 (.bin .sub (.s 66) (.s 67)),I 69 (.mv (.s 8)),I 70 (.len 0 (.s 69)),I 71 (.bin .geq (.s 68) (.s 70))])
def p_cursor_Cursor_Prev_16:PC :=
 (.reg [2,3] [I 2 (.mv (.v (.str []))),I 3 (.mv (V 23))])
def p_cursor_Cursor_Prev_17:PC :=
 (.reg [0,5,6,8,9] [I 72 (.mv (.s 0)),I 73 (.nilck (.s 72)),I 74 (.fadr 8 (.s 73)),I 75 (.ld false 1 (.s 74)),I 76 (.bin .sub (.s 75) (V 1)),I 77 (.nilck (.s 72)),I 78 (.fadr 8 (.s 77)),J (.st 1 (.s 78) (.s 76))])
def p_cursor_Cursor_Prev_18:PC :=
 (.reg [0,5,6,12] [I 79 (.mv (.s 8)),I 80 (.mv (.s 0)),I 81 (.nilck (.s 80)),I 82 (.fadr 8 (.s 81)),I 83 (.ld false 1 (.s 82)),I 84 (.mv (.s 9)),I 85 (.bin .sub (.s 83) (.s 84)),I 86 (.ixStr (.s 79) (.s 85)),I 12 (.mv (.s 86))])
def p_cursor_Cursor_Prev_19:PC :=
 (.reg [0,5,6,12] [I 87 (.mv (.s 6)),I 88 (.mv (.s 12)),I 89 (.call .norm (.s 87) [(.s 88)])])
def p_cursor_Cursor_Prev_20:PC :=
 (.reg [0,5,6,7] [I 90 (.mv (.s 12)),I 91 (C F_cursor_cont [(.s 90)]),I 7 (.mv (.s 91))])
def p_cursor_Cursor_Prev_21:PC :=
 (.seq (.seq p_cursor_Cursor_Prev_9
 (.ite (.s 34)
 .skip
 (.exit 0)))
 (.block 1
 (.seq p_cursor_Cursor_Prev_10
 (.seq (.seq p_cursor_Cursor_Prev_11
 (.ite (.s 49)
 (.seq (.seq p_cursor_Cursor_Prev_12
 (.seq p_cursor_Cursor_Prev_13
 (.ite (.s 60)
 (.seq p_cursor_Cursor_Prev_14
 .ret)
 .skip)))
 (.exit 1))
 .skip))
 (.seq (.seq p_cursor_Cursor_Prev_15
 (.ite (.s 71)
 (.seq p_cursor_Cursor_Prev_16
 .ret)
 .skip))
 (.seq p_cursor_Cursor_Prev_17
 (.seq p_cursor_Cursor_Prev_18
 (.seq p_cursor_Cursor_Prev_19
 p_cursor_Cursor_Prev_20))))))))
def p_cursor_Cursor_Prev_22:PC :=
 (.reg [5,13] [I 92 (.ld false 1 (.s 5)),I 93 (.len 1 (.s 92)),I 94 (.mkslice 1 1 (.int .u8 0) (.s 93) (.s 93)),I 13 (.mv (.s 94))])
def p_cursor_Cursor_Prev_23:PC :=
 (.reg [5,13,95,96,97] [I 95 (.ld false 1 (.s 5)),I 96 (.len 1 (.s 95)),I 97 (.mv (V 0))])
def p_cursor_Cursor_Prev_24:PC :=
 (.reg [5,13,95,96,97,98] [I 98 (.bin .lss (.s 97) (.s 96))])
def p_cursor_Cursor_Prev_25:PC :=
 (.reg [5,13,14,15,95,96,97] [I 99 (.mv (.s 97)),I 100 (.ixS 1 (.s 95) (.s 97)),I 101 (.ld false 1 (.s 100)),I 14 (.mv (.s 99)),I 15 (.mv (.s 101))])
def p_cursor_Cursor_Prev_26:PC :=
 (.reg [5,13,95,96,97] [I 102 (.mv (.s 13)),I 103 (.ld false 1 (.s 5)),I 104 (.len 1 (.s 103)),I 105 (.bin .sub (.s 104) (V 1)),I 106 (.mv (.s 14)),I 107 (.bin .sub (.s 105) (.s 106)),I 108 (.mv (.s 15)),I 109 (.ixS 1 (.s 102) (.s 107)),J (.st 1 (.s 109) (.s 108))])
def p_cursor_Cursor_Prev_27:PC :=
 (.reg [5,13,95,96,97] [I 110 (.bin .add (.s 97) (V 1)),I 97 (.mv (.s 110))])
def p_cursor_Cursor_Prev_28:PC :=
 (.seq p_cursor_Cursor_Prev_24
 (.seq (.ite (.s 98)
 .skip
 (.exit 2))
 (.seq (.block 3
 (.seq p_cursor_Cursor_Prev_25
 p_cursor_Cursor_Prev_26))
 p_cursor_Cursor_Prev_27)))
def p_cursor_Cursor_Prev_29:PC :=
 (.reg [2,3] [I 111 (.mv (.s 13)),I 112 (.b2s (.s 111)),I 2 (.mv (.s 112)),I 3 (.mv (V 0))])
def p_cursor_Cursor_Prev:PF:=⟨true,
 (.seq p_cursor_Cursor_Prev_0
 (.seq (.seq p_cursor_Cursor_Prev_1
 (.seq p_cursor_Cursor_Prev_2
 (.ite (.s 19)
 (.seq p_cursor_Cursor_Prev_3
 .ret)
 .skip)))
 (.seq (.seq p_cursor_Cursor_Prev_4
 (.ite (.s 25)
 (.seq p_cursor_Cursor_Prev_5
 .ret)
 .skip))
 (.seq p_cursor_Cursor_Prev_6
 (.seq p_cursor_Cursor_Prev_7
 (.seq (.seq p_cursor_Cursor_Prev_8
 (.block 0
 (.loop p_cursor_Cursor_Prev_21)))
 (.seq p_cursor_Cursor_Prev_22
 (.seq (.seq p_cursor_Cursor_Prev_23
 (.block 2
 (.loop p_cursor_Cursor_Prev_28)))
 (.seq p_cursor_Cursor_Prev_29
 .ret))))))))),
 [.s 2,.s 3]⟩
theorem c_cursor_Cursor_Prev:compF Go.Proofs.Tryz.prog true h_cursor_Cursor_Prev Go.Proofs.Tryz.f31=some p_cursor_Cursor_Prev:=by kernel_rfl
def h_cursor_Cursor_Read:List Hint:=[H [0,3],H [0,3,6],H [0,3,6,10],H [4,5],H [0,3,13],H [4,5],H [4,5]]
def p_cursor_Cursor_Read_0:PC :=
 (.reg [0,3] [I 3 (.box (.s 1)),I 4 (.mv (.v (.str []))),I 5 (.mv (V 0))])
def p_cursor_Cursor_Read_1:PC :=
 (.reg [0,3,6] [I 7 (.mv (.s 0)),I 8 (C F_cursor_Cursor_ready [(.s 7)]),I 6 (.mv (.s 8))])
def p_cursor_Cursor_Read_2:PC :=
 (.reg [0,3,6,10] [I 9 (.mv (.s 6)),I 10 (.bin .neq (.s 9) (V 0))])
def p_cursor_Cursor_Read_3:PC :=
 (.reg [4,5] [I 11 (.mv (.s 6)),I 4 (.mv (.v (.str []))),I 5 (.mv (.s 11))])
def p_cursor_Cursor_Read_4:PC :=
 (.reg [0,3,13] [I 12 (.ld false 1 (.s 3)),I 13 (.bin .lss (.s 12) (V 0))])
def p_cursor_Cursor_Read_5:PC :=
 (.reg [4,5] [I 4 (.mv (.v (.str []))),I 5 (.mv (V 2))])
def p_cursor_Cursor_Read_6:PC :=
 (.reg [4,5] [I 14 (.mv (.s 0)),I 15 (.mkf (.func F_cursor_Cursor_ReadC1) [] [(.s 3)]),I 16 (C F_cursor_Cursor_forward [(.s 14),(.s 15)]),I 17 (.ext (.s 16) 0),I 18 (.ext (.s 16) 1),I 4 (.mv (.s 17)),I 5 (.mv (.s 18))])
def p_cursor_Cursor_Read:PF:=⟨true,
 (.seq p_cursor_Cursor_Read_0
 (.seq (.seq p_cursor_Cursor_Read_1
 (.seq p_cursor_Cursor_Read_2
 (.ite (.s 10)
 (.seq p_cursor_Cursor_Read_3
 .ret)
 .skip)))
 (.seq (.seq p_cursor_Cursor_Read_4
 (.ite (.s 13)
 (.seq p_cursor_Cursor_Read_5
 .ret)
 .skip))
 (.seq p_cursor_Cursor_Read_6
 .ret)))),
 [.s 4,.s 5]⟩
theorem c_cursor_Cursor_Read:compF Go.Proofs.Tryz.prog true h_cursor_Cursor_Read Go.Proofs.Tryz.f32=some p_cursor_Cursor_Read:=by kernel_rfl
def h_cursor_Cursor_NextLine:List Hint:=[H [0],H [0,3],H [0,3,10],H [2],H [0,4,5],H [0,4,5,31],H [2],H [0,5,6],H [0,5,6,50],H [2],H [2]]
def p_cursor_Cursor_NextLine_0:PC :=
 (.reg [0] [I 2 (.mv (V 0))])
def p_cursor_Cursor_NextLine_1:PC :=
 (.reg [0,3] [I 7 (.mv (.s 0)),I 8 (C F_cursor_Cursor_ready [(.s 7)]),I 3 (.mv (.s 8))])
def p_cursor_Cursor_NextLine_2:PC :=
 (.reg [0,3,10] [I 9 (.mv (.s 3)),I 10 (.bin .neq (.s 9) (V 0))])
def p_cursor_Cursor_NextLine_3:PC :=
 (.reg [2] [I 11 (.mv (.s 3)),I 2 (.mv (.s 11))])
def p_cursor_Cursor_NextLine_4:PC :=
 (.reg [0,4,5] [I 13 (.mv (.s 0)),I 14 (.nilck (.s 13)),I 15 (.fadr 0 (.s 14)),I 16 (.fadr 0 (.s 15)),I 17 (.ld false 1 (.s 16)),I 18 (.mv (.s 0)),I 19 (.nilck (.s 18)),I 20 (.fadr 0 (.s 19)),I 21 (.fadr 1 (.s 20)),I 22 (.ld true 5 (.s 21)),I 23 (.mv (.s 0)),I 24 (.nilck (.s 23)),I 25 (.fadr 8 (.s 24)),I 26 (.ld false 1 (.s 25)),I 27 (C F_seek_LineOf [(.s 17),(.s 22),(.s 26)]),I 12 (.mv (.s 27)),I 28 (.ext (.s 12) 0),I 29 (.ext (.s 12) 1),I 4 (.mv (.s 28)),I 5 (.mv (.s 29))])
def p_cursor_Cursor_NextLine_5:PC :=
 (.reg [0,4,5,31] [I 30 (.mv (.s 5)),I 31 (.bin .neq (.s 30) (V 0))])
def p_cursor_Cursor_NextLine_6:PC :=
 (.reg [2] [I 32 (.mv (.s 5)),I 2 (.mv (.s 32))])
def p_cursor_Cursor_NextLine_7:PC :=
 (.reg [0,5,6] [I 34 (.mv (.s 0)),I 35 (.nilck (.s 34)),I 36 (.fadr 0 (.s 35)),I 37 (.fadr 0 (.s 36)),I 38 (.ld false 1 (.s 37)),I 39 (.mv (.s 0)),I 40 (.nilck (.s 39)),I 41 (.fadr 0 (.s 40)),I 42 (.fadr 1 (.s 41)),I 43 (.ld true 5 (.s 42)),I 44 (.mv (.s 4)),I 45 (.bin .add (.s 44) (V 1)),I 46 (C F_seek_Line [(.s 38),(.s 43),(.s 45)]),I 33 (.mv (.s 46)),I 47 (.ext (.s 33) 0),I 48 (.ext (.s 33) 1),I 6 (.mv (.s 47)),I 5 (.mv (.s 48))])
def p_cursor_Cursor_NextLine_8:PC :=
 (.reg [0,5,6,50] [I 49 (.mv (.s 5)),I 50 (.bin .neq (.s 49) (V 0))])
def p_cursor_Cursor_NextLine_9:PC :=
 (.reg [2] [I 51 (.mv (.s 5)),I 2 (.mv (.s 51))])
def p_cursor_Cursor_NextLine_10:PC :=
 (.reg [2] [I 52 (.mv (.s 0)),I 53 (.mv (.s 6)),I 54 (C F_cursor_Cursor_jump [(.s 52),(.s 53)]),I 2 (.mv (.s 54))])
def p_cursor_Cursor_NextLine:PF:=⟨true,
 (.seq p_cursor_Cursor_NextLine_0
 (.seq (.seq p_cursor_Cursor_NextLine_1
 (.seq p_cursor_Cursor_NextLine_2
 (.ite (.s 10)
 (.seq p_cursor_Cursor_NextLine_3
 .ret)
 .skip)))
 (.seq p_cursor_Cursor_NextLine_4
 (.seq (.seq p_cursor_Cursor_NextLine_5
 (.ite (.s 31)
 (.seq p_cursor_Cursor_NextLine_6
 .ret)
 .skip))
 (.seq p_cursor_Cursor_NextLine_7
 (.seq (.seq p_cursor_Cursor_NextLine_8
 (.ite (.s 50)
 (.seq p_cursor_Cursor_NextLine_9
 .ret)
 .skip))
 (.seq p_cursor_Cursor_NextLine_10
 .ret))))))),
 [.s 2]⟩
theorem c_cursor_Cursor_NextLine:compF Go.Proofs.Tryz.prog true h_cursor_Cursor_NextLine Go.Proofs.Tryz.f33=some p_cursor_Cursor_NextLine:=by kernel_rfl
def h_cursor_Cursor_PrevLine:List Hint:=[H [0],H [0,3],H [0,3,10],H [2],H [0,16],H [2],H [0,4,5],H [0,4,5,37],H [2],H [0,5,6],H [0,5,6,55],H [2],H [2]]
def p_cursor_Cursor_PrevLine_0:PC :=
 (.reg [0] [I 2 (.mv (V 0))])
def p_cursor_Cursor_PrevLine_1:PC :=
 (.reg [0,3] [I 7 (.mv (.s 0)),I 8 (C F_cursor_Cursor_ready [(.s 7)]),I 3 (.mv (.s 8))])
def p_cursor_Cursor_PrevLine_2:PC :=
 (.reg [0,3,10] [I 9 (.mv (.s 3)),I 10 (.bin .neq (.s 9) (V 0))])
def p_cursor_Cursor_PrevLine_3:PC :=
 (.reg [2] [I 11 (.mv (.s 3)),I 2 (.mv (.s 11))])
def p_cursor_Cursor_PrevLine_4:PC :=
 (.reg [0,16] [I 12 (.mv (.s 0)),I 13 (.nilck (.s 12)),I 14 (.fadr 8 (.s 13)),I 15 (.ld false 1 (.s 14)),I 16 (.bin .eql (.s 15) (V 0))])
def p_cursor_Cursor_PrevLine_5:PC :=
 (.reg [2] [I 2 (.mv (V 3))])
def p_cursor_Cursor_PrevLine_6:PC :=
 (.reg [0,4,5] [I 18 (.mv (.s 0)),I 19 (.nilck (.s 18)),I 20 (.fadr 0 (.s 19)),I 21 (.fadr 0 (.s 20)),I 22 (.ld false 1 (.s 21)),I 23 (.mv (.s 0)),I 24 (.nilck (.s 23)),I 25 (.fadr 0 (.s 24)),I 26 (.fadr 1 (.s 25)),I 27 (.ld true 5 (.s 26)),I 28 (.mv (.s 0)),I 29 (.nilck (.s 28)),I 30 (.fadr 8 (.s 29)),I 31 (.ld false 1 (.s 30)),I 32 (.bin .sub (.s 31) (V 1)),I 33 (C F_seek_LineOf [(.s 22),(.s 27),(.s 32)]),I 17 (.mv (.s 33)),I 34 (.ext (.s 17) 0),I 35 (.ext (.s 17) 1),I 4 (.mv (.s 34)),I 5 (.mv (.s 35))])
def p_cursor_Cursor_PrevLine_7:PC :=
 (.reg [0,4,5,37] [I 36 (.mv (.s 5)),I 37 (.bin .neq (.s 36) (V 0))])
def p_cursor_Cursor_PrevLine_8:PC :=
 (.reg [2] [I 38 (.mv (.s 5)),I 2 (.mv (.s 38))])
def p_cursor_Cursor_PrevLine_9:PC :=
 (.reg [0,5,6] [I 40 (.mv (.s 0)),I 41 (.nilck (.s 40)),I 42 (.fadr 0 (.s 41)),I 43 (.fadr 0 (.s 42)),I 44 (.ld false 1 (.s 43)),I 45 (.mv (.s 0)),I 46 (.nilck (.s 45)),I 47 (.fadr 0 (.s 46)),I 48 (.fadr 1 (.s 47)),I 49 (.ld true 5 (.s 48)),I 50 (.mv (.s 4)),I 51 (C F_seek_Line [(.s 44),(.s 49),(.s 50)]),I 39 (.mv (.s 51)),I 52 (.ext (.s 39) 0),I 53 (.ext (.s 39) 1),I 6 (.mv (.s 52)),I 5 (.mv (.s 53))])
def p_cursor_Cursor_PrevLine_10:PC :=
 (.reg [0,5,6,55] [I 54 (.mv (.s 5)),I 55 (.bin .neq (.s 54) (V 0))])
def p_cursor_Cursor_PrevLine_11:PC :=
 (.reg [2] [I 56 (.mv (.s 5)),I 2 (.mv (.s 56))])
def p_cursor_Cursor_PrevLine_12:PC :=
 (.reg [2] [I 57 (.mv (.s 0)),I 58 (.mv (.s 6)),I 59 (C F_cursor_Cursor_jump [(.s 57),(.s 58)]),I 2 (.mv (.s 59))])
def p_cursor_Cursor_PrevLine:PF:=⟨true,
 (.seq p_cursor_Cursor_PrevLine_0
 (.seq (.seq p_cursor_Cursor_PrevLine_1
 (.seq p_cursor_Cursor_PrevLine_2
 (.ite (.s 10)
 (.seq p_cursor_Cursor_PrevLine_3
 .ret)
 .skip)))
 (.seq (.seq p_cursor_Cursor_PrevLine_4
 (.ite (.s 16)
 (.seq p_cursor_Cursor_PrevLine_5
 .ret)
 .skip))
 (.seq p_cursor_Cursor_PrevLine_6
 (.seq (.seq p_cursor_Cursor_PrevLine_7
 (.ite (.s 37)
 (.seq p_cursor_Cursor_PrevLine_8
 .ret)
 .skip))
 (.seq p_cursor_Cursor_PrevLine_9
 (.seq (.seq p_cursor_Cursor_PrevLine_10
 (.ite (.s 55)
 (.seq p_cursor_Cursor_PrevLine_11
 .ret)
 .skip))
 (.seq p_cursor_Cursor_PrevLine_12
 .ret)))))))),
 [.s 2]⟩
theorem c_cursor_Cursor_PrevLine:compF Go.Proofs.Tryz.prog true h_cursor_Cursor_PrevLine Go.Proofs.Tryz.f34=some p_cursor_Cursor_PrevLine:=by kernel_rfl
def h_rope_Free:List Hint:=[H [0,3],H [0,6,7],H [0,6,7,18],H [4,5],H [0,6,20,21,22],H [0,6,20,21,22,23],H [0,6,9,20,21,22],H [0,6,10,20,21,22],H [0,6,10,20,21,22,30],H [4,5],H [0,6,20,21,22],H [4,5]]
def p_rope_Free_0:PC :=
 (.reg [0,3] [I 3 (.box (.s 1)),I 4 (.mv (V 0)),I 5 (.mv (V 0))])
def p_rope_Free_1:PC :=
 (.reg [0,6,7] [I 12 (.mv (.s 0)),I 13 (.ld true 5 (.s 3)),I 14 (C F_rope_Nodes [(.s 12),(.s 13)]),I 11 (.mv (.s 14)),I 15 (.ext (.s 11) 0),I 16 (.ext (.s 11) 1),I 6 (.mv (.s 15)),I 7 (.mv (.s 16))])
def p_rope_Free_2:PC :=
 (.reg [0,6,7,18] [I 17 (.mv (.s 7)),I 18 (.bin .neq (.s 17) (V 0))])
def p_rope_Free_3:PC :=
 (.reg [4,5] [I 19 (.mv (.s 7)),I 4 (.mv (V 0)),I 5 (.mv (.s 19))])
def p_rope_Free_4:PC :=
 (.reg [0,6,20,21,22] [I 20 (.mv (.s 6)),I 21 (.len 1 (.s 20)),I 22 (.mv (V 0))])
def p_rope_Free_5:PC :=
 (.reg [0,6,20,21,22,23] [I 23 (.bin .lss (.s 22) (.s 21))])
def p_rope_Free_6:PC :=
 (.reg [0,6,9,20,21,22] [I 24 (.ixS 1 (.s 20) (.s 22)),I 25 (.ld false 1 (.s 24)),I 9 (.mv (.s 25))])
def p_rope_Free_7:PC :=
 (.reg [0,6,10,20,21,22] [I 26 (.mv (.s 0)),I 27 (.mv (.s 9)),I 28 (C F_arena_Arena_Free [(.s 26),(.s 27)]),I 10 (.mv (.s 28))])
def p_rope_Free_8:PC :=
 (.reg [0,6,10,20,21,22,30] [I 29 (.mv (.s 10)),I 30 (.bin .neq (.s 29) (V 0))])
def p_rope_Free_9:PC :=
 (.reg [4,5] [I 31 (.mv (.s 10)),I 4 (.mv (V 0)),I 5 (.mv (.s 31))])
def p_rope_Free_10:PC :=
 (.reg [0,6,20,21,22] [I 32 (.bin .add (.s 22) (V 1)),I 22 (.mv (.s 32))])
def p_rope_Free_11:PC :=
 (.seq p_rope_Free_5
 (.seq (.ite (.s 23)
 .skip
 (.exit 0))
 (.seq (.block 1
 (.seq p_rope_Free_6
 (.seq p_rope_Free_7
 (.seq p_rope_Free_8
 (.ite (.s 30)
 (.seq p_rope_Free_9
 .ret)
 .skip)))))
 p_rope_Free_10)))
def p_rope_Free_12:PC :=
 (.reg [4,5] [I 33 (.mv (.s 6)),I 34 (.len 1 (.s 33)),I 4 (.mv (.s 34)),I 5 (.mv (V 0))])
def p_rope_Free:PF:=⟨false,
 (.seq p_rope_Free_0
 (.seq p_rope_Free_1
 (.seq (.seq p_rope_Free_2
 (.ite (.s 18)
 (.seq p_rope_Free_3
 .ret)
 .skip))
 (.seq (.seq p_rope_Free_4
 (.block 0
 (.loop p_rope_Free_11)))
 (.seq p_rope_Free_12
 .ret))))),
 [.s 4,.s 5]⟩
theorem c_rope_Free:compF Go.Proofs.Tryz.prog false h_rope_Free Go.Proofs.Tryz.f35=some p_rope_Free:=by kernel_rfl
def h_arena_Arena_Stats:List Hint:=[H [0,2],H [0,2,4],H [2],⟨[2],[],[(8,.pure),(19,.pure)],[],[],[]⟩]
def p_arena_Arena_Stats_0:PC :=
 (.reg [0,2] [I 2 (.box (.v (.agg [(.int .i64 0),(.int .i64 0),(.int .i64 0),(.int .i64 0),(.int .i64 0),(.int .i64 0),(.int .i64 0)])))])
def p_arena_Arena_Stats_1:PC :=
 (.reg [0,2,4] [I 3 (.mv (.s 0)),I 4 (.eqs false 3 [] (.s 3) (.v .nilptr))])
def p_arena_Arena_Stats_2:PC :=
 (.reg [2] [I 5 (.build [(.int .i64 0),(.int .i64 0),(.int .i64 0),(.int .i64 0),(.int .i64 0),(.int .i64 0),(.int .i64 0)] []),J (.st 7 (.s 2) (.s 5))])
def p_arena_Arena_Stats_3:PC :=
 (.reg [2] [I 6 (.mv (.s 0)),I 7 (.nilck (.s 6)),I 8 (.fadr 0 (.s 7)),I 9 (.ld false 1 (.s 8)),I 10 (.mv (.s 0)),I 11 (.nilck (.s 10)),I 12 (.fadr 1 (.s 11)),I 13 (.ld false 1 (.s 12)),I 14 (.call .pure (.v (.func (.func F_freelist_List_Free) [] [])) [(.s 13)]),I 15 (.len 1 (.s 14)),I 16 (.mv (.s 0)),I 17 (.nilck (.s 16)),I 18 (.fadr 2 (.s 17)),I 19 (.ld false 1 (.s 18)),I 20 (.len 2 (.s 19)),I 21 (.mv (.s 0)),I 22 (.nilck (.s 21)),I 23 (.fadr 1 (.s 22)),I 24 (.ld false 1 (.s 23)),I 25 (.call .pure (.v (.func (.func F_freelist_List_Withdrawn) [] [])) [(.s 24)]),I 26 (.len 1 (.s 25)),I 27 (.mv (.s 0)),I 28 (.nilck (.s 27)),I 29 (.fadr 3 (.s 28)),I 30 (.ld false 1 (.s 29)),I 31 (.mv (.s 0)),I 32 (.nilck (.s 31)),I 33 (.fadr 4 (.s 32)),I 34 (.ld false 1 (.s 33)),I 35 (.mv (.s 0)),I 36 (.nilck (.s 35)),I 37 (.fadr 5 (.s 36)),I 38 (.ld false 1 (.s 37)),I 39 (.build [(.int .i64 0),(.int .i64 0),(.int .i64 0),(.int .i64 0),(.int .i64 0),(.int .i64 0),(.int .i64 0)] [(0,1,(.s 9)),(1,1,(.s 15)),(2,1,(.s 20)),(3,1,(.s 26)),(4,1,(.s 30)),(5,1,(.s 34)),(6,1,(.s 38))]),J (.st 7 (.s 2) (.s 39))])
def p_arena_Arena_Stats:PF:=⟨false,
 (.seq p_arena_Arena_Stats_0
 (.seq (.seq p_arena_Arena_Stats_1
 (.ite (.s 4)
 (.seq p_arena_Arena_Stats_2
 .ret)
 .skip))
 (.seq p_arena_Arena_Stats_3
 .ret))),
 [.c 2 true 7]⟩
theorem c_arena_Arena_Stats:compF Go.Proofs.Tryz.prog false h_arena_Arena_Stats Go.Proofs.Tryz.f36=some p_arena_Arena_Stats:=by kernel_rfl
def h_arena_Arena_Free:List Hint:=[H [0,1],H [0,1,8],H [4],H [0,1,6],H [0,1,6,19],H [6],H [4],H [0],H [],H [4]]
def p_arena_Arena_Free_0:PC :=
 (.reg [0,1] [I 4 (.mv (V 0))])
def p_arena_Arena_Free_1:PC :=
 (.reg [0,1,8] [I 7 (.mv (.s 0)),I 8 (.eqs false 3 [] (.s 7) (.v .nilptr))])
def p_arena_Arena_Free_2:PC :=
 (.reg [4] [I 4 (.mv (V 1))])
def p_arena_Arena_Free_3:PC :=
 (.reg [0,1,6] [I 10 (.mv (.s 0)),I 11 (.nilck (.s 10)),I 12 (.fadr 1 (.s 11)),I 13 (.ld false 1 (.s 12)),I 14 (.mv (.s 1)),I 15 (C F_freelist_List_Give [(.s 13),(.s 14)]),I 9 (.mv (.s 15)),I 16 (.ext (.s 9) 0),I 17 (.ext (.s 9) 1),I 5 (.mv (.s 16)),I 6 (.mv (.s 17))])
def p_arena_Arena_Free_4:PC :=
 (.reg [0,1,6,19] [I 18 (.mv (.s 6)),I 19 (.bin .neq (.s 18) (V 0))])
def p_arena_Arena_Free_5:PC :=
 (.reg [6] [I 20 (.mv (.s 0)),I 21 (.nilck (.s 20)),I 22 (.fadr 5 (.s 21)),I 23 (.ld false 1 (.s 22)),I 24 (.bin .add (.s 23) (V 1)),I 25 (.nilck (.s 20)),I 26 (.fadr 5 (.s 25)),J (.st 1 (.s 26) (.s 24))])
def p_arena_Arena_Free_6:PC :=
 (.reg [4] [I 27 (.mv (.s 6)),I 4 (.mv (.s 27))])
def p_arena_Arena_Free_7:PC :=
 (.reg [0] [I 28 (.mv (.s 0)),I 29 (.nilck (.s 28)),I 30 (.fadr 2 (.s 29)),I 31 (.ld false 1 (.s 30)),I 32 (.mv (.s 1)),J (.mdel 0 (.s 31) (.s 32))])
def p_arena_Arena_Free_8:PC :=
 (.reg [] [I 33 (.mv (.s 0)),I 34 (.nilck (.s 33)),I 35 (.fadr 4 (.s 34)),I 36 (.ld false 1 (.s 35)),I 37 (.bin .add (.s 36) (V 1)),I 38 (.nilck (.s 33)),I 39 (.fadr 4 (.s 38)),J (.st 1 (.s 39) (.s 37))])
def p_arena_Arena_Free_9:PC :=
 (.reg [4] [I 4 (.mv (V 0))])
def p_arena_Arena_Free:PF:=⟨false,
 (.seq p_arena_Arena_Free_0
 (.seq (.seq p_arena_Arena_Free_1
 (.ite (.s 8)
 (.seq p_arena_Arena_Free_2
 .ret)
 .skip))
 (.seq (.seq p_arena_Arena_Free_3
 (.seq p_arena_Arena_Free_4
 (.ite (.s 19)
 (.seq p_arena_Arena_Free_5
 (.seq p_arena_Arena_Free_6
 .ret))
 .skip)))
 (.seq p_arena_Arena_Free_7
 (.seq p_arena_Arena_Free_8
 (.seq p_arena_Arena_Free_9
 .ret)))))),
 [.s 4]⟩
theorem c_arena_Arena_Free:compF Go.Proofs.Tryz.prog false h_arena_Arena_Free Go.Proofs.Tryz.f65=some p_arena_Arena_Free:=by kernel_rfl
def h_arena_New:List Hint:=[H [0,1],H [0,6,7],H [0,6,7,15],H [4,5],H [4,5]]
def p_arena_New_0:PC :=
 (.reg [0,1] [I 4 (.mv (.v .nilptr)),I 5 (.mv (V 0))])
def p_arena_New_1:PC :=
 (.reg [0,6,7] [I 9 (.mv (.s 0)),I 10 (.mv (.s 1)),I 11 (C F_freelist_New [(.s 9),(.s 10)]),I 8 (.mv (.s 11)),I 12 (.ext (.s 8) 0),I 13 (.ext (.s 8) 1),I 6 (.mv (.s 12)),I 7 (.mv (.s 13))])
def p_arena_New_2:PC :=
 (.reg [0,6,7,15] [I 14 (.mv (.s 7)),I 15 (.bin .neq (.s 14) (V 0))])
def p_arena_New_3:PC :=
 (.reg [4,5] [I 16 (.mv (.s 7)),I 4 (.mv (.v .nilptr)),I 5 (.mv (.s 16))])
def p_arena_New_4:PC :=
 (.reg [4,5] [I 17 (.mv (.s 0)),I 18 (.mv (.s 6)),I 19 (.mkmap),I 20 (.build [(.int .i64 0),.nilptr,.nilmap,(.int .i64 0),(.int .i64 0),(.int .i64 0)] [(0,1,(.s 17)),(1,1,(.s 18)),(2,1,(.s 19))]),I 21 (.box (.s 20)),I 4 (.mv (.s 21)),I 5 (.mv (V 0))])
def p_arena_New:PF:=⟨true,
 (.seq p_arena_New_0
 (.seq p_arena_New_1
 (.seq (.seq p_arena_New_2
 (.ite (.s 15)
 (.seq p_arena_New_3
 .ret)
 .skip))
 (.seq p_arena_New_4
 .ret)))),
 [.s 4,.s 5]⟩
theorem c_arena_New:compF Go.Proofs.Tryz.prog true h_arena_New Go.Proofs.Tryz.f66=some p_arena_New:=by kernel_rfl
def h_quartoref13_New:List Hint:=[H [0,1],H [6,7],H [6,7,15],H [4,5],H [4,5]]
def p_quartoref13_New_0:PC :=
 (.reg [0,1] [I 4 (.mv (.v .nilptr)),I 5 (.mv (V 0))])
def p_quartoref13_New_1:PC :=
 (.reg [6,7] [I 9 (.mv (.s 0)),I 10 (.mv (.s 1)),I 11 (C F_quartoref11_New [(.s 9),(.s 10)]),I 8 (.mv (.s 11)),I 12 (.ext (.s 8) 0),I 13 (.ext (.s 8) 1),I 6 (.mv (.s 12)),I 7 (.mv (.s 13))])
def p_quartoref13_New_2:PC :=
 (.reg [6,7,15] [I 14 (.mv (.s 7)),I 15 (.bin .neq (.s 14) (V 0))])
def p_quartoref13_New_3:PC :=
 (.reg [4,5] [I 16 (.mv (.s 7)),I 4 (.mv (.v .nilptr)),I 5 (.mv (.s 16))])
def p_quartoref13_New_4:PC :=
 (.reg [4,5] [I 17 (.mv (.s 6)),I 18 (.build [.nilptr,.nils,(.int .i64 0),(.int .i64 0),(.int .i64 0),(.int .i64 0),(.int .i64 0),(.int .i64 0),(.int .i64 0)] [(0,1,(.s 17))]),I 19 (.box (.s 18)),I 4 (.mv (.s 19)),I 5 (.mv (V 0))])
def p_quartoref13_New:PF:=⟨true,
 (.seq p_quartoref13_New_0
 (.seq p_quartoref13_New_1
 (.seq (.seq p_quartoref13_New_2
 (.ite (.s 15)
 (.seq p_quartoref13_New_3
 .ret)
 .skip))
 (.seq p_quartoref13_New_4
 .ret)))),
 [.s 4,.s 5]⟩
theorem c_quartoref13_New:compF Go.Proofs.Tryz.prog true h_quartoref13_New Go.Proofs.Tryz.f67=some p_quartoref13_New:=by kernel_rfl
def h_arena_Arena_Alloc:List Hint:=[H [0,3],H [0,3,16],H [4,5],H [0,3,6],H [0,3,6,20],H [4,5],H [0,3,23,24,25],H [0,3,23,24,25,26],H [0,3,8,23,24,25],H [0,3,8,9,10,23,24,25],H [0,3,8,9,23,24,25,40],H [4,5],H [0,3,8,9,11,12,23,24,25],H [0,3,23,24,25,61],H [4,5],H [0,3,23,24,25],H [0,3,13,14],H [0,3,13,14,72],H [4,5],H [0,3,13],H [0,13],H [13],H [4,5]]
def p_arena_Arena_Alloc_0:PC :=
 (.reg [0,3] [I 3 (.box (.s 1)),I 4 (.mv (.v (.int .u64 0))),I 5 (.mv (V 0))])
def p_arena_Arena_Alloc_1:PC :=
 (.reg [0,3,16] [I 15 (.mv (.s 0)),I 16 (.eqs false 3 [] (.s 15) (.v .nilptr))])
def p_arena_Arena_Alloc_2:PC :=
 (.reg [4,5] [I 4 (.mv (.v (.int .u64 0))),I 5 (.mv (V 1))])
def p_arena_Arena_Alloc_3:PC :=
 (.reg [0,3,6] [I 17 (.ld true 3 (.s 3)),I 18 (C F_node_Check [(.s 17)]),I 6 (.mv (.s 18))])
def p_arena_Arena_Alloc_4:PC :=
 (.reg [0,3,6,20] [I 19 (.mv (.s 6)),I 20 (.bin .neq (.s 19) (V 0))])
def p_arena_Arena_Alloc_5:PC :=
 (.reg [4,5] [I 21 (.mv (.s 6)),I 4 (.mv (.v (.int .u64 0))),I 5 (.mv (.s 21))])
def p_arena_Arena_Alloc_6:PC :=
 (.reg [0,3,23,24,25] [I 22 (.fadr 2 (.s 3)),I 23 (.ld false 1 (.s 22)),I 24 (.len 1 (.s 23)),I 25 (.mv (V 0))])
def p_arena_Arena_Alloc_7:PC :=
 (.reg [0,3,23,24,25,26] [I 26 (.bin .lss (.s 25) (.s 24))])
def p_arena_Arena_Alloc_8:PC :=
 (.reg [0,3,8,23,24,25] [I 27 (.ixS 4 (.s 23) (.s 25)),I 28 (.ld true 4 (.s 27)),I 8 (.box (.v ZK)),J (.st 4 (.s 8) (.s 28))])
def p_arena_Arena_Alloc_9:PC :=
 (.reg [0,3,8,9,10,23,24,25] [I 30 (.mv (.s 0)),I 31 (.nilck (.s 30)),I 32 (.fadr 2 (.s 31)),I 33 (.ld false 1 (.s 32)),I 34 (.fadr 0 (.s 8)),I 35 (.ld false 1 (.s 34)),I 36 (.look 0 ZN true (.s 33) (.s 35)),I 29 (.mv (.s 36)),I 37 (.ext (.s 29) 0),I 38 (.ext (.s 29) 1),I 9 (.box (.v ZN)),J (.st 3 (.s 9) (.s 37)),I 10 (.mv (.s 38))])
def p_arena_Arena_Alloc_10:PC :=
 (.reg [0,3,8,9,23,24,25,40] [I 39 (.mv (.s 10)),I 40 (.un .not (.s 39))])
def p_arena_Arena_Alloc_11:PC :=
 (.reg [4,5] [I 4 (.mv (.v (.int .u64 0))),I 5 (.mv (V 10))])
def p_arena_Arena_Alloc_12:PC :=
 (.reg [0,3,8,9,11,12,23,24,25] [I 42 (.ld true 3 (.s 9)),I 43 (C F_node_Measure [(.s 42)]),I 41 (.mv (.s 43)),I 44 (.ext (.s 41) 0),I 45 (.ext (.s 41) 1),I 11 (.box (.v ZM)),J (.st 3 (.s 11) (.s 44)),I 12 (.mv (.s 45))])
def p_arena_Arena_Alloc_13:PC :=
 (.reg [0,3,23,24,25,61] [I 46 (.mv (.s 12)),I 47 (.bin .neq (.s 46) (V 0)),I 48 (.mv (.s 47)),G 49 48 false (.fadr 0 (.s 9)),G 50 48 false (.ld false 1 (.s 49)),G 51 48 false (.fadr 0 (.s 3)),G 52 48 false (.ld false 1 (.s 51)),G 53 48 false (.bin .sub (.s 52) (V 1)),G 54 48 false (.bin .neq (.s 50) (.s 53)),I 55 (.pick (.s 48) (.v (.bool true)) (.s 54)),I 56 (.mv (.s 55)),G 57 56 false (.ld true 3 (.s 11)),G 58 56 false (.fadr 1 (.s 8)),G 59 56 false (.ld true 3 (.s 58)),G 60 56 false (.eqs true 0 [(0,0),(1,0),(2,0)] (.s 57) (.s 59)),I 61 (.pick (.s 56) (.v (.bool true)) (.s 60))])
def p_arena_Arena_Alloc_14:PC :=
 (.reg [4,5] [I 4 (.mv (.v (.int .u64 0))),I 5 (.mv (V 23))])
def p_arena_Arena_Alloc_15:PC :=
 (.reg [0,3,23,24,25] [I 62 (.bin .add (.s 25) (V 1)),I 25 (.mv (.s 62))])
def p_arena_Arena_Alloc_16:PC :=
 (.seq p_arena_Arena_Alloc_7
 (.seq (.ite (.s 26)
 .skip
 (.exit 0))
 (.seq (.block 1
 (.seq p_arena_Arena_Alloc_8
 (.seq p_arena_Arena_Alloc_9
 (.seq (.seq p_arena_Arena_Alloc_10
 (.ite (.s 40)
 (.seq p_arena_Arena_Alloc_11
 .ret)
 .skip))
 (.seq p_arena_Arena_Alloc_12
 (.seq p_arena_Arena_Alloc_13
 (.ite (.s 61)
 (.seq p_arena_Arena_Alloc_14
 .ret)
 .skip)))))))
 p_arena_Arena_Alloc_15)))
def p_arena_Arena_Alloc_17:PC :=
 (.reg [0,3,13,14] [I 64 (.mv (.s 0)),I 65 (.nilck (.s 64)),I 66 (.fadr 1 (.s 65)),I 67 (.ld false 1 (.s 66)),I 68 (C F_freelist_List_Take [(.s 67)]),I 63 (.mv (.s 68)),I 69 (.ext (.s 63) 0),I 70 (.ext (.s 63) 1),I 13 (.mv (.s 69)),I 14 (.mv (.s 70))])
def p_arena_Arena_Alloc_18:PC :=
 (.reg [0,3,13,14,72] [I 71 (.mv (.s 14)),I 72 (.bin .neq (.s 71) (V 0))])
def p_arena_Arena_Alloc_19:PC :=
 (.reg [4,5] [I 73 (.mv (.s 14)),I 4 (.mv (.v (.int .u64 0))),I 5 (.mv (.s 73))])
def p_arena_Arena_Alloc_20:PC :=
 (.reg [0,3,13] [I 74 (.fadr 2 (.s 3)),I 75 (.ld false 1 (.s 74)),I 76 (C F_slices_Clone_api_Kid_api_Kid [(.s 75)]),I 77 (.fadr 2 (.s 3)),J (.st 1 (.s 77) (.s 76))])
def p_arena_Arena_Alloc_21:PC :=
 (.reg [0,13] [I 78 (.mv (.s 0)),I 79 (.nilck (.s 78)),I 80 (.fadr 2 (.s 79)),I 81 (.ld false 1 (.s 80)),I 82 (.mv (.s 13)),I 83 (.ld true 3 (.s 3)),J (.mupd 0 (.s 81) (.s 82) (.s 83))])
def p_arena_Arena_Alloc_22:PC :=
 (.reg [13] [I 84 (.mv (.s 0)),I 85 (.nilck (.s 84)),I 86 (.fadr 3 (.s 85)),I 87 (.ld false 1 (.s 86)),I 88 (.bin .add (.s 87) (V 1)),I 89 (.nilck (.s 84)),I 90 (.fadr 3 (.s 89)),J (.st 1 (.s 90) (.s 88))])
def p_arena_Arena_Alloc_23:PC :=
 (.reg [4,5] [I 91 (.mv (.s 13)),I 4 (.mv (.s 91)),I 5 (.mv (V 0))])
def p_arena_Arena_Alloc:PF:=⟨false,
 (.seq p_arena_Arena_Alloc_0
 (.seq (.seq p_arena_Arena_Alloc_1
 (.ite (.s 16)
 (.seq p_arena_Arena_Alloc_2
 .ret)
 .skip))
 (.seq (.seq p_arena_Arena_Alloc_3
 (.seq p_arena_Arena_Alloc_4
 (.ite (.s 20)
 (.seq p_arena_Arena_Alloc_5
 .ret)
 .skip)))
 (.seq (.seq p_arena_Arena_Alloc_6
 (.block 0
 (.loop p_arena_Arena_Alloc_16)))
 (.seq p_arena_Arena_Alloc_17
 (.seq (.seq p_arena_Arena_Alloc_18
 (.ite (.s 72)
 (.seq p_arena_Arena_Alloc_19
 .ret)
 .skip))
 (.seq p_arena_Arena_Alloc_20
 (.seq p_arena_Arena_Alloc_21
 (.seq p_arena_Arena_Alloc_22
 (.seq p_arena_Arena_Alloc_23
 .ret)))))))))),
 [.s 4,.s 5]⟩
theorem c_arena_Arena_Alloc:compF Go.Proofs.Tryz.prog false h_arena_Arena_Alloc Go.Proofs.Tryz.f70=some p_arena_Arena_Alloc:=by kernel_rfl
def h_plan_same:List Hint:=[H [0,1,2,7],H [2,7,9,10],H [2,7,9,10,19],H [8],H [2,7,9,10,11],H [38],H [8],H [8]]
def p_plan_same_0:PC :=
 (.reg [0,1,2,7] [I 7 (.box (.s 3)),I 8 (.mv (V 0))])
def p_plan_same_1:PC :=
 (.reg [2,7,9,10] [I 13 (.mv (.s 0)),I 14 (.mv (.s 1)),I 15 (C F_arena_Arena_Get [(.s 13),(.s 14)]),I 12 (.mv (.s 15)),I 16 (.ext (.s 12) 0),I 17 (.ext (.s 12) 1),I 9 (.box (.v ZN)),J (.st 3 (.s 9) (.s 16)),I 10 (.mv (.s 17))])
def p_plan_same_2:PC :=
 (.reg [2,7,9,10,19] [I 18 (.mv (.s 10)),I 19 (.bin .neq (.s 18) (V 0))])
def p_plan_same_3:PC :=
 (.reg [8] [I 20 (.mv (.s 10)),I 8 (.mv (.s 20))])
def p_plan_same_4:PC :=
 (.reg [2,7,9,10,11] [I 22 (.ld true 3 (.s 9)),I 23 (C F_node_Measure [(.s 22)]),I 21 (.mv (.s 23)),I 24 (.ext (.s 21) 0),I 25 (.ext (.s 21) 1),I 11 (.box (.v ZM)),J (.st 3 (.s 11) (.s 24)),I 10 (.mv (.s 25))])
def p_plan_same_5:PC :=
 (.reg [38] [I 26 (.mv (.s 10)),I 27 (.bin .neq (.s 26) (V 0)),I 28 (.mv (.s 27)),G 29 28 false (.fadr 0 (.s 9)),G 30 28 false (.ld false 1 (.s 29)),G 31 28 false (.mv (.s 2)),G 32 28 false (.bin .neq (.s 30) (.s 31)),I 33 (.pick (.s 28) (.v (.bool true)) (.s 32)),I 34 (.mv (.s 33)),G 35 34 false (.ld true 3 (.s 11)),G 36 34 false (.ld true 3 (.s 7)),G 37 34 false (.eqs true 0 [(0,0),(1,0),(2,0)] (.s 35) (.s 36)),I 38 (.pick (.s 34) (.v (.bool true)) (.s 37))])
def p_plan_same_6:PC :=
 (.reg [8] [I 8 (.mv (V 23))])
def p_plan_same_7:PC :=
 (.reg [8] [I 8 (.mv (V 0))])
def p_plan_same:PF:=⟨false,
 (.seq p_plan_same_0
 (.seq p_plan_same_1
 (.seq (.seq p_plan_same_2
 (.ite (.s 19)
 (.seq p_plan_same_3
 .ret)
 .skip))
 (.seq p_plan_same_4
 (.seq (.seq p_plan_same_5
 (.ite (.s 38)
 (.seq p_plan_same_6
 .ret)
 .skip))
 (.seq p_plan_same_7
 .ret)))))),
 [.s 8]⟩
theorem c_plan_same:compF Go.Proofs.Tryz.prog false h_plan_same Go.Proofs.Tryz.f72=some p_plan_same:=by kernel_rfl
def h_plan_kind:List Hint:=[H [1],H [1,3],H [1,3,13],H [2],H [1,3,31],H [2],H [1,3,46],H [2],H [65],H [2],H [2]]
def p_plan_kind_0:PC :=
 (.reg [1] [I 1 (.box (.s 0)),I 2 (.mv (V 0))])
def p_plan_kind_1:PC :=
 (.reg [1,3] [I 4 (.fadr 2 (.s 1)),I 5 (.ld true 3 (.s 4)),I 6 (.build [(.int .i64 0),(.int .i64 0),(.int .i64 0)] []),I 7 (.eqs false 0 [(0,0),(1,0),(2,0)] (.s 5) (.s 6)),I 8 (.mv (.s 7)),G 9 8 true (.fadr 0 (.s 1)),G 10 8 true (.ld false 1 (.s 9)),G 11 8 true (.bin .eql (.s 10) (.v (.int .u64 0))),I 12 (.pick (.s 8) (.s 11) (.v (.bool false))),I 3 (.mv (.s 12))])
def p_plan_kind_2:PC :=
 (.reg [1,3,13] [I 14 (.mv (.s 3)),I 15 (.mv (.s 14)),G 16 15 true (.fadr 1 (.s 1)),G 17 15 true (.ld false 1 (.s 16)),G 18 15 true (.bin .eql (.s 17) (V 0)),I 19 (.pick (.s 15) (.s 18) (.v (.bool false))),I 20 (.mv (.s 19)),G 21 20 true (.fadr 5 (.s 1)),G 22 20 true (.ld false 1 (.s 21)),G 23 20 true (.bin .eql (.s 22) (.v (.str []))),I 24 (.pick (.s 20) (.s 23) (.v (.bool false))),I 25 (.mv (.s 24)),G 26 25 true (.fadr 6 (.s 1)),G 27 25 true (.ld false 1 (.s 26)),G 28 25 true (.len 1 (.s 27)),G 29 25 true (.bin .eql (.s 28) (V 0)),I 30 (.pick (.s 25) (.s 29) (.v (.bool false))),I 13 (.mv (.s 30))])
def p_plan_kind_3:PC :=
 (.reg [2] [I 2 (.mv (V 1))])
def p_plan_kind_4:PC :=
 (.reg [1,3,31] [I 32 (.fadr 0 (.s 1)),I 33 (.ld false 1 (.s 32)),I 34 (.bin .neq (.s 33) (.v (.int .u64 0))),I 35 (.mv (.s 34)),G 36 35 true (.fadr 5 (.s 1)),G 37 35 true (.ld false 1 (.s 36)),G 38 35 true (.bin .eql (.s 37) (.v (.str []))),I 39 (.pick (.s 35) (.s 38) (.v (.bool false))),I 40 (.mv (.s 39)),G 41 40 true (.fadr 6 (.s 1)),G 42 40 true (.ld false 1 (.s 41)),G 43 40 true (.len 1 (.s 42)),G 44 40 true (.bin .eql (.s 43) (V 0)),I 45 (.pick (.s 40) (.s 44) (.v (.bool false))),I 31 (.mv (.s 45))])
def p_plan_kind_5:PC :=
 (.reg [2] [I 2 (.mv (V 2))])
def p_plan_kind_6:PC :=
 (.reg [1,3,46] [I 47 (.mv (.s 3)),I 48 (.mv (.s 47)),G 49 48 true (.fadr 1 (.s 1)),G 50 48 true (.ld false 1 (.s 49)),G 51 48 true (.bin .eql (.s 50) (V 0)),I 52 (.pick (.s 48) (.s 51) (.v (.bool false))),I 53 (.mv (.s 52)),G 54 53 true (.fadr 6 (.s 1)),G 55 53 true (.ld false 1 (.s 54)),G 56 53 true (.len 1 (.s 55)),G 57 53 true (.bin .eql (.s 56) (V 0)),I 58 (.pick (.s 53) (.s 57) (.v (.bool false))),I 59 (.mv (.s 58)),G 60 59 true (.fadr 5 (.s 1)),G 61 59 true (.ld false 1 (.s 60)),G 62 59 true (.len 0 (.s 61)),G 63 59 true (.bin .leq (.s 62) (V 16)),I 64 (.pick (.s 59) (.s 63) (.v (.bool false))),I 46 (.mv (.s 64))])
def p_plan_kind_7:PC :=
 (.reg [2] [I 2 (.mv (V 3))])
def p_plan_kind_8:PC :=
 (.reg [65] [I 66 (.mv (.s 3)),I 67 (.mv (.s 66)),G 68 67 true (.fadr 5 (.s 1)),G 69 67 true (.ld false 1 (.s 68)),G 70 67 true (.bin .eql (.s 69) (.v (.str []))),I 71 (.pick (.s 67) (.s 70) (.v (.bool false))),I 72 (.mv (.s 71)),G 73 72 true (.fadr 1 (.s 1)),G 74 72 true (.ld false 1 (.s 73)),G 75 72 true (.bin .geq (.s 74) (V 1)),I 76 (.pick (.s 72) (.s 75) (.v (.bool false))),I 77 (.mv (.s 76)),G 78 77 true (.fadr 1 (.s 1)),G 79 77 true (.ld false 1 (.s 78)),G 80 77 true (.bin .leq (.s 79) (V 16)),I 81 (.pick (.s 77) (.s 80) (.v (.bool false))),I 82 (.mv (.s 81)),G 83 82 true (.fadr 6 (.s 1)),G 84 82 true (.ld false 1 (.s 83)),G 85 82 true (.len 1 (.s 84)),G 86 82 true (.bin .geq (.s 85) (V 2)),I 87 (.pick (.s 82) (.s 86) (.v (.bool false))),I 88 (.mv (.s 87)),G 89 88 true (.fadr 6 (.s 1)),G 90 88 true (.ld false 1 (.s 89)),G 91 88 true (.len 1 (.s 90)),G 92 88 true (.bin .leq (.s 91) (V 4)),I 93 (.pick (.s 88) (.s 92) (.v (.bool false))),I 65 (.mv (.s 93))])
def p_plan_kind_9:PC :=
 (.reg [2] [I 2 (.mv (V 4))])
def p_plan_kind_10:PC :=
 (.reg [2] [I 2 (.mv (V 0))])
def p_plan_kind:PF:=⟨false,
 (.seq p_plan_kind_0
 (.seq p_plan_kind_1
 (.seq (.block 0
 (.seq p_plan_kind_2
 (.ite (.s 13)
 (.seq p_plan_kind_3
 .ret)
 (.seq p_plan_kind_4
 (.ite (.s 31)
 (.seq p_plan_kind_5
 .ret)
 (.seq p_plan_kind_6
 (.ite (.s 46)
 (.seq p_plan_kind_7
 .ret)
 (.seq p_plan_kind_8
 (.ite (.s 65)
 (.seq p_plan_kind_9
 .ret)
 .skip)))))))))
 (.seq p_plan_kind_10
 .ret)))),
 [.s 2]⟩
theorem c_plan_kind:compF Go.Proofs.Tryz.prog false h_plan_kind Go.Proofs.Tryz.f74=some p_plan_kind:=by kernel_rfl
def h_plan_bytes:List Hint:=[H [1],H [1,3],H [3,14,15,16],H [3,14,15,16,17],H [3,5,14,15,16],H [3,14,15,16],H [3,14,15,16],H [2]]
def p_plan_bytes_0:PC :=
 (.reg [1] [I 1 (.box (.s 0)),I 2 (.mv (V 0))])
def p_plan_bytes_1:PC :=
 (.reg [1,3] [I 6 (.fadr 2 (.s 1)),I 7 (.fadr 0 (.s 6)),I 8 (.ld false 1 (.s 7)),I 9 (.fadr 5 (.s 1)),I 10 (.ld false 1 (.s 9)),I 11 (.len 0 (.s 10)),I 12 (.bin .add (.s 8) (.s 11)),I 3 (.mv (.s 12))])
def p_plan_bytes_2:PC :=
 (.reg [3,14,15,16] [I 13 (.fadr 6 (.s 1)),I 14 (.ld false 1 (.s 13)),I 15 (.len 1 (.s 14)),I 16 (.mv (V 0))])
def p_plan_bytes_3:PC :=
 (.reg [3,14,15,16,17] [I 17 (.bin .lss (.s 16) (.s 15))])
def p_plan_bytes_4:PC :=
 (.reg [3,5,14,15,16] [I 18 (.ixS 7 (.s 14) (.s 16)),I 19 (.ld true 7 (.s 18)),I 5 (.box (.v ZT)),J (.st 7 (.s 5) (.s 19))])
def p_plan_bytes_5:PC :=
 (.reg [3,14,15,16] [I 20 (.mv (.s 3)),I 21 (.ld true 7 (.s 5)),I 22 (C F_plan_bytes [(.s 21)]),I 23 (.bin .add (.s 20) (.s 22)),I 3 (.mv (.s 23))])
def p_plan_bytes_6:PC :=
 (.reg [3,14,15,16] [I 24 (.bin .add (.s 16) (V 1)),I 16 (.mv (.s 24))])
def p_plan_bytes_7:PC :=
 (.seq p_plan_bytes_3
 (.seq (.ite (.s 17)
 .skip
 (.exit 0))
 (.seq (.block 1
 (.seq p_plan_bytes_4
 p_plan_bytes_5))
 p_plan_bytes_6)))
def p_plan_bytes_8:PC :=
 (.reg [2] [I 25 (.mv (.s 3)),I 2 (.mv (.s 25))])
def p_plan_bytes:PF:=⟨false,
 (.seq p_plan_bytes_0
 (.seq p_plan_bytes_1
 (.seq (.seq p_plan_bytes_2
 (.block 0
 (.loop p_plan_bytes_7)))
 (.seq p_plan_bytes_8
 .ret)))),
 [.s 2]⟩
theorem c_plan_bytes:compF Go.Proofs.Tryz.prog false h_plan_bytes Go.Proofs.Tryz.f75=some p_plan_bytes:=by kernel_rfl
def h_chunk_Chunks:List Hint:=[H [0],⟨[0,3],[0],[],[],[],[]⟩,H [0,3,8,9,10],H [0,3,8,9,10,11],H [0,3,5,8,9,10],H [0,3,5,8,9,10],H [0,3,8,9,10],H [0,3,8,9,10],H [2]]
def p_chunk_Chunks_0:PC :=
 (.reg [0] [I 2 (.mv (.v .nils))])
def p_chunk_Chunks_1:PC :=
 (.reg [0,3] [I 3 (.onil 1)])
def p_chunk_Chunks_2:PC :=
 (.reg [0,3,8,9,10] [I 6 (.mv (.s 0)),I 7 (.len 0 (.s 6)),I 8 (C F_chunk_sizes [(.s 7),(V 16)]),I 9 (.len 1 (.s 8)),I 10 (.mv (V 0))])
def p_chunk_Chunks_3:PC :=
 (.reg [0,3,8,9,10,11] [I 11 (.bin .lss (.s 10) (.s 9))])
def p_chunk_Chunks_4:PC :=
 (.reg [0,3,5,8,9,10] [I 12 (.ixS 1 (.s 8) (.s 10)),I 13 (.ld false 1 (.s 12)),I 5 (.mv (.s 13))])
def p_chunk_Chunks_5:PC :=
 (.reg [0,3,5,8,9,10] [I 14 (.mv (.s 3)),I 15 (.mv (.s 0)),I 16 (.mv (.s 5)),I 17 (.slcS (.s 15) none (some (.s 16))),I 18 (.bslice false 1 [(.str [])] [(0,(.s 17))]),I 19 (.app 1 16 (.s 14) (.s 18)),I 3 (.mv (.s 19))])
def p_chunk_Chunks_6:PC :=
 (.reg [0,3,8,9,10] [I 20 (.mv (.s 0)),I 21 (.mv (.s 5)),I 22 (.slcS (.s 20) (some (.s 21)) none),I 0 (.mv (.s 22))])
def p_chunk_Chunks_7:PC :=
 (.reg [0,3,8,9,10] [I 23 (.bin .add (.s 10) (V 1)),I 10 (.mv (.s 23))])
def p_chunk_Chunks_8:PC :=
 (.seq p_chunk_Chunks_3
 (.seq (.ite (.s 11)
 .skip
 (.exit 0))
 (.seq (.block 1
 (.seq p_chunk_Chunks_4
 (.seq p_chunk_Chunks_5
 p_chunk_Chunks_6)))
 p_chunk_Chunks_7)))
def p_chunk_Chunks_9:PC :=
 (.reg [2] [I 24 (.mv (.s 3)),I 2 (.mv (.s 24))])
def p_chunk_Chunks:PF:=⟨false,
 (.seq p_chunk_Chunks_0
 (.seq p_chunk_Chunks_1
 (.seq (.seq p_chunk_Chunks_2
 (.block 0
 (.loop p_chunk_Chunks_8)))
 (.seq p_chunk_Chunks_9
 .ret)))),
 [.s 2]⟩
theorem c_chunk_Chunks:compF Go.Proofs.Tryz.prog false h_chunk_Chunks Go.Proofs.Tryz.f85=some p_chunk_Chunks:=by kernel_rfl
def h_chunk_Even:List Hint:=[H [0,1],H [0,1,11],H [4,5],H [0,1,13],H [4,5],H [4,5]]
def p_chunk_Even_0:PC :=
 (.reg [0,1] [I 4 (.mv (.v .nils)),I 5 (.mv (V 0))])
def p_chunk_Even_1:PC :=
 (.reg [0,1,11] [I 6 (.mv (.s 0)),I 7 (.bin .lss (.s 6) (V 0)),I 8 (.mv (.s 7)),G 9 8 false (.mv (.s 1)),G 10 8 false (.bin .lss (.s 9) (V 1)),I 11 (.pick (.s 8) (.v (.bool true)) (.s 10))])
def p_chunk_Even_2:PC :=
 (.reg [4,5] [I 4 (.mv (.v .nils)),I 5 (.mv (V 2))])
def p_chunk_Even_3:PC :=
 (.reg [0,1,13] [I 12 (.mv (.s 0)),I 13 (.bin .gtr (.s 12) (V 65536))])
def p_chunk_Even_4:PC :=
 (.reg [4,5] [I 4 (.mv (.v .nils)),I 5 (.mv (V 5))])
def p_chunk_Even_5:PC :=
 (.reg [4,5] [I 14 (.mv (.s 0)),I 15 (.mv (.s 1)),I 16 (C F_chunk_sizes [(.s 14),(.s 15)]),I 4 (.mv (.s 16)),I 5 (.mv (V 0))])
def p_chunk_Even:PF:=⟨false,
 (.seq p_chunk_Even_0
 (.seq (.seq p_chunk_Even_1
 (.ite (.s 11)
 (.seq p_chunk_Even_2
 .ret)
 .skip))
 (.seq (.seq p_chunk_Even_3
 (.ite (.s 13)
 (.seq p_chunk_Even_4
 .ret)
 .skip))
 (.seq p_chunk_Even_5
 .ret)))),
 [.s 4,.s 5]⟩
theorem c_chunk_Even:compF Go.Proofs.Tryz.prog false h_chunk_Even Go.Proofs.Tryz.f86=some p_chunk_Even:=by kernel_rfl
def h_plan_group:List Hint:=[H [0,2],H [0,2,3],H [2],H [0,2,8],H [2],⟨[2],[],[],[],[(7,.app0),(5,.imm)],[]⟩]
def p_plan_group_0:PC :=
 (.reg [0,2] [I 2 (.box (.v ZT))])
def p_plan_group_1:PC :=
 (.reg [0,2,3] [I 4 (.mv (.s 0)),I 5 (.len 1 (.s 4)),I 6 (.bin .eql (.s 5) (V 0)),I 3 (.mv (.s 6))])
def p_plan_group_2:PC :=
 (.reg [2] [I 7 (.build [(.int .u64 0),(.int .i64 0),(.int .i64 0),(.int .i64 0),(.int .i64 0),(.str []),.nils] []),J (.st 7 (.s 2) (.s 7))])
def p_plan_group_3:PC :=
 (.reg [0,2,8] [I 9 (.mv (.s 0)),I 10 (.len 1 (.s 9)),I 11 (.bin .eql (.s 10) (V 1)),I 8 (.mv (.s 11))])
def p_plan_group_4:PC :=
 (.reg [2] [I 12 (.mv (.s 0)),I 13 (.ixS 7 (.s 12) (V 0)),I 14 (.ld true 7 (.s 13)),J (.st 7 (.s 2) (.s 14))])
def p_plan_group_5:PC :=
 (.reg [2] [I 15 (.mv (.s 0)),I 16 (.ixS 7 (.s 15) (V 0)),I 17 (.fadr 1 (.s 16)),I 18 (.ld false 1 (.s 17)),I 19 (.bin .add (.s 18) (V 1)),I 20 (.w .imm (.bslice false 7 [] [])),I 21 (.mv (.s 0)),I 22 (.w .app0 (.app 7 80 (.s 20) (.s 21))),I 23 (.build [(.int .u64 0),(.int .i64 0),(.int .i64 0),(.int .i64 0),(.int .i64 0),(.str []),.nils] [(1,1,(.s 19)),(6,1,(.s 22))]),J (.st 7 (.s 2) (.s 23))])
def p_plan_group:PF:=⟨false,
 (.seq p_plan_group_0
 (.seq (.block 0
 (.seq p_plan_group_1
 (.ite (.s 3)
 (.seq p_plan_group_2
 .ret)
 (.seq p_plan_group_3
 (.ite (.s 8)
 (.seq p_plan_group_4
 .ret)
 .skip)))))
 (.seq p_plan_group_5
 .ret))),
 [.c 2 true 7]⟩
theorem c_plan_group:compF Go.Proofs.Tryz.prog false h_plan_group Go.Proofs.Tryz.f87=some p_plan_group:=by kernel_rfl
def h_plan_check:List Hint:=[H [0,2,3,5],H [0,2,3,5,9],H [0,2,5,9,30],H [8],H [0,2,5,32],H [0,2,5,10],H [0,2,5,10,42],H [8],H [0,5,54],H [8],H [0,5,56,57,58],H [0,5,56,57,58,59],H [0,5,12,56,57,58],H [0,5,13,56,57,58],H [0,5,13,56,57,58,69],H [8],H [0,5,56,57,58],H [8]]
def p_plan_check_0:PC :=
 (.reg [0,2,3,5] [I 5 (.box (.s 1)),I 8 (.mv (V 0))])
def p_plan_check_1:PC :=
 (.reg [0,2,3,5,9] [I 14 (.ld true 7 (.s 5)),I 15 (C F_plan_kind [(.s 14)]),I 9 (.mv (.s 15))])
def p_plan_check_2:PC :=
 (.reg [0,2,5,9,30] [I 16 (.mv (.s 9)),I 17 (.bin .eql (.s 16) (V 0)),I 18 (.mv (.s 17)),G 19 18 false (.mv (.s 9)),G 20 18 false (.bin .eql (.s 19) (V 1)),I 21 (.pick (.s 18) (.v (.bool true)) (.s 20)),I 22 (.mv (.s 21)),G 23 22 false (.mv (.s 2)),G 24 22 false (.mv (.s 23)),G 25 24 true (.fadr 1 (.s 5)),G 26 24 true (.ld false 1 (.s 25)),G 27 24 true (.mv (.s 3)),G 28 24 true (.bin .neq (.s 26) (.s 27)),G 29 22 false (.pick (.s 24) (.s 28) (.v (.bool false))),I 30 (.pick (.s 22) (.v (.bool true)) (.s 29))])
def p_plan_check_3:PC :=
 (.reg [8] [I 8 (.mv (V 23))])
def p_plan_check_4:PC :=
 (.reg [0,2,5,32] [I 31 (.mv (.s 9)),I 32 (.bin .eql (.s 31) (V 2))])
def p_plan_check_5:PC :=
 (.reg [0,2,5,10] [I 33 (.mv (.s 0)),I 34 (.fadr 0 (.s 5)),I 35 (.ld false 1 (.s 34)),I 36 (.fadr 1 (.s 5)),I 37 (.ld false 1 (.s 36)),I 38 (.fadr 2 (.s 5)),I 39 (.ld true 3 (.s 38)),I 40 (C F_plan_same [(.s 33),(.s 35),(.s 37),(.s 39)]),I 10 (.mv (.s 40))])
def p_plan_check_6:PC :=
 (.reg [0,2,5,10,42] [I 41 (.mv (.s 10)),I 42 (.bin .neq (.s 41) (V 0))])
def p_plan_check_7:PC :=
 (.reg [8] [I 43 (.mv (.s 10)),I 8 (.mv (.s 43))])
def p_plan_check_8:PC :=
 (.reg [0,5,54] [I 44 (.mv (.s 2)),I 45 (.mv (.s 44)),G 46 45 true (.fadr 1 (.s 5)),G 47 45 true (.ld false 1 (.s 46)),G 48 45 true (.bin .eql (.s 47) (V 0)),I 49 (.pick (.s 45) (.s 48) (.v (.bool false))),I 50 (.mv (.s 49)),G 51 50 true (.ld true 7 (.s 5)),G 52 50 true (C F_plan_bytes [(.s 51)]),G 53 50 true (.bin .lss (.s 52) (V 8)),I 54 (.pick (.s 50) (.s 53) (.v (.bool false)))])
def p_plan_check_9:PC :=
 (.reg [8] [I 8 (.mv (V 23))])
def p_plan_check_10:PC :=
 (.reg [0,5,56,57,58] [I 55 (.fadr 6 (.s 5)),I 56 (.ld false 1 (.s 55)),I 57 (.len 1 (.s 56)),I 58 (.mv (V 0))])
def p_plan_check_11:PC :=
 (.reg [0,5,56,57,58,59] [I 59 (.bin .lss (.s 58) (.s 57))])
def p_plan_check_12:PC :=
 (.reg [0,5,12,56,57,58] [I 60 (.ixS 7 (.s 56) (.s 58)),I 61 (.ld true 7 (.s 60)),I 12 (.box (.v ZT)),J (.st 7 (.s 12) (.s 61))])
def p_plan_check_13:PC :=
 (.reg [0,5,13,56,57,58] [I 62 (.mv (.s 0)),I 63 (.ld true 7 (.s 12)),I 64 (.fadr 1 (.s 5)),I 65 (.ld false 1 (.s 64)),I 66 (.bin .sub (.s 65) (V 1)),I 67 (C F_plan_check [(.s 62),(.s 63),(.v (.bool true)),(.s 66)]),I 13 (.mv (.s 67))])
def p_plan_check_14:PC :=
 (.reg [0,5,13,56,57,58,69] [I 68 (.mv (.s 13)),I 69 (.bin .neq (.s 68) (V 0))])
def p_plan_check_15:PC :=
 (.reg [8] [I 70 (.mv (.s 13)),I 8 (.mv (.s 70))])
def p_plan_check_16:PC :=
 (.reg [0,5,56,57,58] [I 71 (.bin .add (.s 58) (V 1)),I 58 (.mv (.s 71))])
def p_plan_check_17:PC :=
 (.seq p_plan_check_11
 (.seq (.ite (.s 59)
 .skip
 (.exit 0))
 (.seq (.block 1
 (.seq p_plan_check_12
 (.seq p_plan_check_13
 (.seq p_plan_check_14
 (.ite (.s 69)
 (.seq p_plan_check_15
 .ret)
 .skip)))))
 p_plan_check_16)))
def p_plan_check_18:PC :=
 (.reg [8] [I 8 (.mv (V 0))])
def p_plan_check:PF:=⟨false,
 (.seq p_plan_check_0
 (.seq p_plan_check_1
 (.seq (.seq p_plan_check_2
 (.ite (.s 30)
 (.seq p_plan_check_3
 .ret)
 .skip))
 (.seq (.seq p_plan_check_4
 (.ite (.s 32)
 (.seq p_plan_check_5
 (.seq p_plan_check_6
 (.ite (.s 42)
 (.seq p_plan_check_7
 .ret)
 .skip)))
 .skip))
 (.seq (.seq p_plan_check_8
 (.ite (.s 54)
 (.seq p_plan_check_9
 .ret)
 .skip))
 (.seq (.seq p_plan_check_10
 (.block 0
 (.loop p_plan_check_17)))
 (.seq p_plan_check_18
 .ret))))))),
 [.s 8]⟩
theorem c_plan_check:compF Go.Proofs.Tryz.prog false h_plan_check Go.Proofs.Tryz.f97=some p_plan_check:=by kernel_rfl
def h_rope_New:List Hint:=[H [0,1,4],H [0,1,4,11],H [4,5],H [0,4,6,7],H [0,4,6,7,19],H [4,5],H [4,7,8],H [4,5]]
def p_rope_New_0:PC :=
 (.reg [0,1,4] [I 4 (.box (.v ZR)),I 5 (.mv (V 0))])
def p_rope_New_1:PC :=
 (.reg [0,1,4,11] [I 10 (.mv (.s 0)),I 11 (.eqs false 3 [] (.s 10) (.v .nilptr))])
def p_rope_New_2:PC :=
 (.reg [4,5] [I 12 (.build [(.int .u64 0),(.int .i64 0),(.int .i64 0),(.int .i64 0),(.int .i64 0)] []),J (.st 5 (.s 4) (.s 12)),I 5 (.mv (V 1))])
def p_rope_New_3:PC :=
 (.reg [0,4,6,7] [I 14 (.mv (.s 1)),I 15 (C F_plan_Build [(.s 14)]),I 13 (.mv (.s 15)),I 16 (.ext (.s 13) 0),I 17 (.ext (.s 13) 1),I 6 (.box (.v ZT)),J (.st 7 (.s 6) (.s 16)),I 7 (.mv (.s 17))])
def p_rope_New_4:PC :=
 (.reg [0,4,6,7,19] [I 18 (.mv (.s 7)),I 19 (.bin .neq (.s 18) (V 0))])
def p_rope_New_5:PC :=
 (.reg [4,5] [I 20 (.build [(.int .u64 0),(.int .i64 0),(.int .i64 0),(.int .i64 0),(.int .i64 0)] []),I 21 (.mv (.s 7)),J (.st 5 (.s 4) (.s 20)),I 5 (.mv (.s 21))])
def p_rope_New_6:PC :=
 (.reg [4,7,8] [I 23 (.mv (.s 0)),I 24 (.ld true 7 (.s 6)),I 25 (C F_rope_Write [(.s 23),(.s 24)]),I 22 (.mv (.s 25)),I 26 (.ext (.s 22) 0),I 27 (.ext (.s 22) 1),I 28 (.ext (.s 22) 2),I 8 (.box (.v ZR)),J (.st 5 (.s 8) (.s 26)),I 9 (.mv (.s 27)),I 7 (.mv (.s 28))])
def p_rope_New_7:PC :=
 (.reg [4,5] [I 29 (.ld true 5 (.s 8)),I 30 (.mv (.s 7)),J (.st 5 (.s 4) (.s 29)),I 5 (.mv (.s 30))])
def p_rope_New:PF:=⟨false,
 (.seq p_rope_New_0
 (.seq (.seq p_rope_New_1
 (.ite (.s 11)
 (.seq p_rope_New_2
 .ret)
 .skip))
 (.seq p_rope_New_3
 (.seq (.seq p_rope_New_4
 (.ite (.s 19)
 (.seq p_rope_New_5
 .ret)
 .skip))
 (.seq p_rope_New_6
 (.seq p_rope_New_7
 .ret)))))),
 [.c 4 true 5,.s 5]⟩
theorem c_rope_New:compF Go.Proofs.Tryz.prog false h_rope_New Go.Proofs.Tryz.f98=some p_rope_New:=by kernel_rfl
def h_cursor_check:List Hint:=[H [0,3],H [6],H [4]]
def p_cursor_check_0:PC :=
 (.reg [0,3] [I 3 (.box (.s 1)),I 4 (.mv (V 0))])
def p_cursor_check_1:PC :=
 (.reg [6] [I 8 (.mv (.s 0)),I 9 (.ld true 5 (.s 3)),I 10 (C F_seek_Boundary [(.s 8),(.s 9),(V 0)]),I 7 (.mv (.s 10)),I 11 (.ext (.s 7) 0),I 12 (.ext (.s 7) 1),I 5 (.mv (.s 11)),I 6 (.mv (.s 12))])
def p_cursor_check_2:PC :=
 (.reg [4] [I 13 (.mv (.s 6)),I 4 (.mv (.s 13))])
def p_cursor_check:PF:=⟨false,
 (.seq p_cursor_check_0
 (.seq p_cursor_check_1
 (.seq p_cursor_check_2
 .ret))),
 [.s 4]⟩
theorem c_cursor_check:compF Go.Proofs.Tryz.prog false h_cursor_check Go.Proofs.Tryz.f99=some p_cursor_check:=by kernel_rfl
def h_cursor_path_enter:List Hint:=[H [0,1],H [0,1,18],H [0,1,5],H [0,1,40],H [0,1],H [0,1,60],H [0,1,6],H [0,1,6,75],H [4],H [0,1,7],H [0,1,7,92],H [4],H [0,1,7,8,9],H [0,1,8,9,97,98,99],H [0,1,8,9,97,98,99,100],H [0,1,8,9,11,97,98,99],H [0,1,8,9,11,97,98,99,109],H [0,1,12],H [0,1,12,121],H [4],H [0,1,9],H [0,1,8,9,97,98,99],H [0,1,8,9,97,98,99],H [0,1,130],H [4]]
def p_cursor_path_enter_0:PC :=
 (.reg [0,1] [I 4 (.mv (V 0))])
def p_cursor_path_enter_1:PC :=
 (.reg [0,1,18] [I 13 (.mv (.s 0)),I 14 (.nilck (.s 13)),I 15 (.fadr 6 (.s 14)),I 16 (.ld false 1 (.s 15)),I 17 (.len 1 (.s 16)),I 18 (.bin .gtr (.s 17) (V 0))])
def p_cursor_path_enter_2:PC :=
 (.reg [0,1,5] [I 19 (.mv (.s 0)),I 20 (.nilck (.s 19)),I 21 (.fadr 6 (.s 20)),I 22 (.ld false 1 (.s 21)),I 23 (.mv (.s 0)),I 24 (.nilck (.s 23)),I 25 (.fadr 6 (.s 24)),I 26 (.ld false 1 (.s 25)),I 27 (.len 1 (.s 26)),I 28 (.bin .sub (.s 27) (V 1)),I 29 (.ixS 5 (.s 22) (.s 28)),I 30 (.ld true 5 (.s 29)),I 5 (.box (.v (.agg [(.int .i64 0),(.str []),.nils,(.int .i64 0),(.int .i64 0)]))),J (.st 5 (.s 5) (.s 30))])
def p_cursor_path_enter_3:PC :=
 (.reg [0,1,40] [I 31 (.mv (.s 1)),I 32 (.fadr 3 (.s 5)),I 33 (.ld false 1 (.s 32)),I 34 (.bin .geq (.s 31) (.s 33)),I 35 (.mv (.s 34)),G 36 35 true (.mv (.s 1)),G 37 35 true (.fadr 4 (.s 5)),G 38 35 true (.ld false 1 (.s 37)),G 39 35 true (.bin .lss (.s 36) (.s 38)),I 40 (.pick (.s 35) (.s 39) (.v (.bool false)))])
def p_cursor_path_enter_4:PC :=
 (.reg [0,1] [I 41 (.mv (.s 0)),I 42 (.mv (.s 0)),I 43 (.nilck (.s 42)),I 44 (.fadr 6 (.s 43)),I 45 (.ld false 1 (.s 44)),I 46 (.mv (.s 0)),I 47 (.nilck (.s 46)),I 48 (.fadr 6 (.s 47)),I 49 (.ld false 1 (.s 48)),I 50 (.len 1 (.s 49)),I 51 (.bin .sub (.s 50) (V 1)),I 52 (.slc 5 (.s 45) none (some (.s 51))),I 53 (.nilck (.s 41)),I 54 (.fadr 6 (.s 53)),J (.st 1 (.s 54) (.s 52))])
def p_cursor_path_enter_5:PC :=
 (.seq (.seq p_cursor_path_enter_1
 (.ite (.s 18)
 .skip
 (.exit 0)))
 (.block 1
 (.seq p_cursor_path_enter_2
 (.seq (.seq p_cursor_path_enter_3
 (.ite (.s 40)
 (.exit 0)
 .skip))
 p_cursor_path_enter_4))))
def p_cursor_path_enter_6:PC :=
 (.reg [0,1,60] [I 55 (.mv (.s 0)),I 56 (.nilck (.s 55)),I 57 (.fadr 6 (.s 56)),I 58 (.ld false 1 (.s 57)),I 59 (.len 1 (.s 58)),I 60 (.bin .eql (.s 59) (V 0))])
def p_cursor_path_enter_7:PC :=
 (.reg [0,1,6] [I 61 (.mv (.s 0)),I 62 (.mv (.s 0)),I 63 (.nilck (.s 62)),I 64 (.fadr 1 (.s 63)),I 65 (.fadr 0 (.s 64)),I 66 (.ld false 1 (.s 65)),I 67 (.mv (.s 0)),I 68 (.nilck (.s 67)),I 69 (.fadr 1 (.s 68)),I 70 (.fadr 2 (.s 69)),I 71 (.fadr 0 (.s 70)),I 72 (.ld false 1 (.s 71)),I 73 (C F_cursor_path_visit [(.s 61),(.s 66),(V 0),(.s 72)]),I 6 (.mv (.s 73))])
def p_cursor_path_enter_8:PC :=
 (.reg [0,1,6,75] [I 74 (.mv (.s 6)),I 75 (.bin .neq (.s 74) (V 0))])
def p_cursor_path_enter_9:PC :=
 (.reg [4] [I 76 (.mv (.s 6)),I 4 (.mv (.s 76))])
def p_cursor_path_enter_10:PC :=
 (.reg [0,1,7] [I 77 (.mv (.s 0)),I 78 (.nilck (.s 77)),I 79 (.fadr 6 (.s 78)),I 80 (.ld false 1 (.s 79)),I 81 (.mv (.s 0)),I 82 (.nilck (.s 81)),I 83 (.fadr 6 (.s 82)),I 84 (.ld false 1 (.s 83)),I 85 (.len 1 (.s 84)),I 86 (.bin .sub (.s 85) (V 1)),I 87 (.ixS 5 (.s 80) (.s 86)),I 88 (.ld true 5 (.s 87)),I 7 (.box (.v (.agg [(.int .i64 0),(.str []),.nils,(.int .i64 0),(.int .i64 0)]))),J (.st 5 (.s 7) (.s 88))])
def p_cursor_path_enter_11:PC :=
 (.reg [0,1,7,92] [I 89 (.fadr 0 (.s 7)),I 90 (.fadr 0 (.s 89)),I 91 (.ld false 1 (.s 90)),I 92 (.bin .eql (.s 91) (V 0))])
def p_cursor_path_enter_12:PC :=
 (.reg [4] [I 4 (.mv (V 0))])
def p_cursor_path_enter_13:PC :=
 (.reg [0,1,7,8,9] [I 93 (.fadr 3 (.s 7)),I 94 (.ld false 1 (.s 93)),I 8 (.mv (.s 94)),I 9 (.mv (.v (.bool false)))])
def p_cursor_path_enter_14:PC :=
 (.reg [0,1,8,9,97,98,99] [I 95 (.fadr 0 (.s 7)),I 96 (.fadr 2 (.s 95)),I 97 (.ld false 1 (.s 96)),I 98 (.len 1 (.s 97)),I 99 (.mv (V 0))])
def p_cursor_path_enter_15:PC :=
 (.reg [0,1,8,9,97,98,99,100] [I 100 (.bin .lss (.s 99) (.s 98))])
def p_cursor_path_enter_16:PC :=
 (.reg [0,1,8,9,11,97,98,99] [I 101 (.ixS 4 (.s 97) (.s 99)),I 102 (.ld true 4 (.s 101)),I 11 (.box (.v ZK)),J (.st 4 (.s 11) (.s 102))])
def p_cursor_path_enter_17:PC :=
 (.reg [0,1,8,9,11,97,98,99,109] [I 103 (.mv (.s 1)),I 104 (.mv (.s 8)),I 105 (.fadr 1 (.s 11)),I 106 (.fadr 0 (.s 105)),I 107 (.ld false 1 (.s 106)),I 108 (.bin .add (.s 104) (.s 107)),I 109 (.bin .lss (.s 103) (.s 108))])
def p_cursor_path_enter_18:PC :=
 (.reg [0,1,12] [I 110 (.mv (.s 0)),I 111 (.fadr 0 (.s 11)),I 112 (.ld false 1 (.s 111)),I 113 (.mv (.s 8)),I 114 (.mv (.s 8)),I 115 (.fadr 1 (.s 11)),I 116 (.fadr 0 (.s 115)),I 117 (.ld false 1 (.s 116)),I 118 (.bin .add (.s 114) (.s 117)),I 119 (C F_cursor_path_visit [(.s 110),(.s 112),(.s 113),(.s 118)]),I 12 (.mv (.s 119))])
def p_cursor_path_enter_19:PC :=
 (.reg [0,1,12,121] [I 120 (.mv (.s 12)),I 121 (.bin .neq (.s 120) (V 0))])
def p_cursor_path_enter_20:PC :=
 (.reg [4] [I 122 (.mv (.s 12)),I 4 (.mv (.s 122))])
def p_cursor_path_enter_21:PC :=
 (.reg [0,1,9] [I 9 (.mv (.v (.bool true)))])
def p_cursor_path_enter_22:PC :=
 (.reg [0,1,8,9,97,98,99] [I 123 (.mv (.s 8)),I 124 (.fadr 1 (.s 11)),I 125 (.fadr 0 (.s 124)),I 126 (.ld false 1 (.s 125)),I 127 (.bin .add (.s 123) (.s 126)),I 8 (.mv (.s 127))])
def p_cursor_path_enter_23:PC :=
 (.reg [0,1,8,9,97,98,99] [I 128 (.bin .add (.s 99) (V 1)),I 99 (.mv (.s 128))])
def p_cursor_path_enter_24:PC :=
 (.seq p_cursor_path_enter_15
 (.seq (.ite (.s 100)
 .skip
 (.exit 4))
 (.seq (.block 5
 (.seq p_cursor_path_enter_16
 (.seq (.seq p_cursor_path_enter_17
 (.ite (.s 109)
 (.seq (.seq p_cursor_path_enter_18
 (.seq p_cursor_path_enter_19
 (.ite (.s 121)
 (.seq p_cursor_path_enter_20
 .ret)
 .skip)))
 (.seq p_cursor_path_enter_21
 (.exit 4)))
 .skip))
 p_cursor_path_enter_22)))
 p_cursor_path_enter_23)))
def p_cursor_path_enter_25:PC :=
 (.reg [0,1,130] [I 129 (.mv (.s 9)),I 130 (.un .not (.s 129))])
def p_cursor_path_enter_26:PC :=
 (.reg [4] [I 4 (.mv (V 23))])
def p_cursor_path_enter_27:PC :=
 (.block 3
 (.seq p_cursor_path_enter_10
 (.seq (.seq p_cursor_path_enter_11
 (.ite (.s 92)
 (.seq p_cursor_path_enter_12
 .ret)
 .skip))
 (.seq p_cursor_path_enter_13
 (.seq (.seq p_cursor_path_enter_14
 (.block 4
 (.loop p_cursor_path_enter_24)))
 (.seq p_cursor_path_enter_25
 (.ite (.s 130)
 (.seq p_cursor_path_enter_26
 .ret)
 .skip)))))))
def p_cursor_path_enter:PF:=⟨true,
 (.seq p_cursor_path_enter_0
 (.seq (.block 0
 (.loop p_cursor_path_enter_5))
 (.seq (.seq p_cursor_path_enter_6
 (.ite (.s 60)
 (.seq p_cursor_path_enter_7
 (.seq p_cursor_path_enter_8
 (.ite (.s 75)
 (.seq p_cursor_path_enter_9
 .ret)
 .skip)))
 .skip))
 (.block 2
 (.loop p_cursor_path_enter_27))))),
 [.s 4]⟩
theorem c_cursor_path_enter:compF Go.Proofs.Tryz.prog true h_cursor_path_enter Go.Proofs.Tryz.f100=some p_cursor_path_enter:=by kernel_rfl
def h_cursor_Cursor_ready:List Hint:=[H [0],H [0,6],H [2],H [0,13],⟨[4],[],[(11,.inner)],[],[(15,(.here 15))],[15]⟩,H [30],H [2],H [2]]
def p_cursor_Cursor_ready_0:PC :=
 (.reg [0] [I 2 (.mv (V 0))])
def p_cursor_Cursor_ready_1:PC :=
 (.reg [0,6] [I 5 (.mv (.s 0)),I 6 (.eqs false 3 [] (.s 5) (.v .nilptr))])
def p_cursor_Cursor_ready_2:PC :=
 (.reg [2] [I 2 (.mv (V 1))])
def p_cursor_Cursor_ready_3:PC :=
 (.reg [0,13] [I 7 (.mv (.s 0)),I 8 (.nilck (.s 7)),I 9 (.fadr 0 (.s 8)),I 10 (.fadr 1 (.s 9)),I 11 (.fadr 0 (.s 10)),I 12 (.ld false 1 (.s 11)),I 13 (.bin .neq (.s 12) (.v (.int .u64 0)))])
def p_cursor_Cursor_ready_4:PC :=
 (.regH [15] [4] [I 15 (.mv (.s 0)),I 16 (.nilck (.s 15)),I 17 (.fadr 0 (.s 16)),I 18 (.fadr 0 (.s 17)),I 19 (.ld false 1 (.s 18)),I 20 (.mv (.s 0)),I 21 (.nilck (.s 20)),I 22 (.fadr 0 (.s 21)),I 23 (.fadr 1 (.s 22)),I 24 (.fadr 0 (.s 23)),I 25 (.ld false 1 (.s 24)),I 26 (.call .inner (.v (.func (.func F_arena_Arena_Get) [] [])) [(.s 19),(.s 25)]),I 14 (.mv (.s 26)),I 27 (.ext (.s 14) 0),I 28 (.ext (.s 14) 1),I 3 (.w (.here 15) (.box (.v ZN))),J (.st 3 (.s 3) (.s 27)),I 4 (.mv (.s 28))])
def p_cursor_Cursor_ready_5:PC :=
 (.reg [30] [I 29 (.mv (.s 4)),I 30 (.bin .neq (.s 29) (V 0))])
def p_cursor_Cursor_ready_6:PC :=
 (.reg [2] [I 2 (.mv (V 10))])
def p_cursor_Cursor_ready_7:PC :=
 (.reg [2] [I 2 (.mv (V 0))])
def p_cursor_Cursor_ready:PF:=⟨true,
 (.seq p_cursor_Cursor_ready_0
 (.seq (.seq p_cursor_Cursor_ready_1
 (.ite (.s 6)
 (.seq p_cursor_Cursor_ready_2
 .ret)
 .skip))
 (.seq (.seq p_cursor_Cursor_ready_3
 (.ite (.s 13)
 (.seq p_cursor_Cursor_ready_4
 (.seq p_cursor_Cursor_ready_5
 (.ite (.s 30)
 (.seq p_cursor_Cursor_ready_6
 .ret)
 .skip)))
 .skip))
 (.seq p_cursor_Cursor_ready_7
 .ret)))),
 [.s 2]⟩
theorem c_cursor_Cursor_ready:compF Go.Proofs.Tryz.prog true h_cursor_Cursor_ready Go.Proofs.Tryz.f101=some p_cursor_Cursor_ready:=by kernel_rfl
def h_cursor_Cursor_forward:List Hint:=[H [0,1],⟨[0,1,6],[0],[],[],[],[]⟩,H [0,1,6,7],H [0,1,6,7,25],H [0,1,6,7,8,9,10],H [0,1,6,7,8,9,39],H [0,1,6,7,11],H [0,1,6,7,11,49],H [4,5],H [0,1,6,7,8,9,59],H [4,5],H [0,1,6,7,12],H [0,1,6,7,12,73],H [0,1,6,7],H [0,1,6,7],H [4,5]]
def p_cursor_Cursor_forward_0:PC :=
 (.reg [0,1] [I 4 (.mv (.v (.str []))),I 5 (.mv (V 0))])
def p_cursor_Cursor_forward_1:PC :=
 (.reg [0,1,6] [I 6 (.boxnil 1)])
def p_cursor_Cursor_forward_2:PC :=
 (.reg [0,1,6,7] [I 13 (.mkf (.func F_cursor_Cursor_forwardC1) [] [(.s 6)]),I 7 (.mv (.s 13))])
def p_cursor_Cursor_forward_3:PC :=
 (.reg [0,1,6,7,25] [I 14 (.mv (.s 0)),I 15 (.nilck (.s 14)),I 16 (.fadr 8 (.s 15)),I 17 (.ld false 1 (.s 16)),I 18 (.mv (.s 0)),I 19 (.nilck (.s 18)),I 20 (.fadr 0 (.s 19)),I 21 (.fadr 1 (.s 20)),I 22 (.fadr 2 (.s 21)),I 23 (.fadr 0 (.s 22)),I 24 (.ld false 1 (.s 23)),I 25 (.bin .lss (.s 17) (.s 24))])
def p_cursor_Cursor_forward_4:PC :=
 (.reg [0,1,6,7,8,9,10] [I 27 (.mv (.s 0)),I 28 (.nilck (.s 27)),I 29 (.fadr 0 (.s 28)),I 30 (C F_cursor_path_leaf [(.s 29)]),I 26 (.mv (.s 30)),I 31 (.ext (.s 26) 0),I 32 (.ext (.s 26) 1),I 33 (.ext (.s 26) 2),I 8 (.mv (.s 31)),I 9 (.mv (.s 32)),I 10 (.mv (.s 33))])
def p_cursor_Cursor_forward_5:PC :=
 (.reg [0,1,6,7,8,9,39] [I 34 (.mv (.s 0)),I 35 (.nilck (.s 34)),I 36 (.fadr 8 (.s 35)),I 37 (.ld false 1 (.s 36)),I 38 (.mv (.s 10)),I 39 (.bin .geq (.s 37) (.s 38))])
def p_cursor_Cursor_forward_6:PC :=
 (.reg [0,1,6,7,11] [I 40 (.mv (.s 0)),I 41 (.nilck (.s 40)),I 42 (.fadr 0 (.s 41)),I 43 (.mv (.s 0)),I 44 (.nilck (.s 43)),I 45 (.fadr 8 (.s 44)),I 46 (.ld false 1 (.s 45)),I 47 (C F_cursor_path_enter [(.s 42),(.s 46)]),I 11 (.mv (.s 47))])
def p_cursor_Cursor_forward_7:PC :=
 (.reg [0,1,6,7,11,49] [I 48 (.mv (.s 11)),I 49 (.bin .neq (.s 48) (V 0))])
def p_cursor_Cursor_forward_8:PC :=
 (.reg [4,5] [I 50 (.mv (.s 11)),I 4 (.mv (.v (.str []))),I 5 (.mv (.s 50))])
def p_cursor_Cursor_forward_9:PC :=
 (.reg [0,1,6,7,8,9,59] [I 51 (.mv (.s 0)),I 52 (.nilck (.s 51)),I 53 (.fadr 8 (.s 52)),I 54 (.ld false 1 (.s 53)),I 55 (.mv (.s 9)),I 56 (.bin .sub (.s 54) (.s 55)),I 57 (.mv (.s 8)),I 58 (.len 0 (.s 57)),I 59 (.bin .geq (.s 56) (.s 58))])
def p_cursor_Cursor_forward_10:PC :=
 (.reg [4,5] [I 4 (.mv (.v (.str []))),I 5 (.mv (V 23))])
def p_cursor_Cursor_forward_11:PC :=
 (.reg [0,1,6,7,12] [I 60 (.mv (.s 8)),I 61 (.mv (.s 0)),I 62 (.nilck (.s 61)),I 63 (.fadr 8 (.s 62)),I 64 (.ld false 1 (.s 63)),I 65 (.mv (.s 9)),I 66 (.bin .sub (.s 64) (.s 65)),I 67 (.ixStr (.s 60) (.s 66)),I 12 (.mv (.s 67))])
def p_cursor_Cursor_forward_12:PC :=
 (.reg [0,1,6,7,12,73] [I 68 (.mv (.s 1)),I 69 (.ld false 1 (.s 6)),I 70 (.len 1 (.s 69)),I 71 (.mv (.s 12)),I 72 (.call .norm (.s 68) [(.s 70),(.s 71)]),I 73 (.un .not (.s 72))])
def p_cursor_Cursor_forward_13:PC :=
 (.reg [0,1,6,7] [I 74 (.mv (.s 7)),I 75 (.mv (.s 12)),I 76 (.call .norm (.s 74) [(.s 75)])])
def p_cursor_Cursor_forward_14:PC :=
 (.reg [0,1,6,7] [I 77 (.mv (.s 0)),I 78 (.nilck (.s 77)),I 79 (.fadr 8 (.s 78)),I 80 (.ld false 1 (.s 79)),I 81 (.bin .add (.s 80) (V 1)),I 82 (.nilck (.s 77)),I 83 (.fadr 8 (.s 82)),J (.st 1 (.s 83) (.s 81))])
def p_cursor_Cursor_forward_15:PC :=
 (.seq (.seq p_cursor_Cursor_forward_3
 (.ite (.s 25)
 .skip
 (.exit 0)))
 (.block 1
 (.seq p_cursor_Cursor_forward_4
 (.seq (.seq p_cursor_Cursor_forward_5
 (.ite (.s 39)
 (.seq (.seq p_cursor_Cursor_forward_6
 (.seq p_cursor_Cursor_forward_7
 (.ite (.s 49)
 (.seq p_cursor_Cursor_forward_8
 .ret)
 .skip)))
 (.exit 1))
 .skip))
 (.seq (.seq p_cursor_Cursor_forward_9
 (.ite (.s 59)
 (.seq p_cursor_Cursor_forward_10
 .ret)
 .skip))
 (.seq p_cursor_Cursor_forward_11
 (.seq (.seq p_cursor_Cursor_forward_12
 (.ite (.s 73)
 (.exit 0)
 .skip))
 (.seq p_cursor_Cursor_forward_13
 p_cursor_Cursor_forward_14))))))))
def p_cursor_Cursor_forward_16:PC :=
 (.reg [4,5] [I 84 (.ld false 1 (.s 6)),I 85 (.b2s (.s 84)),I 4 (.mv (.s 85)),I 5 (.mv (V 0))])
def p_cursor_Cursor_forward:PF:=⟨true,
 (.seq p_cursor_Cursor_forward_0
 (.seq p_cursor_Cursor_forward_1
 (.seq p_cursor_Cursor_forward_2
 (.seq (.block 0
 (.loop p_cursor_Cursor_forward_15))
 (.seq p_cursor_Cursor_forward_16
 .ret))))),
 [.s 4,.s 5]⟩
theorem c_cursor_Cursor_forward:compF Go.Proofs.Tryz.prog true h_cursor_Cursor_forward Go.Proofs.Tryz.f102=some p_cursor_Cursor_forward:=by kernel_rfl
def h_cursor_Cursor_NextC1:List Hint:=[H [0,1],H [4]]
def p_cursor_Cursor_NextC1_0:PC :=
 (.reg [0,1] [I 4 (.mv (.v (.bool false)))])
def p_cursor_Cursor_NextC1_1:PC :=
 (.reg [4] [I 5 (.mv (.s 0)),I 6 (.bin .eql (.s 5) (V 0)),I 7 (.mv (.s 6)),G 8 7 false (.mv (.s 1)),G 9 7 false (C F_cursor_cont [(.s 8)]),I 10 (.pick (.s 7) (.v (.bool true)) (.s 9)),I 4 (.mv (.s 10))])
def p_cursor_Cursor_NextC1:PF:=⟨false,
 (.seq p_cursor_Cursor_NextC1_0
 (.seq p_cursor_Cursor_NextC1_1
 .ret)),
 [.s 4]⟩
theorem c_cursor_Cursor_NextC1:compF Go.Proofs.Tryz.prog false h_cursor_Cursor_NextC1 Go.Proofs.Tryz.f103=some p_cursor_Cursor_NextC1:=by kernel_rfl
def h_cursor_cont:List Hint:=[H [0],H [2]]
def p_cursor_cont_0:PC :=
 (.reg [0] [I 2 (.mv (.v (.bool false)))])
def p_cursor_cont_1:PC :=
 (.reg [2] [I 3 (.mv (.s 0)),I 4 (.bin .geq (.s 3) (.v (.int .u8 128))),I 5 (.mv (.s 4)),G 6 5 true (.mv (.s 0)),G 7 5 true (.bin .lss (.s 6) (.v (.int .u8 192))),I 8 (.pick (.s 5) (.s 7) (.v (.bool false))),I 2 (.mv (.s 8))])
def p_cursor_cont:PF:=⟨false,
 (.seq p_cursor_cont_0
 (.seq p_cursor_cont_1
 .ret)),
 [.s 2]⟩
theorem c_cursor_cont:compF Go.Proofs.Tryz.prog false h_cursor_cont Go.Proofs.Tryz.f104=some p_cursor_cont:=by kernel_rfl
def h_cursor_Cursor_jump:List Hint:=[H [0,1],H [0,1],H [0,1,15],H [4],H [4]]
def p_cursor_Cursor_jump_0:PC :=
 (.reg [0,1] [I 4 (.mv (V 0))])
def p_cursor_Cursor_jump_1:PC :=
 (.reg [0,1] [I 5 (.mv (.s 0)),I 6 (.mv (.s 1)),I 7 (.nilck (.s 5)),I 8 (.fadr 8 (.s 7)),J (.st 1 (.s 8) (.s 6))])
def p_cursor_Cursor_jump_2:PC :=
 (.reg [0,1,15] [I 9 (.mv (.s 0)),I 10 (.nilck (.s 9)),I 11 (.fadr 0 (.s 10)),I 12 (.fadr 1 (.s 11)),I 13 (.fadr 0 (.s 12)),I 14 (.ld false 1 (.s 13)),I 15 (.bin .eql (.s 14) (.v (.int .u64 0)))])
def p_cursor_Cursor_jump_3:PC :=
 (.reg [4] [I 4 (.mv (V 0))])
def p_cursor_Cursor_jump_4:PC :=
 (.reg [4] [I 16 (.mv (.s 0)),I 17 (.nilck (.s 16)),I 18 (.fadr 0 (.s 17)),I 19 (.mv (.s 0)),I 20 (.nilck (.s 19)),I 21 (.fadr 0 (.s 20)),I 22 (.mv (.s 1)),I 23 (C F_cursor_path_stands [(.s 21),(.s 22)]),I 24 (C F_cursor_path_enter [(.s 18),(.s 23)]),I 4 (.mv (.s 24))])
def p_cursor_Cursor_jump:PF:=⟨true,
 (.seq p_cursor_Cursor_jump_0
 (.seq p_cursor_Cursor_jump_1
 (.seq (.seq p_cursor_Cursor_jump_2
 (.ite (.s 15)
 (.seq p_cursor_Cursor_jump_3
 .ret)
 .skip))
 (.seq p_cursor_Cursor_jump_4
 .ret)))),
 [.s 4]⟩
theorem c_cursor_Cursor_jump:compF Go.Proofs.Tryz.prog true h_cursor_Cursor_jump Go.Proofs.Tryz.f105=some p_cursor_Cursor_jump:=by kernel_rfl
def h_cursor_Cursor_PrevC1:List Hint:=[H []]
def p_cursor_Cursor_PrevC1_0:PC :=
 (.reg [] [I 3 (.ld false 1 (.s 1)),I 4 (.mv (.s 0)),I 5 (.bslice false 1 [(.int .u8 0)] [(0,(.s 4))]),I 6 (.app 1 1 (.s 3) (.s 5)),J (.st 1 (.s 1) (.s 6))])
def p_cursor_Cursor_PrevC1:PF:=⟨false,
 p_cursor_Cursor_PrevC1_0,
 []⟩
theorem c_cursor_Cursor_PrevC1:compF Go.Proofs.Tryz.prog false h_cursor_Cursor_PrevC1 Go.Proofs.Tryz.f106=some p_cursor_Cursor_PrevC1:=by kernel_rfl
def h_cursor_path_leaf:List Hint:=[H [0],H [0,11],H [2,3,4],H [5],H [2,3,4]]
def p_cursor_path_leaf_0:PC :=
 (.reg [0] [I 2 (.mv (.v (.str []))),I 3 (.mv (V 0)),I 4 (.mv (V 0))])
def p_cursor_path_leaf_1:PC :=
 (.reg [0,11] [I 6 (.mv (.s 0)),I 7 (.nilck (.s 6)),I 8 (.fadr 6 (.s 7)),I 9 (.ld false 1 (.s 8)),I 10 (.len 1 (.s 9)),I 11 (.bin .eql (.s 10) (V 0))])
def p_cursor_path_leaf_2:PC :=
 (.reg [2,3,4] [I 2 (.mv (.v (.str []))),I 3 (.mv (V 0)),I 4 (.mv (V 0))])
def p_cursor_path_leaf_3:PC :=
 (.reg [5] [I 12 (.mv (.s 0)),I 13 (.nilck (.s 12)),I 14 (.fadr 6 (.s 13)),I 15 (.ld false 1 (.s 14)),I 16 (.mv (.s 0)),I 17 (.nilck (.s 16)),I 18 (.fadr 6 (.s 17)),I 19 (.ld false 1 (.s 18)),I 20 (.len 1 (.s 19)),I 21 (.bin .sub (.s 20) (V 1)),I 22 (.ixS 5 (.s 15) (.s 21)),I 23 (.ld true 5 (.s 22)),I 5 (.box (.v (.agg [(.int .i64 0),(.str []),.nils,(.int .i64 0),(.int .i64 0)]))),J (.st 5 (.s 5) (.s 23))])
def p_cursor_path_leaf_4:PC :=
 (.reg [2,3,4] [I 24 (.fadr 0 (.s 5)),I 25 (.fadr 1 (.s 24)),I 26 (.ld false 1 (.s 25)),I 27 (.fadr 3 (.s 5)),I 28 (.ld false 1 (.s 27)),I 29 (.fadr 4 (.s 5)),I 30 (.ld false 1 (.s 29)),I 2 (.mv (.s 26)),I 3 (.mv (.s 28)),I 4 (.mv (.s 30))])
def p_cursor_path_leaf:PF:=⟨true,
 (.seq p_cursor_path_leaf_0
 (.seq (.seq p_cursor_path_leaf_1
 (.ite (.s 11)
 (.seq p_cursor_path_leaf_2
 .ret)
 .skip))
 (.seq p_cursor_path_leaf_3
 (.seq p_cursor_path_leaf_4
 .ret)))),
 [.s 2,.s 3,.s 4]⟩
theorem c_cursor_path_leaf:compF Go.Proofs.Tryz.prog true h_cursor_path_leaf Go.Proofs.Tryz.f107=some p_cursor_path_leaf:=by kernel_rfl
def h_cursor_Cursor_ReadC1:List Hint:=[H [0,2],H [5]]
def p_cursor_Cursor_ReadC1_0:PC :=
 (.reg [0,2] [I 5 (.mv (.v (.bool false)))])
def p_cursor_Cursor_ReadC1_1:PC :=
 (.reg [5] [I 6 (.mv (.s 0)),I 7 (.ld false 1 (.s 2)),I 8 (.bin .lss (.s 6) (.s 7)),I 5 (.mv (.s 8))])
def p_cursor_Cursor_ReadC1:PF:=⟨false,
 (.seq p_cursor_Cursor_ReadC1_0
 (.seq p_cursor_Cursor_ReadC1_1
 .ret)),
 [.s 5]⟩
theorem c_cursor_Cursor_ReadC1:compF Go.Proofs.Tryz.prog false h_cursor_Cursor_ReadC1 Go.Proofs.Tryz.f108=some p_cursor_Cursor_ReadC1:=by kernel_rfl
def h_seek_LineOf:List Hint:=[H [0,2,4],H [6,7]]
def p_seek_LineOf_0:PC :=
 (.reg [0,2,4] [I 4 (.box (.s 1)),I 6 (.mv (V 0)),I 7 (.mv (V 0))])
def p_seek_LineOf_1:PC :=
 (.reg [6,7] [I 8 (.mv (.s 0)),I 9 (.ld true 5 (.s 4)),I 10 (.mv (.s 2)),I 11 (C F_seek_before [(.s 8),(.s 9),(.s 10),(.v (.func (.func F_seek_LineOfC1) [] [])),(.v (.func (.func F_measure_LineOf) [] []))]),I 12 (.ext (.s 11) 0),I 13 (.ext (.s 11) 1),I 6 (.mv (.s 12)),I 7 (.mv (.s 13))])
def p_seek_LineOf:PF:=⟨false,
 (.seq p_seek_LineOf_0
 (.seq p_seek_LineOf_1
 .ret)),
 [.s 6,.s 7]⟩
theorem c_seek_LineOf:compF Go.Proofs.Tryz.prog false h_seek_LineOf Go.Proofs.Tryz.f109=some p_seek_LineOf:=by kernel_rfl
def h_seek_Line:List Hint:=[H [0,2,4],H [0,2,4,8],H [0,2,4,8,13],H [6,7],H [0,2,4,23],H [6,7],H [0,2,4,25],H [6,7],H [6,7]]
def p_seek_Line_0:PC :=
 (.reg [0,2,4] [I 4 (.box (.s 1)),I 6 (.mv (V 0)),I 7 (.mv (V 0))])
def p_seek_Line_1:PC :=
 (.reg [0,2,4,8] [I 9 (.mv (.s 0)),I 10 (.ld true 5 (.s 4)),I 11 (C F_seek_check [(.s 9),(.s 10)]),I 8 (.mv (.s 11))])
def p_seek_Line_2:PC :=
 (.reg [0,2,4,8,13] [I 12 (.mv (.s 8)),I 13 (.bin .neq (.s 12) (V 0))])
def p_seek_Line_3:PC :=
 (.reg [6,7] [I 14 (.mv (.s 8)),I 6 (.mv (V 0)),I 7 (.mv (.s 14))])
def p_seek_Line_4:PC :=
 (.reg [0,2,4,23] [I 15 (.mv (.s 2)),I 16 (.bin .lss (.s 15) (V 0)),I 17 (.mv (.s 16)),G 18 17 false (.mv (.s 2)),G 19 17 false (.fadr 2 (.s 4)),G 20 17 false (.fadr 2 (.s 19)),G 21 17 false (.ld false 1 (.s 20)),G 22 17 false (.bin .gtr (.s 18) (.s 21)),I 23 (.pick (.s 17) (.v (.bool true)) (.s 22))])
def p_seek_Line_5:PC :=
 (.reg [6,7] [I 6 (.mv (V 0)),I 7 (.mv (V 3))])
def p_seek_Line_6:PC :=
 (.reg [0,2,4,25] [I 24 (.mv (.s 2)),I 25 (.bin .eql (.s 24) (V 0))])
def p_seek_Line_7:PC :=
 (.reg [6,7] [I 6 (.mv (V 0)),I 7 (.mv (V 0))])
def p_seek_Line_8:PC :=
 (.reg [6,7] [I 26 (.mv (.s 0)),I 27 (.ld true 5 (.s 4)),I 28 (.mv (.s 2)),I 29 (C F_seek_offset [(.s 26),(.s 27),(.s 28),(.v (.func (.func F_node_Line) [] [])),(.v (.func (.func F_measure_Line) [] []))]),I 30 (.ext (.s 29) 0),I 31 (.ext (.s 29) 1),I 6 (.mv (.s 30)),I 7 (.mv (.s 31))])
def p_seek_Line:PF:=⟨false,
 (.seq p_seek_Line_0
 (.seq (.seq p_seek_Line_1
 (.seq p_seek_Line_2
 (.ite (.s 13)
 (.seq p_seek_Line_3
 .ret)
 .skip)))
 (.seq (.seq p_seek_Line_4
 (.ite (.s 23)
 (.seq p_seek_Line_5
 .ret)
 .skip))
 (.seq (.seq p_seek_Line_6
 (.ite (.s 25)
 (.seq p_seek_Line_7
 .ret)
 .skip))
 (.seq p_seek_Line_8
 .ret))))),
 [.s 6,.s 7]⟩
theorem c_seek_Line:compF Go.Proofs.Tryz.prog false h_seek_Line Go.Proofs.Tryz.f110=some p_seek_Line:=by kernel_rfl
def h_rope_Nodes:List Hint:=[H [0,3,20],H [0,3,6,20],H [0,3,6,14,20],H [4,5],⟨[0,3,7,20],[0],[],[],[],[]⟩,H [0,3,7,8,20],H [7,8,19,20],H [7,8,9],H [7,8,9,25],H [7,9],H [7],H [4,5]]
def p_rope_Nodes_0:PC :=
 (.reg [0,3,20] [I 3 (.box (.s 1)),I 4 (.mv (.v .nils)),I 5 (.mv (V 0))])
def p_rope_Nodes_1:PC :=
 (.reg [0,3,6,20] [I 10 (.mv (.s 0)),I 11 (.ld true 5 (.s 3)),I 12 (C F_rope_Check [(.s 10),(.s 11)]),I 6 (.mv (.s 12))])
def p_rope_Nodes_2:PC :=
 (.reg [0,3,6,14,20] [I 13 (.mv (.s 6)),I 14 (.bin .neq (.s 13) (V 0))])
def p_rope_Nodes_3:PC :=
 (.reg [4,5] [I 15 (.mv (.s 6)),I 4 (.mv (.v .nils)),I 5 (.mv (.s 15))])
def p_rope_Nodes_4:PC :=
 (.reg [0,3,7,20] [I 7 (.boxnil 1)])
def p_rope_Nodes_5:PC :=
 (.reg [0,3,7,8,20] [I 16 (.mkmap),I 8 (.box (.v .nilmap)),J (.st 1 (.s 8) (.s 16))])
def p_rope_Nodes_6:PC :=
 (.reg [7,8,19,20] [I 17 (.mv (.s 0)),I 18 (.ld true 5 (.s 3)),I 19 (C F_rope_nodes [(.s 17),(.s 18)])])
def p_rope_Nodes_7:PC :=
 (.reg [7,8,9] [I 9 (.mv (.s 20))])
def p_rope_Nodes_8:PC :=
 (.reg [7,8,9,25] [I 22 (.ld false 1 (.s 8)),I 23 (.mv (.s 9)),I 24 (.look 0 (.bool false) false (.s 22) (.s 23)),I 25 (.un .not (.s 24))])
def p_rope_Nodes_9:PC :=
 (.reg [7,9] [I 26 (.ld false 1 (.s 8)),I 27 (.mv (.s 9)),J (.mupd 0 (.s 26) (.s 27) (.v (.bool true)))])
def p_rope_Nodes_10:PC :=
 (.reg [7] [I 28 (.ld false 1 (.s 7)),I 29 (.mv (.s 9)),I 30 (.bslice false 1 [(.int .u64 0)] [(0,(.s 29))]),I 31 (.app 1 8 (.s 28) (.s 30)),J (.st 1 (.s 7) (.s 31))])
def p_rope_Nodes_11:PC :=
 (.reg [4,5] [I 32 (.ld false 1 (.s 7)),I 4 (.mv (.s 32)),I 5 (.mv (V 0))])
def p_rope_Nodes:RF:=⟨33,
 (.seq p_rope_Nodes_0
 (.seq (.seq p_rope_Nodes_1
 (.seq p_rope_Nodes_2
 (.ite (.s 14)
 (.seq p_rope_Nodes_3
 .ret)
 .skip)))
 (.seq p_rope_Nodes_4
 (.seq p_rope_Nodes_5
 (.seq p_rope_Nodes_6
 .skip))))),
 ⟨(.s 19),[20,21],
 p_rope_Nodes_7,
 (.block 1
 (.seq p_rope_Nodes_8
 (.ite (.s 25)
 (.seq p_rope_Nodes_9
 p_rope_Nodes_10)
 .skip)))⟩,
 (.seq .skip
 (.seq p_rope_Nodes_11
 .ret)),
 [.s 4,.s 5]⟩
theorem c_rope_Nodes:compRF Go.Proofs.Tryz.prog h_rope_Nodes Go.Proofs.Tryz.f111=some p_rope_Nodes:=by kernel_rfl
def h_freelist_List_Free:List Hint:=[H [0],H [0,7],H [2],H [0,3],H [3],H [3,4,5],H [3,4,5,25],H [3,4,5],H [3,4,5],H [2]]
def p_freelist_List_Free_0:PC :=
 (.reg [0] [I 2 (.mv (.v .nils))])
def p_freelist_List_Free_1:PC :=
 (.reg [0,7] [I 6 (.mv (.s 0)),I 7 (.eqs false 3 [] (.s 6) (.v .nilptr))])
def p_freelist_List_Free_2:PC :=
 (.reg [2] [I 2 (.mv (.v .nils))])
def p_freelist_List_Free_3:PC :=
 (.reg [0,3] [I 8 (.mv (.s 0)),I 9 (.nilck (.s 8)),I 10 (.fadr 0 (.s 9)),I 11 (.ld false 1 (.s 10)),I 12 (.len 1 (.s 11)),I 13 (.mkslice 1 8 (.int .i64 0) (.s 12) (.s 12)),I 3 (.mv (.s 13))])
def p_freelist_List_Free_4:PC :=
 (.reg [3] [I 14 (.mv (.s 3)),I 15 (.mv (.s 0)),I 16 (.nilck (.s 15)),I 17 (.fadr 0 (.s 16)),I 18 (.ld false 1 (.s 17)),I 19 (.cpy 1 (.s 14) (.s 18))])
def p_freelist_List_Free_5:PC :=
 (.reg [3,4,5] [I 20 (.mv (.s 3)),I 21 (.len 1 (.s 20)),I 22 (.bin .sub (.s 21) (V 1)),I 4 (.mv (V 0)),I 5 (.mv (.s 22))])
def p_freelist_List_Free_6:PC :=
 (.reg [3,4,5,25] [I 23 (.mv (.s 4)),I 24 (.mv (.s 5)),I 25 (.bin .lss (.s 23) (.s 24))])
def p_freelist_List_Free_7:PC :=
 (.reg [3,4,5] [I 30 (.mv (.s 3)),I 31 (.mv (.s 4)),I 32 (.mv (.s 3)),I 33 (.mv (.s 5)),I 34 (.mv (.s 3)),I 35 (.mv (.s 5)),I 36 (.ixS 1 (.s 34) (.s 35)),I 37 (.ld false 1 (.s 36)),I 38 (.mv (.s 3)),I 39 (.mv (.s 4)),I 40 (.ixS 1 (.s 38) (.s 39)),I 41 (.ld false 1 (.s 40)),I 42 (.ixS 1 (.s 30) (.s 31)),J (.st 1 (.s 42) (.s 37)),I 43 (.ixS 1 (.s 32) (.s 33)),J (.st 1 (.s 43) (.s 41))])
def p_freelist_List_Free_8:PC :=
 (.reg [3,4,5] [I 26 (.mv (.s 4)),I 27 (.bin .add (.s 26) (V 1)),I 28 (.mv (.s 5)),I 29 (.bin .sub (.s 28) (V 1)),I 4 (.mv (.s 27)),I 5 (.mv (.s 29))])
def p_freelist_List_Free_9:PC :=
 (.seq (.seq p_freelist_List_Free_6
 (.ite (.s 25)
 .skip
 (.exit 0)))
 (.seq (.block 1
 p_freelist_List_Free_7)
 p_freelist_List_Free_8))
def p_freelist_List_Free_10:PC :=
 (.reg [2] [I 44 (.mv (.s 3)),I 2 (.mv (.s 44))])
def p_freelist_List_Free:PF:=⟨false,
 (.seq p_freelist_List_Free_0
 (.seq (.seq p_freelist_List_Free_1
 (.ite (.s 7)
 (.seq p_freelist_List_Free_2
 .ret)
 .skip))
 (.seq p_freelist_List_Free_3
 (.seq p_freelist_List_Free_4
 (.seq (.seq p_freelist_List_Free_5
 (.block 0
 (.loop p_freelist_List_Free_9)))
 (.seq p_freelist_List_Free_10
 .ret)))))),
 [.s 2]⟩
theorem c_freelist_List_Free:compF Go.Proofs.Tryz.prog false h_freelist_List_Free Go.Proofs.Tryz.f112=some p_freelist_List_Free:=by kernel_rfl
def h_freelist_List_Withdrawn:List Hint:=[H [0],H [2]]
def p_freelist_List_Withdrawn_0:PC :=
 (.reg [0] [I 2 (.mv (.v .nils))])
def p_freelist_List_Withdrawn_1:PC :=
 (.reg [2] [I 3 (.mv (.s 0)),I 4 (C F_freelist_List_slots [(.s 3),(.v (.int .u8 2))]),I 2 (.mv (.s 4))])
def p_freelist_List_Withdrawn:PF:=⟨false,
 (.seq p_freelist_List_Withdrawn_0
 (.seq p_freelist_List_Withdrawn_1
 .ret)),
 [.s 2]⟩
theorem c_freelist_List_Withdrawn:compF Go.Proofs.Tryz.prog false h_freelist_List_Withdrawn Go.Proofs.Tryz.f113=some p_freelist_List_Withdrawn:=by kernel_rfl
def h_rope_Write:List Hint:=[⟨[0,3,4,5],[2],[],[],[],[]⟩,H [4,5,6,7],H [4,5,6,7,18],⟨[4,5,6],[3],[],[],[],[]⟩,H [4,5,7,26],H [4,5,7,8,10],H [4,5,7,8,10,34],⟨[4,5,6],[3],[],[],[],[]⟩,H [4,5,7],H [4,5,6],H [4,5,6]]
def p_rope_Write_0:PC :=
 (.reg [0,3,4,5] [I 3 (.box (.s 1)),I 4 (.box (.v ZR)),I 5 (.onil 1),I 6 (.mv (V 0))])
def p_rope_Write_1:PC :=
 (.reg [4,5,6,7] [I 12 (.mv (.s 0)),I 13 (.ld true 7 (.s 3)),I 14 (C F_rope_Begin [(.s 12),(.s 13)]),I 11 (.mv (.s 14)),I 15 (.ext (.s 11) 0),I 16 (.ext (.s 11) 1),I 7 (.mv (.s 15)),I 6 (.mv (.s 16))])
def p_rope_Write_2:PC :=
 (.reg [4,5,6,7,18] [I 17 (.mv (.s 6)),I 18 (.bin .neq (.s 17) (V 0))])
def p_rope_Write_3:PC :=
 (.reg [4,5,6] [I 19 (.build [(.int .u64 0),(.int .i64 0),(.int .i64 0),(.int .i64 0),(.int .i64 0)] []),I 20 (.mv (.s 6)),J (.st 5 (.s 4) (.s 19)),I 5 (.onil 1),I 6 (.mv (.s 20))])
def p_rope_Write_4:PC :=
 (.reg [4,5,7,26] [I 21 (.mv (.s 7)),I 22 (.nilck (.s 21)),I 23 (.fadr 1 (.s 22)),I 24 (.ld false 1 (.s 23)),I 25 (.len 1 (.s 24)),I 26 (.bin .gtr (.s 25) (V 0))])
def p_rope_Write_5:PC :=
 (.reg [4,5,7,8,10] [I 28 (.mv (.s 7)),I 29 (C F_rope_Pen_Step [(.s 28)]),I 27 (.mv (.s 29)),I 30 (.ext (.s 27) 0),I 31 (.ext (.s 27) 1),I 32 (.ext (.s 27) 2),I 8 (.mv (.s 30)),I 9 (.mv (.s 31)),I 10 (.mv (.s 32))])
def p_rope_Write_6:PC :=
 (.reg [4,5,7,8,10,34] [I 33 (.mv (.s 10)),I 34 (.bin .neq (.s 33) (V 0))])
def p_rope_Write_7:PC :=
 (.reg [4,5,6] [I 35 (.build [(.int .u64 0),(.int .i64 0),(.int .i64 0),(.int .i64 0),(.int .i64 0)] []),I 36 (.mv (.s 10)),J (.st 5 (.s 4) (.s 35)),I 5 (.onil 1),I 6 (.mv (.s 36))])
def p_rope_Write_8:PC :=
 (.reg [4,5,7] [I 37 (.mv (.s 5)),I 38 (.mv (.s 8)),I 39 (.bslice false 1 [(.int .u64 0)] [(0,(.s 38))]),I 40 (.app 1 8 (.s 37) (.s 39)),I 5 (.mv (.s 40))])
def p_rope_Write_9:PC :=
 (.seq (.seq p_rope_Write_4
 (.ite (.s 26)
 .skip
 (.exit 0)))
 (.block 1
 (.seq p_rope_Write_5
 (.seq (.seq p_rope_Write_6
 (.ite (.s 34)
 (.seq p_rope_Write_7
 .ret)
 .skip))
 p_rope_Write_8))))
def p_rope_Write_10:PC :=
 (.reg [4,5,6] [I 42 (.mv (.s 7)),I 43 (C F_rope_Pen_Root [(.s 42)]),I 41 (.mv (.s 43)),I 44 (.ext (.s 41) 0),I 45 (.ext (.s 41) 1),J (.st 5 (.s 4) (.s 44)),I 6 (.mv (.s 45))])
def p_rope_Write_11:PC :=
 (.reg [4,5,6] [I 46 (.ld true 5 (.s 4)),I 47 (.mv (.s 5)),I 48 (.mv (.s 6)),J (.st 5 (.s 4) (.s 46)),I 5 (.mv (.s 47)),I 6 (.mv (.s 48))])
def p_rope_Write:PF:=⟨false,
 (.seq p_rope_Write_0
 (.seq p_rope_Write_1
 (.seq (.seq p_rope_Write_2
 (.ite (.s 18)
 (.seq p_rope_Write_3
 .ret)
 .skip))
 (.seq (.block 0
 (.loop p_rope_Write_9))
 (.seq p_rope_Write_10
 (.seq p_rope_Write_11
 .ret)))))),
 [.c 4 true 5,.s 5,.s 6]⟩
theorem c_rope_Write:compF Go.Proofs.Tryz.prog false h_rope_Write Go.Proofs.Tryz.f125=some p_rope_Write:=by kernel_rfl
def h_freelist_List_Give:List Hint:=[H [0,1],H [0,1,9],H [4,5],H [0,6,7],H [0,6,17],H [4,5],H [0,6,29],H [],H [4,5],H [0,6],H [0,6],H [],H [4,5]]
def p_freelist_List_Give_0:PC :=
 (.reg [0,1] [I 4 (.mv (.v (.bool false))),I 5 (.mv (V 0))])
def p_freelist_List_Give_1:PC :=
 (.reg [0,1,9] [I 8 (.mv (.s 0)),I 9 (.eqs false 3 [] (.s 8) (.v .nilptr))])
def p_freelist_List_Give_2:PC :=
 (.reg [4,5] [I 4 (.mv (.v (.bool false))),I 5 (.mv (V 1))])
def p_freelist_List_Give_3:PC :=
 (.reg [0,6,7] [I 11 (.mv (.s 0)),I 12 (.mv (.s 1)),I 13 (C F_freelist_List_slot [(.s 11),(.s 12)]),I 10 (.mv (.s 13)),I 14 (.ext (.s 10) 0),I 15 (.ext (.s 10) 1),I 6 (.mv (.s 14)),I 7 (.mv (.s 15))])
def p_freelist_List_Give_4:PC :=
 (.reg [0,6,17] [I 16 (.mv (.s 7)),I 17 (.un .not (.s 16))])
def p_freelist_List_Give_5:PC :=
 (.reg [4,5] [I 4 (.mv (.v (.bool false))),I 5 (.mv (V 10))])
def p_freelist_List_Give_6:PC :=
 (.reg [0,6,29] [I 18 (.mv (.s 0)),I 19 (.nilck (.s 18)),I 20 (.fadr 2 (.s 19)),I 21 (.ld false 1 (.s 20)),I 22 (.mv (.s 6)),I 23 (.ixS 1 (.s 21) (.s 22)),I 24 (.ld false 1 (.s 23)),I 25 (.mv (.s 0)),I 26 (.nilck (.s 25)),I 27 (.fadr 3 (.s 26)),I 28 (.ld false 1 (.s 27)),I 29 (.bin .eql (.s 24) (.s 28))])
def p_freelist_List_Give_7:PC :=
 (.reg [] [I 30 (.mv (.s 0)),I 31 (.nilck (.s 30)),I 32 (.fadr 1 (.s 31)),I 33 (.ld false 1 (.s 32)),I 34 (.mv (.s 6)),I 35 (.ixS 1 (.s 33) (.s 34)),J (.st 1 (.s 35) (.v (.int .u8 2)))])
def p_freelist_List_Give_8:PC :=
 (.reg [4,5] [I 4 (.mv (.v (.bool true))),I 5 (.mv (V 0))])
def p_freelist_List_Give_9:PC :=
 (.reg [0,6] [I 36 (.mv (.s 0)),I 37 (.nilck (.s 36)),I 38 (.fadr 2 (.s 37)),I 39 (.ld false 1 (.s 38)),I 40 (.mv (.s 6)),I 41 (.ixS 1 (.s 39) (.s 40)),I 42 (.ld false 1 (.s 41)),I 43 (.bin .add (.s 42) (.v (.int .u64 1))),I 44 (.ixS 1 (.s 39) (.s 40)),J (.st 1 (.s 44) (.s 43))])
def p_freelist_List_Give_10:PC :=
 (.reg [0,6] [I 45 (.mv (.s 0)),I 46 (.nilck (.s 45)),I 47 (.fadr 1 (.s 46)),I 48 (.ld false 1 (.s 47)),I 49 (.mv (.s 6)),I 50 (.ixS 1 (.s 48) (.s 49)),J (.st 1 (.s 50) (.v (.int .u8 0)))])
def p_freelist_List_Give_11:PC :=
 (.reg [] [I 51 (.mv (.s 0)),I 52 (.mv (.s 0)),I 53 (.nilck (.s 52)),I 54 (.fadr 0 (.s 53)),I 55 (.ld false 1 (.s 54)),I 56 (.mv (.s 6)),I 57 (.bslice false 1 [(.int .i64 0)] [(0,(.s 56))]),I 58 (.app 1 8 (.s 55) (.s 57)),I 59 (.nilck (.s 51)),I 60 (.fadr 0 (.s 59)),J (.st 1 (.s 60) (.s 58))])
def p_freelist_List_Give_12:PC :=
 (.reg [4,5] [I 4 (.mv (.v (.bool false))),I 5 (.mv (V 0))])
def p_freelist_List_Give:PF:=⟨false,
 (.seq p_freelist_List_Give_0
 (.seq (.seq p_freelist_List_Give_1
 (.ite (.s 9)
 (.seq p_freelist_List_Give_2
 .ret)
 .skip))
 (.seq p_freelist_List_Give_3
 (.seq (.seq p_freelist_List_Give_4
 (.ite (.s 17)
 (.seq p_freelist_List_Give_5
 .ret)
 .skip))
 (.seq (.seq p_freelist_List_Give_6
 (.ite (.s 29)
 (.seq p_freelist_List_Give_7
 (.seq p_freelist_List_Give_8
 .ret))
 .skip))
 (.seq p_freelist_List_Give_9
 (.seq p_freelist_List_Give_10
 (.seq p_freelist_List_Give_11
 (.seq p_freelist_List_Give_12
 .ret))))))))),
 [.s 4,.s 5]⟩
theorem c_freelist_List_Give:compF Go.Proofs.Tryz.prog false h_freelist_List_Give Go.Proofs.Tryz.f131=some p_freelist_List_Give:=by kernel_rfl
def h_freelist_New:List Hint:=[H [0,1],H [0,1,21],H [4,5],⟨[0,6],[],[],[],[(1,(.here 1)),(5,(.here 5)),(3,(.here 3))],[3,1,5]⟩,H [0,6,31,32],H [0,6,31,32,33],H [0,6,7,31,32],H [0,6,7,31,32],H [0,6,31,32],H [0,6,31,32],H [4,5]]
def p_freelist_New_0:PC :=
 (.reg [0,1] [I 4 (.mv (.v .nilptr)),I 5 (.mv (V 0))])
def p_freelist_New_1:PC :=
 (.reg [0,1,21] [I 8 (.mv (.s 0)),I 9 (.bin .lss (.s 8) (V 1)),I 10 (.mv (.s 9)),G 11 10 false (.mv (.s 0)),G 12 10 false (.bin .gtr (.s 11) (V 16384)),I 13 (.pick (.s 10) (.v (.bool true)) (.s 12)),I 14 (.mv (.s 13)),G 15 14 false (.mv (.s 1)),G 16 14 false (.bin .lss (.s 15) (.v (.int .u64 1))),I 17 (.pick (.s 14) (.v (.bool true)) (.s 16)),I 18 (.mv (.s 17)),G 19 18 false (.mv (.s 1)),G 20 18 false (.bin .gtr (.s 19) (.v (.int .u64 4294967295))),I 21 (.pick (.s 18) (.v (.bool true)) (.s 20))])
def p_freelist_New_2:PC :=
 (.reg [4,5] [I 4 (.mv (.v .nilptr)),I 5 (.mv (V 3))])
def p_freelist_New_3:PC :=
 (.regH [3,1,5] [0,6] [I 22 (.mv (.s 0)),I 23 (.w (.here 1) (.mkslice 1 8 (.int .i64 0) (.s 22) (.s 22))),I 24 (.mv (.s 0)),I 25 (.w (.here 3) (.mkslice 1 1 (.int .u8 0) (.s 24) (.s 24))),I 26 (.mv (.s 0)),I 27 (.w (.here 5) (.mkslice 1 8 (.int .u64 0) (.s 26) (.s 26))),I 28 (.mv (.s 1)),I 29 (.build [.nils,.nils,.nils,(.int .u64 0)] [(0,1,(.s 23)),(1,1,(.s 25)),(2,1,(.s 27)),(3,1,(.s 28))]),I 30 (.box (.s 29)),I 6 (.mv (.s 30))])
def p_freelist_New_4:PC :=
 (.reg [0,6,31,32] [I 31 (.mv (.s 0)),I 32 (.mv (V 0))])
def p_freelist_New_5:PC :=
 (.reg [0,6,31,32,33] [I 33 (.bin .lss (.s 32) (.s 31))])
def p_freelist_New_6:PC :=
 (.reg [0,6,7,31,32] [I 34 (.mv (.s 32)),I 7 (.mv (.s 34))])
def p_freelist_New_7:PC :=
 (.reg [0,6,7,31,32] [I 35 (.mv (.s 6)),I 36 (.nilck (.s 35)),I 37 (.fadr 0 (.s 36)),I 38 (.ld false 1 (.s 37)),I 39 (.mv (.s 7)),I 40 (.mv (.s 0)),I 41 (.bin .sub (.s 40) (V 1)),I 42 (.mv (.s 7)),I 43 (.bin .sub (.s 41) (.s 42)),I 44 (.ixS 1 (.s 38) (.s 39)),J (.st 1 (.s 44) (.s 43))])
def p_freelist_New_8:PC :=
 (.reg [0,6,31,32] [I 45 (.mv (.s 6)),I 46 (.nilck (.s 45)),I 47 (.fadr 2 (.s 46)),I 48 (.ld false 1 (.s 47)),I 49 (.mv (.s 7)),I 50 (.ixS 1 (.s 48) (.s 49)),J (.st 1 (.s 50) (.v (.int .u64 1)))])
def p_freelist_New_9:PC :=
 (.reg [0,6,31,32] [I 51 (.bin .add (.s 32) (V 1)),I 32 (.mv (.s 51))])
def p_freelist_New_10:PC :=
 (.seq p_freelist_New_5
 (.seq (.ite (.s 33)
 .skip
 (.exit 0))
 (.seq (.block 1
 (.seq p_freelist_New_6
 (.seq p_freelist_New_7
 p_freelist_New_8)))
 p_freelist_New_9)))
def p_freelist_New_11:PC :=
 (.reg [4,5] [I 52 (.mv (.s 6)),I 4 (.mv (.s 52)),I 5 (.mv (V 0))])
def p_freelist_New:PF:=⟨true,
 (.seq p_freelist_New_0
 (.seq (.seq p_freelist_New_1
 (.ite (.s 21)
 (.seq p_freelist_New_2
 .ret)
 .skip))
 (.seq p_freelist_New_3
 (.seq (.seq p_freelist_New_4
 (.block 0
 (.loop p_freelist_New_10)))
 (.seq p_freelist_New_11
 .ret))))),
 [.s 4,.s 5]⟩
theorem c_freelist_New:compF Go.Proofs.Tryz.prog true h_freelist_New Go.Proofs.Tryz.f132=some p_freelist_New:=by kernel_rfl
def h_quartoref11_New:List Hint:=[H [0,1],H [0,1,13],H [4,5],H [0,1,19],H [4,5],H [0,6],H [0,6,7],H [0,6,7,25],H [0,6,7],H [0,6,7],H [0,6,7],H [0,6,7],H [4,5]]
def p_quartoref11_New_0:PC :=
 (.reg [0,1] [I 4 (.mv (.v .nilptr)),I 5 (.mv (V 0))])
def p_quartoref11_New_1:PC :=
 (.reg [0,1,13] [I 8 (.mv (.s 0)),I 9 (.bin .lss (.s 8) (V 1)),I 10 (.mv (.s 9)),G 11 10 false (.mv (.s 0)),G 12 10 false (.bin .gtr (.s 11) (V 16384)),I 13 (.pick (.s 10) (.v (.bool true)) (.s 12))])
def p_quartoref11_New_2:PC :=
 (.reg [4,5] [I 4 (.mv (.v .nilptr)),I 5 (.mv (V 3))])
def p_quartoref11_New_3:PC :=
 (.reg [0,1,19] [I 14 (.mv (.s 1)),I 15 (.bin .lss (.s 14) (.v (.int .u64 1))),I 16 (.mv (.s 15)),G 17 16 false (.mv (.s 1)),G 18 16 false (.bin .gtr (.s 17) (.v (.int .u64 4294967295))),I 19 (.pick (.s 16) (.v (.bool true)) (.s 18))])
def p_quartoref11_New_4:PC :=
 (.reg [4,5] [I 4 (.mv (.v .nilptr)),I 5 (.mv (V 3))])
def p_quartoref11_New_5:PC :=
 (.reg [0,6] [I 20 (.mv (.s 1)),I 21 (.build [(.int .u64 0),.nils,.nils,.nils] [(0,1,(.s 20))]),I 22 (.box (.s 21)),I 6 (.mv (.s 22))])
def p_quartoref11_New_6:PC :=
 (.reg [0,6,7] [I 7 (.mv (V 0))])
def p_quartoref11_New_7:PC :=
 (.reg [0,6,7,25] [I 23 (.mv (.s 7)),I 24 (.mv (.s 0)),I 25 (.bin .lss (.s 23) (.s 24))])
def p_quartoref11_New_8:PC :=
 (.reg [0,6,7] [I 28 (.mv (.s 6)),I 29 (.mv (.s 6)),I 30 (.nilck (.s 29)),I 31 (.fadr 1 (.s 30)),I 32 (.ld false 1 (.s 31)),I 33 (.bslice false 1 [(.int .i64 0)] [(0,(V 0))]),I 34 (.app 1 8 (.s 32) (.s 33)),I 35 (.nilck (.s 28)),I 36 (.fadr 1 (.s 35)),J (.st 1 (.s 36) (.s 34))])
def p_quartoref11_New_9:PC :=
 (.reg [0,6,7] [I 37 (.mv (.s 6)),I 38 (.mv (.s 6)),I 39 (.nilck (.s 38)),I 40 (.fadr 2 (.s 39)),I 41 (.ld false 1 (.s 40)),I 42 (.bslice false 1 [(.int .u64 0)] [(0,(.v (.int .u64 1)))]),I 43 (.app 1 8 (.s 41) (.s 42)),I 44 (.nilck (.s 37)),I 45 (.fadr 2 (.s 44)),J (.st 1 (.s 45) (.s 43))])
def p_quartoref11_New_10:PC :=
 (.reg [0,6,7] [I 46 (.mv (.s 6)),I 47 (.mv (.s 6)),I 48 (.nilck (.s 47)),I 49 (.fadr 3 (.s 48)),I 50 (.ld false 1 (.s 49)),I 51 (.mv (.s 0)),I 52 (.bin .sub (.s 51) (V 1)),I 53 (.mv (.s 7)),I 54 (.bin .sub (.s 52) (.s 53)),I 55 (.bslice false 1 [(.int .i64 0)] [(0,(.s 54))]),I 56 (.app 1 8 (.s 50) (.s 55)),I 57 (.nilck (.s 46)),I 58 (.fadr 3 (.s 57)),J (.st 1 (.s 58) (.s 56))])
def p_quartoref11_New_11:PC :=
 (.reg [0,6,7] [I 26 (.mv (.s 7)),I 27 (.bin .add (.s 26) (V 1)),I 7 (.mv (.s 27))])
def p_quartoref11_New_12:PC :=
 (.seq (.seq p_quartoref11_New_7
 (.ite (.s 25)
 .skip
 (.exit 0)))
 (.seq (.block 1
 (.seq p_quartoref11_New_8
 (.seq p_quartoref11_New_9
 p_quartoref11_New_10)))
 p_quartoref11_New_11))
def p_quartoref11_New_13:PC :=
 (.reg [4,5] [I 59 (.mv (.s 6)),I 4 (.mv (.s 59)),I 5 (.mv (V 0))])
def p_quartoref11_New:PF:=⟨true,
 (.seq p_quartoref11_New_0
 (.seq (.seq p_quartoref11_New_1
 (.ite (.s 13)
 (.seq p_quartoref11_New_2
 .ret)
 .skip))
 (.seq (.seq p_quartoref11_New_3
 (.ite (.s 19)
 (.seq p_quartoref11_New_4
 .ret)
 .skip))
 (.seq p_quartoref11_New_5
 (.seq (.seq p_quartoref11_New_6
 (.block 0
 (.loop p_quartoref11_New_12)))
 (.seq p_quartoref11_New_13
 .ret)))))),
 [.s 4,.s 5]⟩
theorem c_quartoref11_New:compF Go.Proofs.Tryz.prog true h_quartoref11_New Go.Proofs.Tryz.f133=some p_quartoref11_New:=by kernel_rfl
def h_node_Check:List Hint:=[H [1],H [1,5],H [2],H [9],H [2],H [2]]
def p_node_Check_0:PC :=
 (.reg [1] [I 1 (.box (.s 0)),I 2 (.mv (V 0))])
def p_node_Check_1:PC :=
 (.reg [1,5] [I 3 (.ld true 3 (.s 1)),I 4 (C F_node_formed [(.s 3)]),I 5 (.un .not (.s 4))])
def p_node_Check_2:PC :=
 (.reg [2] [I 2 (.mv (V 23))])
def p_node_Check_3:PC :=
 (.reg [9] [I 6 (.ld true 3 (.s 1)),I 7 (C F_node_sum [(.s 6)]),I 8 (.fld false 0 1 (.s 7)),I 9 (.bin .gtr (.s 8) (V 65536))])
def p_node_Check_4:PC :=
 (.reg [2] [I 2 (.mv (V 5))])
def p_node_Check_5:PC :=
 (.reg [2] [I 2 (.mv (V 0))])
def p_node_Check:PF:=⟨false,
 (.seq p_node_Check_0
 (.seq (.seq p_node_Check_1
 (.ite (.s 5)
 (.seq p_node_Check_2
 .ret)
 .skip))
 (.seq (.seq p_node_Check_3
 (.ite (.s 9)
 (.seq p_node_Check_4
 .ret)
 .skip))
 (.seq p_node_Check_5
 .ret)))),
 [.s 2]⟩
theorem c_node_Check:compF Go.Proofs.Tryz.prog false h_node_Check Go.Proofs.Tryz.f141=some p_node_Check:=by kernel_rfl
def h_node_Measure:List Hint:=[H [1,2],H [1,2,4],H [1,2,4,8],H [2,3],H [2,3]]
def p_node_Measure_0:PC :=
 (.reg [1,2] [I 1 (.box (.s 0)),I 2 (.box (.v ZM)),I 3 (.mv (V 0))])
def p_node_Measure_1:PC :=
 (.reg [1,2,4] [I 5 (.ld true 3 (.s 1)),I 6 (C F_node_Check [(.s 5)]),I 4 (.mv (.s 6))])
def p_node_Measure_2:PC :=
 (.reg [1,2,4,8] [I 7 (.mv (.s 4)),I 8 (.bin .neq (.s 7) (V 0))])
def p_node_Measure_3:PC :=
 (.reg [2,3] [I 9 (.build [(.int .i64 0),(.int .i64 0),(.int .i64 0)] []),I 10 (.mv (.s 4)),J (.st 3 (.s 2) (.s 9)),I 3 (.mv (.s 10))])
def p_node_Measure_4:PC :=
 (.reg [2,3] [I 11 (.ld true 3 (.s 1)),I 12 (C F_node_sum [(.s 11)]),J (.st 3 (.s 2) (.s 12)),I 3 (.mv (V 0))])
def p_node_Measure:PF:=⟨false,
 (.seq p_node_Measure_0
 (.seq (.seq p_node_Measure_1
 (.seq p_node_Measure_2
 (.ite (.s 8)
 (.seq p_node_Measure_3
 .ret)
 .skip)))
 (.seq p_node_Measure_4
 .ret))),
 [.c 2 true 3,.s 3]⟩
theorem c_node_Measure:compF Go.Proofs.Tryz.prog false h_node_Measure Go.Proofs.Tryz.f142=some p_node_Measure:=by kernel_rfl
def h_freelist_List_Take:List Hint:=[H [0],H [0,6],H [2,3],H [0,12],H [2,3],H [0,4],H [0,4],H [0,4],H [2,3]]
def p_freelist_List_Take_0:PC :=
 (.reg [0] [I 2 (.mv (.v (.int .u64 0))),I 3 (.mv (V 0))])
def p_freelist_List_Take_1:PC :=
 (.reg [0,6] [I 5 (.mv (.s 0)),I 6 (.eqs false 3 [] (.s 5) (.v .nilptr))])
def p_freelist_List_Take_2:PC :=
 (.reg [2,3] [I 2 (.mv (.v (.int .u64 0))),I 3 (.mv (V 1))])
def p_freelist_List_Take_3:PC :=
 (.reg [0,12] [I 7 (.mv (.s 0)),I 8 (.nilck (.s 7)),I 9 (.fadr 0 (.s 8)),I 10 (.ld false 1 (.s 9)),I 11 (.len 1 (.s 10)),I 12 (.bin .eql (.s 11) (V 0))])
def p_freelist_List_Take_4:PC :=
 (.reg [2,3] [I 2 (.mv (.v (.int .u64 0))),I 3 (.mv (V 6))])
def p_freelist_List_Take_5:PC :=
 (.reg [0,4] [I 13 (.mv (.s 0)),I 14 (.nilck (.s 13)),I 15 (.fadr 0 (.s 14)),I 16 (.ld false 1 (.s 15)),I 17 (.mv (.s 0)),I 18 (.nilck (.s 17)),I 19 (.fadr 0 (.s 18)),I 20 (.ld false 1 (.s 19)),I 21 (.len 1 (.s 20)),I 22 (.bin .sub (.s 21) (V 1)),I 23 (.ixS 1 (.s 16) (.s 22)),I 24 (.ld false 1 (.s 23)),I 4 (.mv (.s 24))])
def p_freelist_List_Take_6:PC :=
 (.reg [0,4] [I 25 (.mv (.s 0)),I 26 (.mv (.s 0)),I 27 (.nilck (.s 26)),I 28 (.fadr 0 (.s 27)),I 29 (.ld false 1 (.s 28)),I 30 (.mv (.s 0)),I 31 (.nilck (.s 30)),I 32 (.fadr 0 (.s 31)),I 33 (.ld false 1 (.s 32)),I 34 (.len 1 (.s 33)),I 35 (.bin .sub (.s 34) (V 1)),I 36 (.slc 1 (.s 29) none (some (.s 35))),I 37 (.nilck (.s 25)),I 38 (.fadr 0 (.s 37)),J (.st 1 (.s 38) (.s 36))])
def p_freelist_List_Take_7:PC :=
 (.reg [0,4] [I 39 (.mv (.s 0)),I 40 (.nilck (.s 39)),I 41 (.fadr 1 (.s 40)),I 42 (.ld false 1 (.s 41)),I 43 (.mv (.s 4)),I 44 (.ixS 1 (.s 42) (.s 43)),J (.st 1 (.s 44) (.v (.int .u8 1)))])
def p_freelist_List_Take_8:PC :=
 (.reg [2,3] [I 45 (.mv (.s 4)),I 46 (.mv (.s 0)),I 47 (.nilck (.s 46)),I 48 (.fadr 2 (.s 47)),I 49 (.ld false 1 (.s 48)),I 50 (.mv (.s 4)),I 51 (.ixS 1 (.s 49) (.s 50)),I 52 (.ld false 1 (.s 51)),I 53 (C F_handle_Make [(.s 45),(.s 52)]),I 54 (.ext (.s 53) 0),I 55 (.ext (.s 53) 1),I 2 (.mv (.s 54)),I 3 (.mv (.s 55))])
def p_freelist_List_Take:PF:=⟨false,
 (.seq p_freelist_List_Take_0
 (.seq (.seq p_freelist_List_Take_1
 (.ite (.s 6)
 (.seq p_freelist_List_Take_2
 .ret)
 .skip))
 (.seq (.seq p_freelist_List_Take_3
 (.ite (.s 12)
 (.seq p_freelist_List_Take_4
 .ret)
 .skip))
 (.seq p_freelist_List_Take_5
 (.seq p_freelist_List_Take_6
 (.seq p_freelist_List_Take_7
 (.seq p_freelist_List_Take_8
 .ret))))))),
 [.s 2,.s 3]⟩
theorem c_freelist_List_Take:compF Go.Proofs.Tryz.prog false h_freelist_List_Take Go.Proofs.Tryz.f143=some p_freelist_List_Take:=by kernel_rfl
def h_arena_Arena_Get:List Hint:=[H [0,1,4],H [0,1,4,9],H [4,5],H [0,4,6,7],H [0,4,6,21],H [4],H [4,5],H [4,6],H [4,5]]
def p_arena_Arena_Get_0:PC :=
 (.reg [0,1,4] [I 4 (.box (.v ZN)),I 5 (.mv (V 0))])
def p_arena_Arena_Get_1:PC :=
 (.reg [0,1,4,9] [I 8 (.mv (.s 0)),I 9 (.eqs false 3 [] (.s 8) (.v .nilptr))])
def p_arena_Arena_Get_2:PC :=
 (.reg [4,5] [I 10 (.build [(.int .i64 0),(.str []),.nils] []),J (.st 3 (.s 4) (.s 10)),I 5 (.mv (V 1))])
def p_arena_Arena_Get_3:PC :=
 (.reg [0,4,6,7] [I 12 (.mv (.s 0)),I 13 (.nilck (.s 12)),I 14 (.fadr 2 (.s 13)),I 15 (.ld false 1 (.s 14)),I 16 (.mv (.s 1)),I 17 (.look 0 ZN true (.s 15) (.s 16)),I 11 (.mv (.s 17)),I 18 (.ext (.s 11) 0),I 19 (.ext (.s 11) 1),I 6 (.box (.v ZN)),J (.st 3 (.s 6) (.s 18)),I 7 (.mv (.s 19))])
def p_arena_Arena_Get_4:PC :=
 (.reg [0,4,6,21] [I 20 (.mv (.s 7)),I 21 (.un .not (.s 20))])
def p_arena_Arena_Get_5:PC :=
 (.reg [4] [I 22 (.mv (.s 0)),I 23 (.nilck (.s 22)),I 24 (.fadr 5 (.s 23)),I 25 (.ld false 1 (.s 24)),I 26 (.bin .add (.s 25) (V 1)),I 27 (.nilck (.s 22)),I 28 (.fadr 5 (.s 27)),J (.st 1 (.s 28) (.s 26))])
def p_arena_Arena_Get_6:PC :=
 (.reg [4,5] [I 29 (.build [(.int .i64 0),(.str []),.nils] []),J (.st 3 (.s 4) (.s 29)),I 5 (.mv (V 10))])
def p_arena_Arena_Get_7:PC :=
 (.reg [4,6] [I 30 (.fadr 2 (.s 6)),I 31 (.ld false 1 (.s 30)),I 32 (C F_slices_Clone_api_Kid_api_Kid [(.s 31)]),I 33 (.fadr 2 (.s 6)),J (.st 1 (.s 33) (.s 32))])
def p_arena_Arena_Get_8:PC :=
 (.reg [4,5] [I 34 (.ld true 3 (.s 6)),J (.st 3 (.s 4) (.s 34)),I 5 (.mv (V 0))])
def p_arena_Arena_Get:PF:=⟨false,
 (.seq p_arena_Arena_Get_0
 (.seq (.seq p_arena_Arena_Get_1
 (.ite (.s 9)
 (.seq p_arena_Arena_Get_2
 .ret)
 .skip))
 (.seq p_arena_Arena_Get_3
 (.seq (.seq p_arena_Arena_Get_4
 (.ite (.s 21)
 (.seq p_arena_Arena_Get_5
 (.seq p_arena_Arena_Get_6
 .ret))
 .skip))
 (.seq p_arena_Arena_Get_7
 (.seq p_arena_Arena_Get_8
 .ret)))))),
 [.c 4 true 3,.s 5]⟩
theorem c_arena_Arena_Get:compF Go.Proofs.Tryz.prog false h_arena_Arena_Get Go.Proofs.Tryz.f149=some p_arena_Arena_Get:=by kernel_rfl
def h_chunk_sizes:List Hint:=[H [1,2],H [1,2,10],H [4],H [1,2,5],H [2,5,17],H [2,5],H [5,6],H [5,6,7],H [6,7,23,24],H [6,7,23,24,25],H [6,7,8,23,24],H [6,7,23,24],H [6,7,23,24],H [4]]
def p_chunk_sizes_0:PC :=
 (.reg [1,2] [I 2 (.box (.s 0)),I 4 (.mv (.v .nils))])
def p_chunk_sizes_1:PC :=
 (.reg [1,2,10] [I 9 (.ld false 1 (.s 2)),I 10 (.bin .eql (.s 9) (V 0))])
def p_chunk_sizes_2:PC :=
 (.reg [4] [I 4 (.mv (.v .nils))])
def p_chunk_sizes_3:PC :=
 (.reg [1,2,5] [I 11 (.ld false 1 (.s 2)),I 12 (.mv (.s 1)),I 13 (.bin .quo (.s 11) (.s 12)),I 5 (.box (V 0)),J (.st 1 (.s 5) (.s 13))])
def p_chunk_sizes_4:PC :=
 (.reg [2,5,17] [I 14 (.ld false 1 (.s 2)),I 15 (.mv (.s 1)),I 16 (.bin .rem (.s 14) (.s 15)),I 17 (.bin .gtr (.s 16) (V 0))])
def p_chunk_sizes_5:PC :=
 (.reg [2,5] [I 18 (.ld false 1 (.s 5)),I 19 (.bin .add (.s 18) (V 1)),J (.st 1 (.s 5) (.s 19))])
def p_chunk_sizes_6:PC :=
 (.reg [5,6] [I 20 (.mkf (.func F_chunk_sizesC1) [] [(.s 2),(.s 5)]),I 6 (.mv (.s 20))])
def p_chunk_sizes_7:PC :=
 (.reg [5,6,7] [I 21 (.ld false 1 (.s 5)),I 22 (.mkslice 1 8 (.int .i64 0) (.s 21) (.s 21)),I 7 (.mv (.s 22))])
def p_chunk_sizes_8:PC :=
 (.reg [6,7,23,24] [I 23 (.ld false 1 (.s 5)),I 24 (.mv (V 0))])
def p_chunk_sizes_9:PC :=
 (.reg [6,7,23,24,25] [I 25 (.bin .lss (.s 24) (.s 23))])
def p_chunk_sizes_10:PC :=
 (.reg [6,7,8,23,24] [I 26 (.mv (.s 24)),I 8 (.mv (.s 26))])
def p_chunk_sizes_11:PC :=
 (.reg [6,7,23,24] [I 27 (.mv (.s 7)),I 28 (.mv (.s 8)),I 29 (.mv (.s 6)),I 30 (.mv (.s 8)),I 31 (.call .norm (.s 29) [(.s 30)]),I 32 (.ixS 1 (.s 27) (.s 28)),J (.st 1 (.s 32) (.s 31))])
def p_chunk_sizes_12:PC :=
 (.reg [6,7,23,24] [I 33 (.bin .add (.s 24) (V 1)),I 24 (.mv (.s 33))])
def p_chunk_sizes_13:PC :=
 (.seq p_chunk_sizes_9
 (.seq (.ite (.s 25)
 .skip
 (.exit 0))
 (.seq (.block 1
 (.seq p_chunk_sizes_10
 p_chunk_sizes_11))
 p_chunk_sizes_12)))
def p_chunk_sizes_14:PC :=
 (.reg [4] [I 34 (.mv (.s 7)),I 4 (.mv (.s 34))])
def p_chunk_sizes:PF:=⟨false,
 (.seq p_chunk_sizes_0
 (.seq (.seq p_chunk_sizes_1
 (.ite (.s 10)
 (.seq p_chunk_sizes_2
 .ret)
 .skip))
 (.seq p_chunk_sizes_3
 (.seq (.seq p_chunk_sizes_4
 (.ite (.s 17)
 p_chunk_sizes_5
 .skip))
 (.seq p_chunk_sizes_6
 (.seq p_chunk_sizes_7
 (.seq (.seq p_chunk_sizes_8
 (.block 0
 (.loop p_chunk_sizes_13)))
 (.seq p_chunk_sizes_14
 .ret)))))))),
 [.s 4]⟩
theorem c_chunk_sizes:compF Go.Proofs.Tryz.prog false h_chunk_sizes Go.Proofs.Tryz.f153=some p_chunk_sizes:=by kernel_rfl
def h_seek_Boundary:List Hint:=[H [0,2,4],H [0,2,4,8],H [0,2,4,8,15],H [6,7],H [0,2,4,25],H [6,7],H [0,2,4,30],H [6,7],H [9,10],H [6,7]]
def p_seek_Boundary_0:PC :=
 (.reg [0,2,4] [I 4 (.box (.s 1)),I 6 (.mv (.v (.bool false))),I 7 (.mv (V 0))])
def p_seek_Boundary_1:PC :=
 (.reg [0,2,4,8] [I 11 (.mv (.s 0)),I 12 (.ld true 5 (.s 4)),I 13 (C F_seek_check [(.s 11),(.s 12)]),I 8 (.mv (.s 13))])
def p_seek_Boundary_2:PC :=
 (.reg [0,2,4,8,15] [I 14 (.mv (.s 8)),I 15 (.bin .neq (.s 14) (V 0))])
def p_seek_Boundary_3:PC :=
 (.reg [6,7] [I 16 (.mv (.s 8)),I 6 (.mv (.v (.bool false))),I 7 (.mv (.s 16))])
def p_seek_Boundary_4:PC :=
 (.reg [0,2,4,25] [I 17 (.mv (.s 2)),I 18 (.bin .lss (.s 17) (V 0)),I 19 (.mv (.s 18)),G 20 19 false (.mv (.s 2)),G 21 19 false (.fadr 2 (.s 4)),G 22 19 false (.fadr 0 (.s 21)),G 23 19 false (.ld false 1 (.s 22)),G 24 19 false (.bin .gtr (.s 20) (.s 23)),I 25 (.pick (.s 19) (.v (.bool true)) (.s 24))])
def p_seek_Boundary_5:PC :=
 (.reg [6,7] [I 6 (.mv (.v (.bool false))),I 7 (.mv (V 3))])
def p_seek_Boundary_6:PC :=
 (.reg [0,2,4,30] [I 26 (.mv (.s 2)),I 27 (.fadr 2 (.s 4)),I 28 (.fadr 0 (.s 27)),I 29 (.ld false 1 (.s 28)),I 30 (.bin .eql (.s 26) (.s 29))])
def p_seek_Boundary_7:PC :=
 (.reg [6,7] [I 6 (.mv (.v (.bool true))),I 7 (.mv (V 0))])
def p_seek_Boundary_8:PC :=
 (.reg [9,10] [I 32 (.mv (.s 0)),I 33 (.ld true 5 (.s 4)),I 34 (.mv (.s 2)),I 35 (C F_seek_Byte [(.s 32),(.s 33),(.s 34)]),I 31 (.mv (.s 35)),I 36 (.ext (.s 31) 0),I 37 (.ext (.s 31) 1),I 9 (.mv (.s 36)),I 10 (.mv (.s 37))])
def p_seek_Boundary_9:PC :=
 (.reg [6,7] [I 38 (.mv (.s 10)),I 39 (.bin .eql (.s 38) (V 0)),I 40 (.mv (.s 39)),G 41 40 true (.mv (.s 9)),G 42 40 true (.bin .lss (.s 41) (.v (.int .u8 128))),G 43 40 true (.mv (.s 42)),G 44 43 false (.mv (.s 9)),G 45 43 false (.bin .gtr (.s 44) (.v (.int .u8 191))),G 46 40 true (.pick (.s 43) (.v (.bool true)) (.s 45)),I 47 (.pick (.s 40) (.s 46) (.v (.bool false))),I 48 (.mv (.s 10)),I 6 (.mv (.s 47)),I 7 (.mv (.s 48))])
def p_seek_Boundary:PF:=⟨false,
 (.seq p_seek_Boundary_0
 (.seq (.seq p_seek_Boundary_1
 (.seq p_seek_Boundary_2
 (.ite (.s 15)
 (.seq p_seek_Boundary_3
 .ret)
 .skip)))
 (.seq (.seq p_seek_Boundary_4
 (.ite (.s 25)
 (.seq p_seek_Boundary_5
 .ret)
 .skip))
 (.seq (.seq p_seek_Boundary_6
 (.ite (.s 30)
 (.seq p_seek_Boundary_7
 .ret)
 .skip))
 (.seq p_seek_Boundary_8
 (.seq p_seek_Boundary_9
 .ret)))))),
 [.s 6,.s 7]⟩
theorem c_seek_Boundary:compF Go.Proofs.Tryz.prog false h_seek_Boundary Go.Proofs.Tryz.f159=some p_seek_Boundary:=by kernel_rfl
def h_cursor_path_visit:List Hint:=[H [0,1,2,3],H [0,2,3,9,10],H [0,2,3,9,10,21],H [8],⟨[0],[],[],[],[(9,.imm)],[]⟩,H [],H [8]]
def p_cursor_path_visit_0:PC :=
 (.reg [0,1,2,3] [I 8 (.mv (V 0))])
def p_cursor_path_visit_1:PC :=
 (.reg [0,2,3,9,10] [I 12 (.mv (.s 0)),I 13 (.nilck (.s 12)),I 14 (.fadr 0 (.s 13)),I 15 (.ld false 1 (.s 14)),I 16 (.mv (.s 1)),I 17 (C F_arena_Arena_Get [(.s 15),(.s 16)]),I 11 (.mv (.s 17)),I 18 (.ext (.s 11) 0),I 19 (.ext (.s 11) 1),I 9 (.box (.v ZN)),J (.st 3 (.s 9) (.s 18)),I 10 (.mv (.s 19))])
def p_cursor_path_visit_2:PC :=
 (.reg [0,2,3,9,10,21] [I 20 (.mv (.s 10)),I 21 (.bin .neq (.s 20) (V 0))])
def p_cursor_path_visit_3:PC :=
 (.reg [8] [I 22 (.mv (.s 10)),I 8 (.mv (.s 22))])
def p_cursor_path_visit_4:PC :=
 (.reg [0] [I 23 (.mv (.s 0)),I 24 (.mv (.s 0)),I 25 (.nilck (.s 24)),I 26 (.fadr 6 (.s 25)),I 27 (.ld false 1 (.s 26)),I 28 (.ld true 3 (.s 9)),I 29 (.mv (.s 2)),I 30 (.mv (.s 3)),I 31 (.build [(.int .i64 0),(.str []),.nils,(.int .i64 0),(.int .i64 0)] [(0,3,(.s 28)),(3,1,(.s 29)),(4,1,(.s 30))]),I 32 (.w .imm (.bslice false 5 [(.agg [(.int .i64 0),(.str []),.nils,(.int .i64 0),(.int .i64 0)])] [(0,(.s 31))])),I 33 (.app 5 64 (.s 27) (.s 32)),I 34 (.nilck (.s 23)),I 35 (.fadr 6 (.s 34)),J (.st 1 (.s 35) (.s 33))])
def p_cursor_path_visit_5:PC :=
 (.reg [] [I 36 (.mv (.s 0)),I 37 (.nilck (.s 36)),I 38 (.fadr 7 (.s 37)),I 39 (.ld false 1 (.s 38)),I 40 (.bin .add (.s 39) (V 1)),I 41 (.nilck (.s 36)),I 42 (.fadr 7 (.s 41)),J (.st 1 (.s 42) (.s 40))])
def p_cursor_path_visit_6:PC :=
 (.reg [8] [I 8 (.mv (V 0))])
def p_cursor_path_visit:PF:=⟨true,
 (.seq p_cursor_path_visit_0
 (.seq p_cursor_path_visit_1
 (.seq (.seq p_cursor_path_visit_2
 (.ite (.s 21)
 (.seq p_cursor_path_visit_3
 .ret)
 .skip))
 (.seq p_cursor_path_visit_4
 (.seq p_cursor_path_visit_5
 (.seq p_cursor_path_visit_6
 .ret)))))),
 [.s 8]⟩
theorem c_cursor_path_visit:compF Go.Proofs.Tryz.prog true h_cursor_path_visit Go.Proofs.Tryz.f160=some p_cursor_path_visit:=by kernel_rfl
def h_cursor_Cursor_forwardC1:List Hint:=[H []]
def p_cursor_Cursor_forwardC1_0:PC :=
 (.reg [] [I 3 (.ld false 1 (.s 1)),I 4 (.mv (.s 0)),I 5 (.bslice false 1 [(.int .u8 0)] [(0,(.s 4))]),I 6 (.app 1 1 (.s 3) (.s 5)),J (.st 1 (.s 1) (.s 6))])
def p_cursor_Cursor_forwardC1:PF:=⟨false,
 p_cursor_Cursor_forwardC1_0,
 []⟩
theorem c_cursor_Cursor_forwardC1:compF Go.Proofs.Tryz.prog false h_cursor_Cursor_forwardC1 Go.Proofs.Tryz.f161=some p_cursor_Cursor_forwardC1:=by kernel_rfl
def h_cursor_path_stands:List Hint:=[H [0,1],H [4]]
def p_cursor_path_stands_0:PC :=
 (.reg [0,1] [I 4 (.mv (V 0))])
def p_cursor_path_stands_1:PC :=
 (.reg [4] [I 5 (.mv (.s 1)),I 6 (.mv (.s 0)),I 7 (.nilck (.s 6)),I 8 (.fadr 1 (.s 7)),I 9 (.fadr 2 (.s 8)),I 10 (.fadr 0 (.s 9)),I 11 (.ld false 1 (.s 10)),I 12 (.bin .sub (.s 11) (V 1)),I 13 (.mnx false (.s 5) (.s 12)),I 4 (.mv (.s 13))])
def p_cursor_path_stands:PF:=⟨false,
 (.seq p_cursor_path_stands_0
 (.seq p_cursor_path_stands_1
 .ret)),
 [.s 4]⟩
theorem c_cursor_path_stands:compF Go.Proofs.Tryz.prog false h_cursor_path_stands Go.Proofs.Tryz.f162=some p_cursor_path_stands:=by kernel_rfl
def h_seek_before:List Hint:=[H [0,2,4,6,8],H [0,2,4,6,8,12],H [0,2,4,6,8,12,21],H [10,11],H [0,2,4,6,8,31],H [10,11],H [0,2,4,6,8,36],H [10,11],H [0,2,4,6,8,13],H [4,13,14,15],H [4,13,14,15,50],H [10,11],H [13,15,16],H [13,15,16,62],H [10,11],H [10,11]]
def p_seek_before_0:PC :=
 (.reg [0,2,4,6,8] [I 6 (.box (.s 1)),I 8 (.box (.s 3)),I 10 (.mv (V 0)),I 11 (.mv (V 0))])
def p_seek_before_1:PC :=
 (.reg [0,2,4,6,8,12] [I 17 (.mv (.s 0)),I 18 (.ld true 5 (.s 6)),I 19 (C F_seek_check [(.s 17),(.s 18)]),I 12 (.mv (.s 19))])
def p_seek_before_2:PC :=
 (.reg [0,2,4,6,8,12,21] [I 20 (.mv (.s 12)),I 21 (.bin .neq (.s 20) (V 0))])
def p_seek_before_3:PC :=
 (.reg [10,11] [I 22 (.mv (.s 12)),I 10 (.mv (V 0)),I 11 (.mv (.s 22))])
def p_seek_before_4:PC :=
 (.reg [0,2,4,6,8,31] [I 23 (.mv (.s 2)),I 24 (.bin .lss (.s 23) (V 0)),I 25 (.mv (.s 24)),G 26 25 false (.mv (.s 2)),G 27 25 false (.fadr 2 (.s 6)),G 28 25 false (.fadr 0 (.s 27)),G 29 25 false (.ld false 1 (.s 28)),G 30 25 false (.bin .gtr (.s 26) (.s 29)),I 31 (.pick (.s 25) (.v (.bool true)) (.s 30))])
def p_seek_before_5:PC :=
 (.reg [10,11] [I 10 (.mv (V 0)),I 11 (.mv (V 3))])
def p_seek_before_6:PC :=
 (.reg [0,2,4,6,8,36] [I 32 (.mv (.s 2)),I 33 (.fadr 2 (.s 6)),I 34 (.fadr 0 (.s 33)),I 35 (.ld false 1 (.s 34)),I 36 (.bin .eql (.s 32) (.s 35))])
def p_seek_before_7:PC :=
 (.reg [10,11] [I 37 (.ld false 1 (.s 8)),I 38 (.fadr 2 (.s 6)),I 39 (.ld true 3 (.s 38)),I 40 (.call .norm (.s 37) [(.s 39)]),I 10 (.mv (.s 40)),I 11 (.mv (V 0))])
def p_seek_before_8:PC :=
 (.reg [0,2,4,6,8,13] [I 13 (.box (V 0)),J (.st 1 (.s 13) (V 0))])
def p_seek_before_9:PC :=
 (.reg [4,13,14,15] [I 42 (.mv (.s 0)),I 43 (.ld true 5 (.s 6)),I 44 (.mv (.s 2)),I 45 (.mkf (.func F_seek_beforeC1) [] [(.s 13),(.s 8)]),I 46 (C F_seek_walk [(.s 42),(.s 43),(.s 44),(.v (.func (.func F_node_Child) [] [])),(.s 45)]),I 41 (.mv (.s 46)),I 47 (.ext (.s 41) 0),I 48 (.ext (.s 41) 1),I 14 (.box (.v (.agg [(.str []),(.int .i64 0),.nils]))),J (.st 3 (.s 14) (.s 47)),I 15 (.mv (.s 48))])
def p_seek_before_10:PC :=
 (.reg [4,13,14,15,50] [I 49 (.mv (.s 15)),I 50 (.bin .neq (.s 49) (V 0))])
def p_seek_before_11:PC :=
 (.reg [10,11] [I 51 (.mv (.s 15)),I 10 (.mv (V 0)),I 11 (.mv (.s 51))])
def p_seek_before_12:PC :=
 (.reg [13,15,16] [I 53 (.mv (.s 4)),I 54 (.fadr 0 (.s 14)),I 55 (.ld false 1 (.s 54)),I 56 (.fadr 1 (.s 14)),I 57 (.ld false 1 (.s 56)),I 58 (.call .norm (.s 53) [(.s 55),(.s 57)]),I 52 (.mv (.s 58)),I 59 (.ext (.s 52) 0),I 60 (.ext (.s 52) 1),I 16 (.mv (.s 59)),I 15 (.mv (.s 60))])
def p_seek_before_13:PC :=
 (.reg [13,15,16,62] [I 61 (.mv (.s 15)),I 62 (.bin .neq (.s 61) (V 0))])
def p_seek_before_14:PC :=
 (.reg [10,11] [I 63 (.mv (.s 15)),I 10 (.mv (V 0)),I 11 (.mv (.s 63))])
def p_seek_before_15:PC :=
 (.reg [10,11] [I 64 (.ld false 1 (.s 13)),I 65 (.mv (.s 16)),I 66 (.bin .add (.s 64) (.s 65)),I 10 (.mv (.s 66)),I 11 (.mv (V 0))])
def p_seek_before:PF:=⟨false,
 (.seq p_seek_before_0
 (.seq (.seq p_seek_before_1
 (.seq p_seek_before_2
 (.ite (.s 21)
 (.seq p_seek_before_3
 .ret)
 .skip)))
 (.seq (.seq p_seek_before_4
 (.ite (.s 31)
 (.seq p_seek_before_5
 .ret)
 .skip))
 (.seq (.seq p_seek_before_6
 (.ite (.s 36)
 (.seq p_seek_before_7
 .ret)
 .skip))
 (.seq p_seek_before_8
 (.seq p_seek_before_9
 (.seq (.seq p_seek_before_10
 (.ite (.s 50)
 (.seq p_seek_before_11
 .ret)
 .skip))
 (.seq p_seek_before_12
 (.seq (.seq p_seek_before_13
 (.ite (.s 62)
 (.seq p_seek_before_14
 .ret)
 .skip))
 (.seq p_seek_before_15
 .ret)))))))))),
 [.s 10,.s 11]⟩
theorem c_seek_before:compF Go.Proofs.Tryz.prog false h_seek_before Go.Proofs.Tryz.f163=some p_seek_before:=by kernel_rfl
def h_seek_LineOfC1:List Hint:=[H [1],H [2]]
def p_seek_LineOfC1_0:PC :=
 (.reg [1] [I 1 (.box (.s 0)),I 2 (.mv (V 0))])
def p_seek_LineOfC1_1:PC :=
 (.reg [2] [I 3 (.fadr 2 (.s 1)),I 4 (.ld false 1 (.s 3)),I 2 (.mv (.s 4))])
def p_seek_LineOfC1:PF:=⟨false,
 (.seq p_seek_LineOfC1_0
 (.seq p_seek_LineOfC1_1
 .ret)),
 [.s 2]⟩
theorem c_seek_LineOfC1:compF Go.Proofs.Tryz.prog false h_seek_LineOfC1 Go.Proofs.Tryz.f164=some p_seek_LineOfC1:=by kernel_rfl
def h_measure_LineOf:List Hint:=[H [0,1],H [4,5]]
def p_measure_LineOf_0:PC :=
 (.reg [0,1] [I 4 (.mv (V 0)),I 5 (.mv (V 0))])
def p_measure_LineOf_1:PC :=
 (.reg [4,5] [I 6 (.mv (.s 0)),I 7 (.mv (.s 1)),I 8 (C F_measure_before [(.s 6),(.s 7),(.v (.func (.func F_measure_feeds) [] []))]),I 9 (.ext (.s 8) 0),I 10 (.ext (.s 8) 1),I 4 (.mv (.s 9)),I 5 (.mv (.s 10))])
def p_measure_LineOf:PF:=⟨false,
 (.seq p_measure_LineOf_0
 (.seq p_measure_LineOf_1
 .ret)),
 [.s 4,.s 5]⟩
theorem c_measure_LineOf:compF Go.Proofs.Tryz.prog false h_measure_LineOf Go.Proofs.Tryz.f165=some p_measure_LineOf:=by kernel_rfl
def h_seek_check:List Hint:=[H [0,3],H [0,3,9],H [4],H [0,3,12],H [4],H [0,3,15],H [4],H [3,5,6],H [3,5,6,24],H [4],H [3,5,6,7],H [45],H [4],H [4]]
def p_seek_check_0:PC :=
 (.reg [0,3] [I 3 (.box (.s 1)),I 4 (.mv (V 0))])
def p_seek_check_1:PC :=
 (.reg [0,3,9] [I 8 (.mv (.s 0)),I 9 (.eqs false 3 [] (.s 8) (.v .nilptr))])
def p_seek_check_2:PC :=
 (.reg [4] [I 4 (.mv (V 1))])
def p_seek_check_3:PC :=
 (.reg [0,3,12] [I 10 (.ld true 5 (.s 3)),I 11 (.build [(.int .u64 0),(.int .i64 0),(.int .i64 0),(.int .i64 0),(.int .i64 0)] []),I 12 (.eqs false 0 [(0,0),(1,0),(2,0),(3,0),(4,0)] (.s 10) (.s 11))])
def p_seek_check_4:PC :=
 (.reg [4] [I 4 (.mv (V 0))])
def p_seek_check_5:PC :=
 (.reg [0,3,15] [I 13 (.fadr 0 (.s 3)),I 14 (.ld false 1 (.s 13)),I 15 (.bin .eql (.s 14) (.v (.int .u64 0)))])
def p_seek_check_6:PC :=
 (.reg [4] [I 4 (.mv (V 2))])
def p_seek_check_7:PC :=
 (.reg [3,5,6] [I 17 (.mv (.s 0)),I 18 (.fadr 0 (.s 3)),I 19 (.ld false 1 (.s 18)),I 20 (C F_arena_Arena_Get [(.s 17),(.s 19)]),I 16 (.mv (.s 20)),I 21 (.ext (.s 16) 0),I 22 (.ext (.s 16) 1),I 5 (.box (.v ZN)),J (.st 3 (.s 5) (.s 21)),I 6 (.mv (.s 22))])
def p_seek_check_8:PC :=
 (.reg [3,5,6,24] [I 23 (.mv (.s 6)),I 24 (.bin .neq (.s 23) (V 0))])
def p_seek_check_9:PC :=
 (.reg [4] [I 25 (.mv (.s 6)),I 4 (.mv (.s 25))])
def p_seek_check_10:PC :=
 (.reg [3,5,6,7] [I 27 (.ld true 3 (.s 5)),I 28 (C F_node_Measure [(.s 27)]),I 26 (.mv (.s 28)),I 29 (.ext (.s 26) 0),I 30 (.ext (.s 26) 1),I 7 (.box (.v ZM)),J (.st 3 (.s 7) (.s 29)),I 6 (.mv (.s 30))])
def p_seek_check_11:PC :=
 (.reg [45] [I 31 (.mv (.s 6)),I 32 (.bin .neq (.s 31) (V 0)),I 33 (.mv (.s 32)),G 34 33 false (.fadr 0 (.s 5)),G 35 33 false (.ld false 1 (.s 34)),G 36 33 false (.fadr 1 (.s 3)),G 37 33 false (.ld false 1 (.s 36)),G 38 33 false (.bin .neq (.s 35) (.s 37)),I 39 (.pick (.s 33) (.v (.bool true)) (.s 38)),I 40 (.mv (.s 39)),G 41 40 false (.ld true 3 (.s 7)),G 42 40 false (.fadr 2 (.s 3)),G 43 40 false (.ld true 3 (.s 42)),G 44 40 false (.eqs true 0 [(0,0),(1,0),(2,0)] (.s 41) (.s 43)),I 45 (.pick (.s 40) (.v (.bool true)) (.s 44))])
def p_seek_check_12:PC :=
 (.reg [4] [I 4 (.mv (V 23))])
def p_seek_check_13:PC :=
 (.reg [4] [I 4 (.mv (V 0))])
def p_seek_check:PF:=⟨false,
 (.seq p_seek_check_0
 (.seq (.seq p_seek_check_1
 (.ite (.s 9)
 (.seq p_seek_check_2
 .ret)
 .skip))
 (.seq (.seq p_seek_check_3
 (.ite (.s 12)
 (.seq p_seek_check_4
 .ret)
 .skip))
 (.seq (.seq p_seek_check_5
 (.ite (.s 15)
 (.seq p_seek_check_6
 .ret)
 .skip))
 (.seq p_seek_check_7
 (.seq (.seq p_seek_check_8
 (.ite (.s 24)
 (.seq p_seek_check_9
 .ret)
 .skip))
 (.seq p_seek_check_10
 (.seq (.seq p_seek_check_11
 (.ite (.s 45)
 (.seq p_seek_check_12
 .ret)
 .skip))
 (.seq p_seek_check_13
 .ret))))))))),
 [.s 4]⟩
theorem c_seek_check:compF Go.Proofs.Tryz.prog false h_seek_check Go.Proofs.Tryz.f166=some p_seek_check:=by kernel_rfl
def h_seek_offset:List Hint:=[H [0,2,3,4,6],H [0,2,3,4,6,12],H [4,12,13,14],H [4,12,13,14,26],H [10,11],H [12,14,15],H [12,14,15,38],H [10,11],H [10,11]]
def p_seek_offset_0:PC :=
 (.reg [0,2,3,4,6] [I 6 (.box (.s 1)),I 10 (.mv (V 0)),I 11 (.mv (V 0))])
def p_seek_offset_1:PC :=
 (.reg [0,2,3,4,6,12] [I 12 (.box (V 0)),J (.st 1 (.s 12) (V 0))])
def p_seek_offset_2:PC :=
 (.reg [4,12,13,14] [I 17 (.mv (.s 0)),I 18 (.ld true 5 (.s 6)),I 19 (.mv (.s 2)),I 20 (.mv (.s 3)),I 21 (.mkf (.func F_seek_offsetC1) [] [(.s 12)]),I 22 (C F_seek_walk [(.s 17),(.s 18),(.s 19),(.s 20),(.s 21)]),I 16 (.mv (.s 22)),I 23 (.ext (.s 16) 0),I 24 (.ext (.s 16) 1),I 13 (.box (.v (.agg [(.str []),(.int .i64 0),.nils]))),J (.st 3 (.s 13) (.s 23)),I 14 (.mv (.s 24))])
def p_seek_offset_3:PC :=
 (.reg [4,12,13,14,26] [I 25 (.mv (.s 14)),I 26 (.bin .neq (.s 25) (V 0))])
def p_seek_offset_4:PC :=
 (.reg [10,11] [I 27 (.mv (.s 14)),I 10 (.mv (V 0)),I 11 (.mv (.s 27))])
def p_seek_offset_5:PC :=
 (.reg [12,14,15] [I 29 (.mv (.s 4)),I 30 (.fadr 0 (.s 13)),I 31 (.ld false 1 (.s 30)),I 32 (.fadr 1 (.s 13)),I 33 (.ld false 1 (.s 32)),I 34 (.call .norm (.s 29) [(.s 31),(.s 33)]),I 28 (.mv (.s 34)),I 35 (.ext (.s 28) 0),I 36 (.ext (.s 28) 1),I 15 (.mv (.s 35)),I 14 (.mv (.s 36))])
def p_seek_offset_6:PC :=
 (.reg [12,14,15,38] [I 37 (.mv (.s 14)),I 38 (.bin .neq (.s 37) (V 0))])
def p_seek_offset_7:PC :=
 (.reg [10,11] [I 39 (.mv (.s 14)),I 10 (.mv (V 0)),I 11 (.mv (.s 39))])
def p_seek_offset_8:PC :=
 (.reg [10,11] [I 40 (.ld false 1 (.s 12)),I 41 (.mv (.s 15)),I 42 (.bin .add (.s 40) (.s 41)),I 10 (.mv (.s 42)),I 11 (.mv (V 0))])
def p_seek_offset:PF:=⟨false,
 (.seq p_seek_offset_0
 (.seq p_seek_offset_1
 (.seq p_seek_offset_2
 (.seq (.seq p_seek_offset_3
 (.ite (.s 26)
 (.seq p_seek_offset_4
 .ret)
 .skip))
 (.seq p_seek_offset_5
 (.seq (.seq p_seek_offset_6
 (.ite (.s 38)
 (.seq p_seek_offset_7
 .ret)
 .skip))
 (.seq p_seek_offset_8
 .ret))))))),
 [.s 10,.s 11]⟩
theorem c_seek_offset:compF Go.Proofs.Tryz.prog false h_seek_offset Go.Proofs.Tryz.f167=some p_seek_offset:=by kernel_rfl
def h_node_Line:List Hint:=[H [1,2],H [1,2,11],H [9],H [9,19],H [4,5,6],H [4,5,6],H [4,5,6],H [4,5,6,30],H [4,5,6],H [4,5,6]]
def p_node_Line_0:PC :=
 (.reg [1,2] [I 2 (.box (.s 0)),I 4 (.mv (V 0)),I 5 (.mv (V 0)),I 6 (.mv (V 0))])
def p_node_Line_1:PC :=
 (.reg [1,2,11] [I 10 (.mv (.s 1)),I 11 (.bin .lss (.s 10) (V 1))])
def p_node_Line_2:PC :=
 (.reg [9] [I 13 (.ld true 3 (.s 2)),I 14 (C F_node_choose [(.s 13),(V 0),(.v (.func (.func F_node_LineC1) [] []))]),I 12 (.mv (.s 14)),I 15 (.ext (.s 12) 0),I 16 (.ext (.s 12) 1),I 17 (.ext (.s 12) 2),I 7 (.mv (.s 15)),I 8 (.mv (.s 16)),I 9 (.mv (.s 17))])
def p_node_Line_3:PC :=
 (.reg [9,19] [I 18 (.mv (.s 9)),I 19 (.bin .neq (.s 18) (V 0))])
def p_node_Line_4:PC :=
 (.reg [4,5,6] [I 20 (.mv (.s 9)),I 4 (.mv (V 0)),I 5 (.mv (V 0)),I 6 (.mv (.s 20))])
def p_node_Line_5:PC :=
 (.reg [4,5,6] [I 4 (.mv (V 0)),I 5 (.mv (V 0)),I 6 (.mv (V 3))])
def p_node_Line_6:PC :=
 (.reg [4,5,6] [I 22 (.ld true 3 (.s 2)),I 23 (.mv (.s 1)),I 24 (.bin .sub (.s 23) (V 1)),I 25 (C F_node_choose [(.s 22),(.s 24),(.v (.func (.func F_node_LineC2) [] []))]),I 21 (.mv (.s 25)),I 26 (.ext (.s 21) 0),I 27 (.ext (.s 21) 1),I 28 (.ext (.s 21) 2),I 4 (.mv (.s 26)),I 5 (.mv (.s 27)),I 6 (.mv (.s 28))])
def p_node_Line_7:PC :=
 (.reg [4,5,6,30] [I 29 (.mv (.s 6)),I 30 (.bin .neq (.s 29) (V 0))])
def p_node_Line_8:PC :=
 (.reg [4,5,6] [I 31 (.mv (.s 6)),I 4 (.mv (V 0)),I 5 (.mv (V 0)),I 6 (.mv (.s 31))])
def p_node_Line_9:PC :=
 (.reg [4,5,6] [I 32 (.mv (.s 4)),I 33 (.mv (.s 5)),I 34 (.bin .add (.s 33) (V 1)),I 4 (.mv (.s 32)),I 5 (.mv (.s 34)),I 6 (.mv (V 0))])
def p_node_Line:PF:=⟨false,
 (.seq p_node_Line_0
 (.seq (.seq p_node_Line_1
 (.ite (.s 11)
 (.seq (.seq p_node_Line_2
 (.seq p_node_Line_3
 (.ite (.s 19)
 (.seq p_node_Line_4
 .ret)
 .skip)))
 (.seq p_node_Line_5
 .ret))
 .skip))
 (.seq p_node_Line_6
 (.seq (.seq p_node_Line_7
 (.ite (.s 30)
 (.seq p_node_Line_8
 .ret)
 .skip))
 (.seq p_node_Line_9
 .ret))))),
 [.s 4,.s 5,.s 6]⟩
theorem c_node_Line:compF Go.Proofs.Tryz.prog false h_node_Line Go.Proofs.Tryz.f168=some p_node_Line:=by kernel_rfl
def h_measure_Line:List Hint:=[H [0,1],H [0,1,9],H [4,5],H [0,1,11],H [6,7],H [6,19],H [4,5],H [4,5]]
def p_measure_Line_0:PC :=
 (.reg [0,1] [I 4 (.mv (V 0)),I 5 (.mv (V 0))])
def p_measure_Line_1:PC :=
 (.reg [0,1,9] [I 8 (.mv (.s 1)),I 9 (.bin .eql (.s 8) (V 0))])
def p_measure_Line_2:PC :=
 (.reg [4,5] [I 4 (.mv (V 0)),I 5 (.mv (V 0))])
def p_measure_Line_3:PC :=
 (.reg [0,1,11] [I 10 (.mv (.s 1)),I 11 (.bin .gtr (.s 10) (V 0))])
def p_measure_Line_4:PC :=
 (.reg [6,7] [I 13 (.mv (.s 0)),I 14 (.mv (.s 1)),I 15 (.bin .sub (.s 14) (V 1)),I 16 (C F_measure_find [(.s 13),(.v (.func (.func F_measure_feeds) [] [])),(.s 15)]),I 12 (.mv (.s 16)),I 17 (.ext (.s 12) 0),I 18 (.ext (.s 12) 1),I 6 (.mv (.s 17)),I 7 (.mv (.s 18))])
def p_measure_Line_5:PC :=
 (.reg [6,19] [I 19 (.mv (.s 7))])
def p_measure_Line_6:PC :=
 (.reg [4,5] [I 20 (.mv (.s 6)),I 21 (.bin .add (.s 20) (V 1)),I 4 (.mv (.s 21)),I 5 (.mv (V 0))])
def p_measure_Line_7:PC :=
 (.reg [4,5] [I 4 (.mv (V 0)),I 5 (.mv (V 3))])
def p_measure_Line:PF:=⟨false,
 (.seq p_measure_Line_0
 (.seq (.seq p_measure_Line_1
 (.ite (.s 9)
 (.seq p_measure_Line_2
 .ret)
 .skip))
 (.seq (.seq p_measure_Line_3
 (.ite (.s 11)
 (.seq p_measure_Line_4
 (.seq p_measure_Line_5
 (.ite (.s 19)
 (.seq p_measure_Line_6
 .ret)
 .skip)))
 .skip))
 (.seq p_measure_Line_7
 .ret)))),
 [.s 4,.s 5]⟩
theorem c_measure_Line:compF Go.Proofs.Tryz.prog false h_measure_Line Go.Proofs.Tryz.f169=some p_measure_Line:=by kernel_rfl
def h_rope_Check:List Hint:=[H [0,3,23],H [0,3,6,23],H [0,3,6,17,23],H [4],H [0,3,7,23],H [7,21,23],H [7,9],H [7,9,26],H [7],H [4]]
def p_rope_Check_0:PC :=
 (.reg [0,3,23] [I 3 (.box (.s 1)),I 4 (.mv (V 0))])
def p_rope_Check_1:PC :=
 (.reg [0,3,6,23] [I 11 (.mv (.s 0)),I 12 (.ld true 5 (.s 3)),I 13 (C F_plan_Keep [(.s 11),(.s 12)]),I 10 (.mv (.s 13)),I 14 (.ext (.s 10) 0),I 15 (.ext (.s 10) 1),I 5 (.box (.v ZT)),J (.st 7 (.s 5) (.s 14)),I 6 (.mv (.s 15))])
def p_rope_Check_2:PC :=
 (.reg [0,3,6,17,23] [I 16 (.mv (.s 6)),I 17 (.bin .neq (.s 16) (V 0))])
def p_rope_Check_3:PC :=
 (.reg [4] [I 18 (.mv (.s 6)),I 4 (.mv (.s 18))])
def p_rope_Check_4:PC :=
 (.reg [0,3,7,23] [I 7 (.box (V 0)),J (.st 1 (.s 7) (V 0))])
def p_rope_Check_5:PC :=
 (.reg [7,21,23] [I 19 (.mv (.s 0)),I 20 (.ld true 5 (.s 3)),I 21 (C F_rope_nodes [(.s 19),(.s 20)])])
def p_rope_Check_6:PC :=
 (.reg [7,9] [I 9 (.box (.v (.agg [(.int .i64 0),(.str []),.nils,(.int .i64 0)]))),J (.st 4 (.s 9) (.s 23))])
def p_rope_Check_7:PC :=
 (.reg [7,9,26] [I 24 (.fadr 3 (.s 9)),I 25 (.ld false 1 (.s 24)),I 26 (.bin .neq (.s 25) (V 0))])
def p_rope_Check_8:PC :=
 (.reg [7] [I 27 (.fadr 3 (.s 9)),I 28 (.ld false 1 (.s 27)),J (.st 1 (.s 7) (.s 28))])
def p_rope_Check_9:PC :=
 (.reg [4] [I 29 (.ld false 1 (.s 7)),I 4 (.mv (.s 29))])
def p_rope_Check:RF:=⟨30,
 (.seq p_rope_Check_0
 (.seq (.seq p_rope_Check_1
 (.seq p_rope_Check_2
 (.ite (.s 17)
 (.seq p_rope_Check_3
 .ret)
 .skip)))
 (.seq p_rope_Check_4
 (.seq .skip
 (.seq p_rope_Check_5
 .skip))))),
 ⟨(.s 21),[22,23],
 p_rope_Check_6,
 (.block 1
 (.seq p_rope_Check_7
 (.ite (.s 26)
 (.seq p_rope_Check_8
 (.exit 0))
 .skip)))⟩,
 (.seq .skip
 (.seq p_rope_Check_9
 .ret)),
 [.s 4]⟩
theorem c_rope_Check:compRF Go.Proofs.Tryz.prog h_rope_Check Go.Proofs.Tryz.f170=some p_rope_Check:=by kernel_rfl
def h_rope_nodes:List Hint:=[H [2,3],H [4]]
def p_rope_nodes_0:PC :=
 (.reg [2,3] [I 2 (.box (.s 0)),I 3 (.box (.s 1)),I 4 (.mv (.v .nilfunc))])
def p_rope_nodes_1:PC :=
 (.reg [4] [I 5 (.mkf (.func F_rope_nodesC1) [] [(.s 2),(.s 3)]),I 4 (.mv (.s 5))])
def p_rope_nodes:PF:=⟨true,
 (.seq p_rope_nodes_0
 (.seq p_rope_nodes_1
 .ret)),
 [.s 4]⟩
theorem c_rope_nodes:compF Go.Proofs.Tryz.prog true h_rope_nodes Go.Proofs.Tryz.f171=some p_rope_nodes:=by kernel_rfl
def h_freelist_List_slots:List Hint:=[H [0,1],⟨[0,1,5],[0],[],[],[],[]⟩,H [0,1,5,9],H [4],H [1,5,14,15,16],H [1,5,14,15,16,17],H [1,5,6,7,14,15,16],H [1,5,6,14,15,16,23],H [1,5,14,15,16],H [1,5,14,15,16],H [4]]
def p_freelist_List_slots_0:PC :=
 (.reg [0,1] [I 4 (.mv (.v .nils))])
def p_freelist_List_slots_1:PC :=
 (.reg [0,1,5] [I 5 (.onil 1)])
def p_freelist_List_slots_2:PC :=
 (.reg [0,1,5,9] [I 8 (.mv (.s 0)),I 9 (.eqs false 3 [] (.s 8) (.v .nilptr))])
def p_freelist_List_slots_3:PC :=
 (.reg [4] [I 10 (.mv (.s 5)),I 4 (.mv (.s 10))])
def p_freelist_List_slots_4:PC :=
 (.reg [1,5,14,15,16] [I 11 (.mv (.s 0)),I 12 (.nilck (.s 11)),I 13 (.fadr 1 (.s 12)),I 14 (.ld false 1 (.s 13)),I 15 (.len 1 (.s 14)),I 16 (.mv (V 0))])
def p_freelist_List_slots_5:PC :=
 (.reg [1,5,14,15,16,17] [I 17 (.bin .lss (.s 16) (.s 15))])
def p_freelist_List_slots_6:PC :=
 (.reg [1,5,6,7,14,15,16] [I 18 (.mv (.s 16)),I 19 (.ixS 1 (.s 14) (.s 16)),I 20 (.ld false 1 (.s 19)),I 6 (.mv (.s 18)),I 7 (.mv (.s 20))])
def p_freelist_List_slots_7:PC :=
 (.reg [1,5,6,14,15,16,23] [I 21 (.mv (.s 7)),I 22 (.mv (.s 1)),I 23 (.bin .eql (.s 21) (.s 22))])
def p_freelist_List_slots_8:PC :=
 (.reg [1,5,14,15,16] [I 24 (.mv (.s 5)),I 25 (.mv (.s 6)),I 26 (.bslice false 1 [(.int .i64 0)] [(0,(.s 25))]),I 27 (.app 1 8 (.s 24) (.s 26)),I 5 (.mv (.s 27))])
def p_freelist_List_slots_9:PC :=
 (.reg [1,5,14,15,16] [I 28 (.bin .add (.s 16) (V 1)),I 16 (.mv (.s 28))])
def p_freelist_List_slots_10:PC :=
 (.seq p_freelist_List_slots_5
 (.seq (.ite (.s 17)
 .skip
 (.exit 0))
 (.seq (.block 1
 (.seq p_freelist_List_slots_6
 (.seq p_freelist_List_slots_7
 (.ite (.s 23)
 p_freelist_List_slots_8
 .skip))))
 p_freelist_List_slots_9)))
def p_freelist_List_slots_11:PC :=
 (.reg [4] [I 29 (.mv (.s 5)),I 4 (.mv (.s 29))])
def p_freelist_List_slots:PF:=⟨false,
 (.seq p_freelist_List_slots_0
 (.seq p_freelist_List_slots_1
 (.seq (.seq p_freelist_List_slots_2
 (.ite (.s 9)
 (.seq p_freelist_List_slots_3
 .ret)
 .skip))
 (.seq (.seq p_freelist_List_slots_4
 (.block 0
 (.loop p_freelist_List_slots_10)))
 (.seq p_freelist_List_slots_11
 .ret))))),
 [.s 4]⟩
theorem c_freelist_List_slots:compF Go.Proofs.Tryz.prog false h_freelist_List_slots Go.Proofs.Tryz.f172=some p_freelist_List_slots:=by kernel_rfl
def h_seek_Leaf:List Hint:=[H [0,2,4],H [0,2,4,10],H [0,2,4,10,16],H [6,7,8,9],H [0,2,4,26],H [6,7,8,9],H [9,11],H [6,7,8,9]]
def p_seek_Leaf_0:PC :=
 (.reg [0,2,4] [I 4 (.box (.s 1)),I 6 (.mv (.v (.str []))),I 7 (.mv (V 0)),I 8 (.mv (.v .nils)),I 9 (.mv (V 0))])
def p_seek_Leaf_1:PC :=
 (.reg [0,2,4,10] [I 12 (.mv (.s 0)),I 13 (.ld true 5 (.s 4)),I 14 (C F_seek_check [(.s 12),(.s 13)]),I 10 (.mv (.s 14))])
def p_seek_Leaf_2:PC :=
 (.reg [0,2,4,10,16] [I 15 (.mv (.s 10)),I 16 (.bin .neq (.s 15) (V 0))])
def p_seek_Leaf_3:PC :=
 (.reg [6,7,8,9] [I 17 (.mv (.s 10)),I 6 (.mv (.v (.str []))),I 7 (.mv (V 0)),I 8 (.mv (.v .nils)),I 9 (.mv (.s 17))])
def p_seek_Leaf_4:PC :=
 (.reg [0,2,4,26] [I 18 (.mv (.s 2)),I 19 (.bin .lss (.s 18) (V 0)),I 20 (.mv (.s 19)),G 21 20 false (.mv (.s 2)),G 22 20 false (.fadr 2 (.s 4)),G 23 20 false (.fadr 0 (.s 22)),G 24 20 false (.ld false 1 (.s 23)),G 25 20 false (.bin .geq (.s 21) (.s 24)),I 26 (.pick (.s 20) (.v (.bool true)) (.s 25))])
def p_seek_Leaf_5:PC :=
 (.reg [6,7,8,9] [I 6 (.mv (.v (.str []))),I 7 (.mv (V 0)),I 8 (.mv (.v .nils)),I 9 (.mv (V 3))])
def p_seek_Leaf_6:PC :=
 (.reg [9,11] [I 28 (.mv (.s 0)),I 29 (.ld true 5 (.s 4)),I 30 (.mv (.s 2)),I 31 (C F_seek_walk [(.s 28),(.s 29),(.s 30),(.v (.func (.func F_node_Child) [] [])),(.v (.func (.func F_seek_LeafC1) [] []))]),I 27 (.mv (.s 31)),I 32 (.ext (.s 27) 0),I 33 (.ext (.s 27) 1),I 11 (.box (.v (.agg [(.str []),(.int .i64 0),.nils]))),J (.st 3 (.s 11) (.s 32)),I 9 (.mv (.s 33))])
def p_seek_Leaf_7:PC :=
 (.reg [6,7,8,9] [I 34 (.fadr 0 (.s 11)),I 35 (.ld false 1 (.s 34)),I 36 (.fadr 1 (.s 11)),I 37 (.ld false 1 (.s 36)),I 38 (.fadr 2 (.s 11)),I 39 (.ld false 1 (.s 38)),I 40 (.mv (.s 9)),I 6 (.mv (.s 35)),I 7 (.mv (.s 37)),I 8 (.mv (.s 39)),I 9 (.mv (.s 40))])
def p_seek_Leaf:PF:=⟨false,
 (.seq p_seek_Leaf_0
 (.seq (.seq p_seek_Leaf_1
 (.seq p_seek_Leaf_2
 (.ite (.s 16)
 (.seq p_seek_Leaf_3
 .ret)
 .skip)))
 (.seq (.seq p_seek_Leaf_4
 (.ite (.s 26)
 (.seq p_seek_Leaf_5
 .ret)
 .skip))
 (.seq p_seek_Leaf_6
 (.seq p_seek_Leaf_7
 .ret))))),
 [.s 6,.s 7,.s 8,.s 9]⟩
theorem c_seek_Leaf:compF Go.Proofs.Tryz.prog false h_seek_Leaf Go.Proofs.Tryz.f176=some p_seek_Leaf:=by kernel_rfl
def h_rope_Begin:List Hint:=[H [0,3],H [0,3,6],H [0,3,6,12],H [4,5],H [0,3,19],H [4,5],H [3,7],H [7],H [4,5]]
def p_rope_Begin_0:PC :=
 (.reg [0,3] [I 3 (.box (.s 1)),I 4 (.mv (.v .nilptr)),I 5 (.mv (V 0))])
def p_rope_Begin_1:PC :=
 (.reg [0,3,6] [I 8 (.mv (.s 0)),I 9 (.ld true 7 (.s 3)),I 10 (C F_plan_Check [(.s 8),(.s 9)]),I 6 (.mv (.s 10))])
def p_rope_Begin_2:PC :=
 (.reg [0,3,6,12] [I 11 (.mv (.s 6)),I 12 (.bin .neq (.s 11) (V 0))])
def p_rope_Begin_3:PC :=
 (.reg [4,5] [I 13 (.mv (.s 6)),I 4 (.mv (.v .nilptr)),I 5 (.mv (.s 13))])
def p_rope_Begin_4:PC :=
 (.reg [0,3,19] [I 14 (.ld true 7 (.s 3)),I 15 (C F_plan_New [(.s 14)]),I 16 (.mv (.s 0)),I 17 (C F_arena_Arena_Stats [(.s 16)]),I 18 (.fld false 1 1 (.s 17)),I 19 (.bin .gtr (.s 15) (.s 18))])
def p_rope_Begin_5:PC :=
 (.reg [4,5] [I 4 (.mv (.v .nilptr)),I 5 (.mv (V 6))])
def p_rope_Begin_6:PC :=
 (.reg [3,7] [I 20 (.mv (.s 0)),I 21 (.build [.nilptr,.nils,.nilptr] [(0,1,(.s 20))]),I 22 (.box (.s 21)),I 7 (.mv (.s 22))])
def p_rope_Begin_7:PC :=
 (.reg [7] [I 23 (.mv (.s 7)),I 24 (.mv (.s 7)),I 25 (.ld true 7 (.s 3)),I 26 (C F_rope_Pen_add [(.s 24),(.s 25)]),I 27 (.nilck (.s 23)),I 28 (.fadr 2 (.s 27)),J (.st 1 (.s 28) (.s 26))])
def p_rope_Begin_8:PC :=
 (.reg [4,5] [I 29 (.mv (.s 7)),I 4 (.mv (.s 29)),I 5 (.mv (V 0))])
def p_rope_Begin:PF:=⟨true,
 (.seq p_rope_Begin_0
 (.seq (.seq p_rope_Begin_1
 (.seq p_rope_Begin_2
 (.ite (.s 12)
 (.seq p_rope_Begin_3
 .ret)
 .skip)))
 (.seq (.seq p_rope_Begin_4
 (.ite (.s 19)
 (.seq p_rope_Begin_5
 .ret)
 .skip))
 (.seq p_rope_Begin_6
 (.seq p_rope_Begin_7
 (.seq p_rope_Begin_8
 .ret)))))),
 [.s 4,.s 5]⟩
theorem c_rope_Begin:compF Go.Proofs.Tryz.prog true h_rope_Begin Go.Proofs.Tryz.f181=some p_rope_Begin:=by kernel_rfl
def h_rope_Pen_Step:List Hint:=[H [0],H [0,6],H [2,3,4],H [0,12],H [2,3,4],H [0,2,4],H [0,2,4,24],H [2,3,4],H [0,2],H [2,3,4]]
def p_rope_Pen_Step_0:PC :=
 (.reg [0] [I 2 (.mv (.v (.int .u64 0))),I 3 (.mv (.v (.bool false))),I 4 (.mv (V 0))])
def p_rope_Pen_Step_1:PC :=
 (.reg [0,6] [I 5 (.mv (.s 0)),I 6 (.eqs false 3 [] (.s 5) (.v .nilptr))])
def p_rope_Pen_Step_2:PC :=
 (.reg [2,3,4] [I 2 (.mv (.v (.int .u64 0))),I 3 (.mv (.v (.bool false))),I 4 (.mv (V 1))])
def p_rope_Pen_Step_3:PC :=
 (.reg [0,12] [I 7 (.mv (.s 0)),I 8 (.nilck (.s 7)),I 9 (.fadr 1 (.s 8)),I 10 (.ld false 1 (.s 9)),I 11 (.len 1 (.s 10)),I 12 (.bin .eql (.s 11) (V 0))])
def p_rope_Pen_Step_4:PC :=
 (.reg [2,3,4] [I 2 (.mv (.v (.int .u64 0))),I 3 (.mv (.v (.bool true))),I 4 (.mv (V 0))])
def p_rope_Pen_Step_5:PC :=
 (.reg [0,2,4] [I 14 (.mv (.s 0)),I 15 (.nilck (.s 14)),I 16 (.fadr 1 (.s 15)),I 17 (.ld false 1 (.s 16)),I 18 (.ixS 1 (.s 17) (V 0)),I 19 (.ld false 1 (.s 18)),I 20 (.call .norm (.s 19) []),I 13 (.mv (.s 20)),I 21 (.ext (.s 13) 0),I 22 (.ext (.s 13) 1),I 2 (.mv (.s 21)),I 4 (.mv (.s 22))])
def p_rope_Pen_Step_6:PC :=
 (.reg [0,2,4,24] [I 23 (.mv (.s 4)),I 24 (.bin .neq (.s 23) (V 0))])
def p_rope_Pen_Step_7:PC :=
 (.reg [2,3,4] [I 25 (.mv (.s 4)),I 2 (.mv (.v (.int .u64 0))),I 3 (.mv (.v (.bool false))),I 4 (.mv (.s 25))])
def p_rope_Pen_Step_8:PC :=
 (.reg [0,2] [I 26 (.mv (.s 0)),I 27 (.mv (.s 0)),I 28 (.nilck (.s 27)),I 29 (.fadr 1 (.s 28)),I 30 (.ld false 1 (.s 29)),I 31 (.slc 1 (.s 30) (some (V 1)) none),I 32 (.nilck (.s 26)),I 33 (.fadr 1 (.s 32)),J (.st 1 (.s 33) (.s 31))])
def p_rope_Pen_Step_9:PC :=
 (.reg [2,3,4] [I 34 (.mv (.s 2)),I 35 (.mv (.s 0)),I 36 (.nilck (.s 35)),I 37 (.fadr 1 (.s 36)),I 38 (.ld false 1 (.s 37)),I 39 (.len 1 (.s 38)),I 40 (.bin .eql (.s 39) (V 0)),I 2 (.mv (.s 34)),I 3 (.mv (.s 40)),I 4 (.mv (V 0))])
def p_rope_Pen_Step:PF:=⟨false,
 (.seq p_rope_Pen_Step_0
 (.seq (.seq p_rope_Pen_Step_1
 (.ite (.s 6)
 (.seq p_rope_Pen_Step_2
 .ret)
 .skip))
 (.seq (.seq p_rope_Pen_Step_3
 (.ite (.s 12)
 (.seq p_rope_Pen_Step_4
 .ret)
 .skip))
 (.seq p_rope_Pen_Step_5
 (.seq (.seq p_rope_Pen_Step_6
 (.ite (.s 24)
 (.seq p_rope_Pen_Step_7
 .ret)
 .skip))
 (.seq p_rope_Pen_Step_8
 (.seq p_rope_Pen_Step_9
 .ret))))))),
 [.s 2,.s 3,.s 4]⟩
theorem c_rope_Pen_Step:compF Go.Proofs.Tryz.prog false h_rope_Pen_Step Go.Proofs.Tryz.f182=some p_rope_Pen_Step:=by kernel_rfl
def h_rope_Pen_Root:List Hint:=[H [0,2],H [0,2,5],H [2,3],H [0,2,12],H [2,3],H [2,3]]
def p_rope_Pen_Root_0:PC :=
 (.reg [0,2] [I 2 (.box (.v ZR)),I 3 (.mv (V 0))])
def p_rope_Pen_Root_1:PC :=
 (.reg [0,2,5] [I 4 (.mv (.s 0)),I 5 (.eqs false 3 [] (.s 4) (.v .nilptr))])
def p_rope_Pen_Root_2:PC :=
 (.reg [2,3] [I 6 (.build [(.int .u64 0),(.int .i64 0),(.int .i64 0),(.int .i64 0),(.int .i64 0)] []),J (.st 5 (.s 2) (.s 6)),I 3 (.mv (V 1))])
def p_rope_Pen_Root_3:PC :=
 (.reg [0,2,12] [I 7 (.mv (.s 0)),I 8 (.nilck (.s 7)),I 9 (.fadr 1 (.s 8)),I 10 (.ld false 1 (.s 9)),I 11 (.len 1 (.s 10)),I 12 (.bin .gtr (.s 11) (V 0))])
def p_rope_Pen_Root_4:PC :=
 (.reg [2,3] [I 13 (.build [(.int .u64 0),(.int .i64 0),(.int .i64 0),(.int .i64 0),(.int .i64 0)] []),J (.st 5 (.s 2) (.s 13)),I 3 (.mv (V 8))])
def p_rope_Pen_Root_5:PC :=
 (.reg [2,3] [I 14 (.mv (.s 0)),I 15 (.nilck (.s 14)),I 16 (.fadr 2 (.s 15)),I 17 (.ld false 1 (.s 16)),I 18 (.nilck (.s 17)),I 19 (.ld true 5 (.s 18)),J (.st 5 (.s 2) (.s 19)),I 3 (.mv (V 0))])
def p_rope_Pen_Root:PF:=⟨false,
 (.seq p_rope_Pen_Root_0
 (.seq (.seq p_rope_Pen_Root_1
 (.ite (.s 5)
 (.seq p_rope_Pen_Root_2
 .ret)
 .skip))
 (.seq (.seq p_rope_Pen_Root_3
 (.ite (.s 12)
 (.seq p_rope_Pen_Root_4
 .ret)
 .skip))
 (.seq p_rope_Pen_Root_5
 .ret)))),
 [.c 2 true 5,.s 3]⟩
theorem c_rope_Pen_Root:compF Go.Proofs.Tryz.prog false h_rope_Pen_Root Go.Proofs.Tryz.f183=some p_rope_Pen_Root:=by kernel_rfl
def h_freelist_List_slot:List Hint:=[H [0,1],H [0,1,6,7],H [0,1,6,34],H [4,5],H [0,6,7,8],H [4,5]]
def p_freelist_List_slot_0:PC :=
 (.reg [0,1] [I 4 (.mv (V 0)),I 5 (.mv (.v (.bool false)))])
def p_freelist_List_slot_1:PC :=
 (.reg [0,1,6,7] [I 10 (.mv (.s 1)),I 11 (C F_handle_Slot [(.s 10)]),I 9 (.mv (.s 11)),I 12 (.ext (.s 9) 0),I 13 (.ext (.s 9) 1),I 6 (.mv (.s 12)),I 7 (.mv (.s 13))])
def p_freelist_List_slot_2:PC :=
 (.reg [0,1,6,34] [I 14 (.mv (.s 7)),I 15 (.bin .neq (.s 14) (V 0)),I 16 (.mv (.s 15)),G 17 16 false (.mv (.s 6)),G 18 16 false (.mv (.s 0)),G 19 16 false (.nilck (.s 18)),G 20 16 false (.fadr 1 (.s 19)),G 21 16 false (.ld false 1 (.s 20)),G 22 16 false (.len 1 (.s 21)),G 23 16 false (.bin .geq (.s 17) (.s 22)),I 24 (.pick (.s 16) (.v (.bool true)) (.s 23)),I 25 (.mv (.s 24)),G 26 25 false (.mv (.s 0)),G 27 25 false (.nilck (.s 26)),G 28 25 false (.fadr 1 (.s 27)),G 29 25 false (.ld false 1 (.s 28)),G 30 25 false (.mv (.s 6)),G 31 25 false (.ixS 1 (.s 29) (.s 30)),G 32 25 false (.ld false 1 (.s 31)),G 33 25 false (.bin .neq (.s 32) (.v (.int .u8 1))),I 34 (.pick (.s 25) (.v (.bool true)) (.s 33))])
def p_freelist_List_slot_3:PC :=
 (.reg [4,5] [I 4 (.mv (V 0)),I 5 (.mv (.v (.bool false)))])
def p_freelist_List_slot_4:PC :=
 (.reg [0,6,7,8] [I 36 (.mv (.s 1)),I 37 (C F_handle_Gen [(.s 36)]),I 35 (.mv (.s 37)),I 38 (.ext (.s 35) 0),I 39 (.ext (.s 35) 1),I 8 (.mv (.s 38)),I 7 (.mv (.s 39))])
def p_freelist_List_slot_5:PC :=
 (.reg [4,5] [I 40 (.mv (.s 6)),I 41 (.mv (.s 7)),I 42 (.bin .eql (.s 41) (V 0)),I 43 (.mv (.s 42)),G 44 43 true (.mv (.s 8)),G 45 43 true (.mv (.s 0)),G 46 43 true (.nilck (.s 45)),G 47 43 true (.fadr 2 (.s 46)),G 48 43 true (.ld false 1 (.s 47)),G 49 43 true (.mv (.s 6)),G 50 43 true (.ixS 1 (.s 48) (.s 49)),G 51 43 true (.ld false 1 (.s 50)),G 52 43 true (.bin .eql (.s 44) (.s 51)),I 53 (.pick (.s 43) (.s 52) (.v (.bool false))),I 4 (.mv (.s 40)),I 5 (.mv (.s 53))])
def p_freelist_List_slot:PF:=⟨false,
 (.seq p_freelist_List_slot_0
 (.seq p_freelist_List_slot_1
 (.seq (.seq p_freelist_List_slot_2
 (.ite (.s 34)
 (.seq p_freelist_List_slot_3
 .ret)
 .skip))
 (.seq p_freelist_List_slot_4
 (.seq p_freelist_List_slot_5
 .ret))))),
 [.s 4,.s 5]⟩
theorem c_freelist_List_slot:compF Go.Proofs.Tryz.prog false h_freelist_List_slot Go.Proofs.Tryz.f186=some p_freelist_List_slot:=by kernel_rfl
def h_node_formed:List Hint:=[H [1],H [1,9],H [2],H [1,50],H [2],H [1,3,4],H [3,4,59,60,61],H [3,4,59,60,61,62],H [3,4,6,59,60,61],H [3,4,59,60,61,112],H [2],H [3,4,59,60,61],H [2]]
def p_node_formed_0:PC :=
 (.reg [1] [I 1 (.box (.s 0)),I 2 (.mv (.v (.bool false)))])
def p_node_formed_1:PC :=
 (.reg [1,9] [I 7 (.fadr 0 (.s 1)),I 8 (.ld false 1 (.s 7)),I 9 (.bin .eql (.s 8) (V 0))])
def p_node_formed_2:PC :=
 (.reg [2] [I 10 (.fadr 1 (.s 1)),I 11 (.ld false 1 (.s 10)),I 12 (.len 0 (.s 11)),I 13 (.bin .geq (.s 12) (V 1)),I 14 (.mv (.s 13)),G 15 14 true (.fadr 1 (.s 1)),G 16 14 true (.ld false 1 (.s 15)),G 17 14 true (.len 0 (.s 16)),G 18 14 true (.bin .leq (.s 17) (V 16)),I 19 (.pick (.s 14) (.s 18) (.v (.bool false))),I 20 (.mv (.s 19)),G 21 20 true (.fadr 2 (.s 1)),G 22 20 true (.ld false 1 (.s 21)),G 23 20 true (.len 1 (.s 22)),G 24 20 true (.bin .eql (.s 23) (V 0)),I 25 (.pick (.s 20) (.s 24) (.v (.bool false))),I 2 (.mv (.s 25))])
def p_node_formed_3:PC :=
 (.reg [1,50] [I 26 (.fadr 0 (.s 1)),I 27 (.ld false 1 (.s 26)),I 28 (.bin .lss (.s 27) (V 1)),I 29 (.mv (.s 28)),G 30 29 false (.fadr 0 (.s 1)),G 31 29 false (.ld false 1 (.s 30)),G 32 29 false (.bin .gtr (.s 31) (V 16)),I 33 (.pick (.s 29) (.v (.bool true)) (.s 32)),I 34 (.mv (.s 33)),G 35 34 false (.fadr 1 (.s 1)),G 36 34 false (.ld false 1 (.s 35)),G 37 34 false (.bin .neq (.s 36) (.v (.str []))),I 38 (.pick (.s 34) (.v (.bool true)) (.s 37)),I 39 (.mv (.s 38)),G 40 39 false (.fadr 2 (.s 1)),G 41 39 false (.ld false 1 (.s 40)),G 42 39 false (.len 1 (.s 41)),G 43 39 false (.bin .lss (.s 42) (V 2)),I 44 (.pick (.s 39) (.v (.bool true)) (.s 43)),I 45 (.mv (.s 44)),G 46 45 false (.fadr 2 (.s 1)),G 47 45 false (.ld false 1 (.s 46)),G 48 45 false (.len 1 (.s 47)),G 49 45 false (.bin .gtr (.s 48) (V 4)),I 50 (.pick (.s 45) (.v (.bool true)) (.s 49))])
def p_node_formed_4:PC :=
 (.reg [2] [I 2 (.mv (.v (.bool false)))])
def p_node_formed_5:PC :=
 (.reg [1,3,4] [I 52 (.fadr 0 (.s 1)),I 53 (.ld false 1 (.s 52)),I 54 (.bin .sub (.s 53) (V 1)),I 55 (C F_node_bounds [(.s 54)]),I 51 (.mv (.s 55)),I 56 (.ext (.s 51) 0),I 57 (.ext (.s 51) 1),I 3 (.mv (.s 56)),I 4 (.mv (.s 57))])
def p_node_formed_6:PC :=
 (.reg [3,4,59,60,61] [I 58 (.fadr 2 (.s 1)),I 59 (.ld false 1 (.s 58)),I 60 (.len 1 (.s 59)),I 61 (.mv (V 0))])
def p_node_formed_7:PC :=
 (.reg [3,4,59,60,61,62] [I 62 (.bin .lss (.s 61) (.s 60))])
def p_node_formed_8:PC :=
 (.reg [3,4,6,59,60,61] [I 63 (.ixS 4 (.s 59) (.s 61)),I 64 (.ld true 4 (.s 63)),I 6 (.box (.v ZK)),J (.st 4 (.s 6) (.s 64))])
def p_node_formed_9:PC :=
 (.reg [3,4,59,60,61,112] [I 65 (.fadr 0 (.s 6)),I 66 (.ld false 1 (.s 65)),I 67 (C F_handle_Check [(.s 66)]),I 68 (.bin .neq (.s 67) (V 0)),I 69 (.mv (.s 68)),G 70 69 false (.fadr 1 (.s 6)),G 71 69 false (.fadr 0 (.s 70)),G 72 69 false (.ld false 1 (.s 71)),G 73 69 false (.mv (.s 3)),G 74 69 false (.bin .lss (.s 72) (.s 73)),I 75 (.pick (.s 69) (.v (.bool true)) (.s 74)),I 76 (.mv (.s 75)),G 77 76 false (.fadr 1 (.s 6)),G 78 76 false (.fadr 0 (.s 77)),G 79 76 false (.ld false 1 (.s 78)),G 80 76 false (.mv (.s 4)),G 81 76 false (.bin .gtr (.s 79) (.s 80)),I 82 (.pick (.s 76) (.v (.bool true)) (.s 81)),I 83 (.mv (.s 82)),G 84 83 false (.fadr 1 (.s 6)),G 85 83 false (.fadr 1 (.s 84)),G 86 83 false (.ld false 1 (.s 85)),G 87 83 false (.bin .lss (.s 86) (V 0)),I 88 (.pick (.s 83) (.v (.bool true)) (.s 87)),I 89 (.mv (.s 88)),G 90 89 false (.fadr 1 (.s 6)),G 91 89 false (.fadr 1 (.s 90)),G 92 89 false (.ld false 1 (.s 91)),G 93 89 false (.fadr 1 (.s 6)),G 94 89 false (.fadr 0 (.s 93)),G 95 89 false (.ld false 1 (.s 94)),G 96 89 false (.bin .gtr (.s 92) (.s 95)),I 97 (.pick (.s 89) (.v (.bool true)) (.s 96)),I 98 (.mv (.s 97)),G 99 98 false (.fadr 1 (.s 6)),G 100 98 false (.fadr 2 (.s 99)),G 101 98 false (.ld false 1 (.s 100)),G 102 98 false (.bin .lss (.s 101) (V 0)),I 103 (.pick (.s 98) (.v (.bool true)) (.s 102)),I 104 (.mv (.s 103)),G 105 104 false (.fadr 1 (.s 6)),G 106 104 false (.fadr 2 (.s 105)),G 107 104 false (.ld false 1 (.s 106)),G 108 104 false (.fadr 1 (.s 6)),G 109 104 false (.fadr 1 (.s 108)),G 110 104 false (.ld false 1 (.s 109)),G 111 104 false (.bin .gtr (.s 107) (.s 110)),I 112 (.pick (.s 104) (.v (.bool true)) (.s 111))])
def p_node_formed_10:PC :=
 (.reg [2] [I 2 (.mv (.v (.bool false)))])
def p_node_formed_11:PC :=
 (.reg [3,4,59,60,61] [I 113 (.bin .add (.s 61) (V 1)),I 61 (.mv (.s 113))])
def p_node_formed_12:PC :=
 (.seq p_node_formed_7
 (.seq (.ite (.s 62)
 .skip
 (.exit 0))
 (.seq (.block 1
 (.seq p_node_formed_8
 (.seq p_node_formed_9
 (.ite (.s 112)
 (.seq p_node_formed_10
 .ret)
 .skip))))
 p_node_formed_11)))
def p_node_formed_13:PC :=
 (.reg [2] [I 2 (.mv (.v (.bool true)))])
def p_node_formed:PF:=⟨false,
 (.seq p_node_formed_0
 (.seq (.seq p_node_formed_1
 (.ite (.s 9)
 (.seq p_node_formed_2
 .ret)
 .skip))
 (.seq (.seq p_node_formed_3
 (.ite (.s 50)
 (.seq p_node_formed_4
 .ret)
 .skip))
 (.seq p_node_formed_5
 (.seq (.seq p_node_formed_6
 (.block 0
 (.loop p_node_formed_12)))
 (.seq p_node_formed_13
 .ret)))))),
 [.s 2]⟩
theorem c_node_formed:compF Go.Proofs.Tryz.prog false h_node_formed Go.Proofs.Tryz.f187=some p_node_formed:=by kernel_rfl
def h_node_sum:List Hint:=[H [1,2],H [1,2,8],H [2],⟨[1,2,3],[0],[],[],[],[]⟩,H [2,3,13,14,15],H [2,3,13,14,15,16],H [2,3,5,13,14,15],H [2,3,13,14,15],H [2,3,13,14,15],H [2]]
def p_node_sum_0:PC :=
 (.reg [1,2] [I 1 (.box (.s 0)),I 2 (.box (.v ZM))])
def p_node_sum_1:PC :=
 (.reg [1,2,8] [I 6 (.fadr 0 (.s 1)),I 7 (.ld false 1 (.s 6)),I 8 (.bin .eql (.s 7) (V 0))])
def p_node_sum_2:PC :=
 (.reg [2] [I 9 (.fadr 1 (.s 1)),I 10 (.ld false 1 (.s 9)),I 11 (C F_measure_Of [(.s 10)]),J (.st 3 (.s 2) (.s 11))])
def p_node_sum_3:PC :=
 (.reg [1,2,3] [I 3 (.onil 3)])
def p_node_sum_4:PC :=
 (.reg [2,3,13,14,15] [I 12 (.fadr 2 (.s 1)),I 13 (.ld false 1 (.s 12)),I 14 (.len 1 (.s 13)),I 15 (.mv (V 0))])
def p_node_sum_5:PC :=
 (.reg [2,3,13,14,15,16] [I 16 (.bin .lss (.s 15) (.s 14))])
def p_node_sum_6:PC :=
 (.reg [2,3,5,13,14,15] [I 17 (.ixS 4 (.s 13) (.s 15)),I 18 (.ld true 4 (.s 17)),I 5 (.box (.v ZK)),J (.st 4 (.s 5) (.s 18))])
def p_node_sum_7:PC :=
 (.reg [2,3,13,14,15] [I 19 (.mv (.s 3)),I 20 (.fadr 1 (.s 5)),I 21 (.ld true 3 (.s 20)),I 22 (.bslice false 3 [ZM] [(0,(.s 21))]),I 23 (.app 3 24 (.s 19) (.s 22)),I 3 (.mv (.s 23))])
def p_node_sum_8:PC :=
 (.reg [2,3,13,14,15] [I 24 (.bin .add (.s 15) (V 1)),I 15 (.mv (.s 24))])
def p_node_sum_9:PC :=
 (.seq p_node_sum_5
 (.seq (.ite (.s 16)
 .skip
 (.exit 0))
 (.seq (.block 1
 (.seq p_node_sum_6
 p_node_sum_7))
 p_node_sum_8)))
def p_node_sum_10:PC :=
 (.reg [2] [I 25 (.mv (.s 3)),I 26 (C F_measure_Add [(.s 25)]),J (.st 3 (.s 2) (.s 26))])
def p_node_sum:PF:=⟨false,
 (.seq p_node_sum_0
 (.seq (.seq p_node_sum_1
 (.ite (.s 8)
 (.seq p_node_sum_2
 .ret)
 .skip))
 (.seq p_node_sum_3
 (.seq (.seq p_node_sum_4
 (.block 0
 (.loop p_node_sum_9)))
 (.seq p_node_sum_10
 .ret))))),
 [.c 2 true 3]⟩
theorem c_node_sum:compF Go.Proofs.Tryz.prog false h_node_sum Go.Proofs.Tryz.f188=some p_node_sum:=by kernel_rfl
def h_handle_Make:List Hint:=[H [0,1],H [0,1,19],H [4,5],H [4,5]]
def p_handle_Make_0:PC :=
 (.reg [0,1] [I 4 (.mv (.v (.int .u64 0))),I 5 (.mv (V 0))])
def p_handle_Make_1:PC :=
 (.reg [0,1,19] [I 6 (.mv (.s 0)),I 7 (.bin .lss (.s 6) (V 0)),I 8 (.mv (.s 7)),G 9 8 false (.mv (.s 0)),G 10 8 false (.bin .geq (.s 9) (V 16384)),I 11 (.pick (.s 8) (.v (.bool true)) (.s 10)),I 12 (.mv (.s 11)),G 13 12 false (.mv (.s 1)),G 14 12 false (.bin .lss (.s 13) (.v (.int .u64 1))),I 15 (.pick (.s 12) (.v (.bool true)) (.s 14)),I 16 (.mv (.s 15)),G 17 16 false (.mv (.s 1)),G 18 16 false (.bin .gtr (.s 17) (.v (.int .u64 4294967295))),I 19 (.pick (.s 16) (.v (.bool true)) (.s 18))])
def p_handle_Make_2:PC :=
 (.reg [4,5] [I 4 (.mv (.v (.int .u64 0))),I 5 (.mv (V 3))])
def p_handle_Make_3:PC :=
 (.reg [4,5] [I 20 (.mv (.s 1)),I 21 (.bin .shl (.s 20) (.v (.int .u64 16))),I 22 (.mv (.s 0)),I 23 (.cint .u64 (.s 22)),I 24 (.bin .or (.s 21) (.s 23)),I 4 (.mv (.s 24)),I 5 (.mv (V 0))])
def p_handle_Make:PF:=⟨false,
 (.seq p_handle_Make_0
 (.seq (.seq p_handle_Make_1
 (.ite (.s 19)
 (.seq p_handle_Make_2
 .ret)
 .skip))
 (.seq p_handle_Make_3
 .ret))),
 [.s 4,.s 5]⟩
theorem c_handle_Make:compF Go.Proofs.Tryz.prog false h_handle_Make Go.Proofs.Tryz.f189=some p_handle_Make:=by kernel_rfl
def h_chunk_sizesC1:List Hint:=[H [0,1,2],H [1,2,9],H [4],H [4]]
def p_chunk_sizesC1_0:PC :=
 (.reg [0,1,2] [I 4 (.mv (V 0))])
def p_chunk_sizesC1_1:PC :=
 (.reg [1,2,9] [I 5 (.mv (.s 0)),I 6 (.ld false 1 (.s 1)),I 7 (.ld false 1 (.s 2)),I 8 (.bin .rem (.s 6) (.s 7)),I 9 (.bin .lss (.s 5) (.s 8))])
def p_chunk_sizesC1_2:PC :=
 (.reg [4] [I 10 (.ld false 1 (.s 1)),I 11 (.ld false 1 (.s 2)),I 12 (.bin .quo (.s 10) (.s 11)),I 13 (.bin .add (.s 12) (V 1)),I 4 (.mv (.s 13))])
def p_chunk_sizesC1_3:PC :=
 (.reg [4] [I 14 (.ld false 1 (.s 1)),I 15 (.ld false 1 (.s 2)),I 16 (.bin .quo (.s 14) (.s 15)),I 4 (.mv (.s 16))])
def p_chunk_sizesC1:PF:=⟨false,
 (.seq p_chunk_sizesC1_0
 (.seq (.seq p_chunk_sizesC1_1
 (.ite (.s 9)
 (.seq p_chunk_sizesC1_2
 .ret)
 .skip))
 (.seq p_chunk_sizesC1_3
 .ret))),
 [.s 4]⟩
theorem c_chunk_sizesC1:compF Go.Proofs.Tryz.prog false h_chunk_sizesC1 Go.Proofs.Tryz.f198=some p_chunk_sizesC1:=by kernel_rfl
def h_seek_Byte:List Hint:=[H [0,2,4],H [8,9,11],H [8,9,11,22],H [6,7],H [8,9,31],H [6,7],H [6,7]]
def p_seek_Byte_0:PC :=
 (.reg [0,2,4] [I 4 (.box (.s 1)),I 6 (.mv (.v (.int .u8 0))),I 7 (.mv (V 0))])
def p_seek_Byte_1:PC :=
 (.reg [8,9,11] [I 13 (.mv (.s 0)),I 14 (.ld true 5 (.s 4)),I 15 (.mv (.s 2)),I 16 (C F_seek_Leaf [(.s 13),(.s 14),(.s 15)]),I 12 (.mv (.s 16)),I 17 (.ext (.s 12) 0),I 18 (.ext (.s 12) 1),I 19 (.ext (.s 12) 2),I 20 (.ext (.s 12) 3),I 8 (.mv (.s 17)),I 9 (.mv (.s 18)),I 10 (.mv (.s 19)),I 11 (.mv (.s 20))])
def p_seek_Byte_2:PC :=
 (.reg [8,9,11,22] [I 21 (.mv (.s 11)),I 22 (.bin .neq (.s 21) (V 0))])
def p_seek_Byte_3:PC :=
 (.reg [6,7] [I 23 (.mv (.s 11)),I 6 (.mv (.v (.int .u8 0))),I 7 (.mv (.s 23))])
def p_seek_Byte_4:PC :=
 (.reg [8,9,31] [I 24 (.mv (.s 9)),I 25 (.bin .lss (.s 24) (V 0)),I 26 (.mv (.s 25)),G 27 26 false (.mv (.s 9)),G 28 26 false (.mv (.s 8)),G 29 26 false (.len 0 (.s 28)),G 30 26 false (.bin .geq (.s 27) (.s 29)),I 31 (.pick (.s 26) (.v (.bool true)) (.s 30))])
def p_seek_Byte_5:PC :=
 (.reg [6,7] [I 6 (.mv (.v (.int .u8 0))),I 7 (.mv (V 23))])
def p_seek_Byte_6:PC :=
 (.reg [6,7] [I 32 (.mv (.s 8)),I 33 (.mv (.s 9)),I 34 (.ixStr (.s 32) (.s 33)),I 6 (.mv (.s 34)),I 7 (.mv (V 0))])
def p_seek_Byte:PF:=⟨false,
 (.seq p_seek_Byte_0
 (.seq p_seek_Byte_1
 (.seq (.seq p_seek_Byte_2
 (.ite (.s 22)
 (.seq p_seek_Byte_3
 .ret)
 .skip))
 (.seq (.seq p_seek_Byte_4
 (.ite (.s 31)
 (.seq p_seek_Byte_5
 .ret)
 .skip))
 (.seq p_seek_Byte_6
 .ret))))),
 [.s 6,.s 7]⟩
theorem c_seek_Byte:compF Go.Proofs.Tryz.prog false h_seek_Byte Go.Proofs.Tryz.f201=some p_seek_Byte:=by kernel_rfl
def h_seek_walk:List Hint:=[H [0,2,3,4,6,10],H [0,3,4,6,10,12],H [0,3,4,10,12,13],H [0,3,4,10,12,13,14,15],H [0,3,4,10,12,13,14,15,31],H [10,11],H [0,3,4,10,12,14],H [0,3,4,10,12,14,42],H [10,12],H [10,11],H [0,3,4,10,12,14,15,16,17],H [0,3,4,10,12,14,15,16,17,57],H [10,11],H [0,3,4,10,12,14,16,17,63,64,65],H [0,3,4,10,12,14,16,17,63,64,65,66],H [0,3,4,10,12,14,16,17,19,63,64,65],H [0,3,4,10,12,14,16,17,63,64,65],H [0,3,4,10,12,14,16,17,63,64,65],⟨[0,3,4,10,12,13],[],[],[],[(6,(.hide [(.s 12)])),(8,(.plain (.s 12))),(4,(.hide [(.s 12)])),(2,(.hide [(.s 12)]))],[]⟩]
def p_seek_walk_0:PC :=
 (.reg [0,2,3,4,6,10] [I 6 (.box (.s 1)),I 10 (.box (.v (.agg [(.str []),(.int .i64 0),.nils]))),I 11 (.mv (V 0))])
def p_seek_walk_1:PC :=
 (.reg [0,3,4,6,10,12] [I 20 (.mv (.s 2)),I 21 (.build [(.str []),(.int .i64 0),.nils] [(1,1,(.s 20))]),I 12 (.box (.v (.agg [(.str []),(.int .i64 0),.nils]))),J (.st 3 (.s 12) (.s 21))])
def p_seek_walk_2:PC :=
 (.reg [0,3,4,10,12,13] [I 22 (.fadr 0 (.s 6)),I 23 (.ld false 1 (.s 22)),I 13 (.mv (.s 23))])
def p_seek_walk_3:PC :=
 (.reg [0,3,4,10,12,13,14,15] [I 25 (.mv (.s 0)),I 26 (.mv (.s 13)),I 27 (C F_arena_Arena_Get [(.s 25),(.s 26)]),I 24 (.mv (.s 27)),I 28 (.ext (.s 24) 0),I 29 (.ext (.s 24) 1),I 14 (.box (.v ZN)),J (.st 3 (.s 14) (.s 28)),I 15 (.mv (.s 29))])
def p_seek_walk_4:PC :=
 (.reg [0,3,4,10,12,13,14,15,31] [I 30 (.mv (.s 15)),I 31 (.bin .neq (.s 30) (V 0))])
def p_seek_walk_5:PC :=
 (.reg [10,11] [I 32 (.build [(.str []),(.int .i64 0),.nils] []),I 33 (.mv (.s 15)),J (.st 3 (.s 10) (.s 32)),I 11 (.mv (.s 33))])
def p_seek_walk_6:PC :=
 (.reg [0,3,4,10,12,14] [I 34 (.fadr 2 (.s 12)),I 35 (.ld false 1 (.s 34)),I 36 (.mv (.s 13)),I 37 (.bslice false 1 [(.int .u64 0)] [(0,(.s 36))]),I 38 (.app 1 8 (.s 35) (.s 37)),I 39 (.fadr 2 (.s 12)),J (.st 1 (.s 39) (.s 38))])
def p_seek_walk_7:PC :=
 (.reg [0,3,4,10,12,14,42] [I 40 (.fadr 0 (.s 14)),I 41 (.ld false 1 (.s 40)),I 42 (.bin .eql (.s 41) (V 0))])
def p_seek_walk_8:PC :=
 (.reg [10,12] [I 43 (.fadr 1 (.s 14)),I 44 (.ld false 1 (.s 43)),I 45 (.fadr 0 (.s 12)),J (.st 1 (.s 45) (.s 44))])
def p_seek_walk_9:PC :=
 (.reg [10,11] [I 46 (.ld true 3 (.s 12)),J (.st 3 (.s 10) (.s 46)),I 11 (.mv (V 0))])
def p_seek_walk_10:PC :=
 (.reg [0,3,4,10,12,14,15,16,17] [I 48 (.mv (.s 3)),I 49 (.ld true 3 (.s 14)),I 50 (.fadr 1 (.s 12)),I 51 (.ld false 1 (.s 50)),I 52 (.call .norm (.s 48) [(.s 49),(.s 51)]),I 47 (.mv (.s 52)),I 53 (.ext (.s 47) 0),I 54 (.ext (.s 47) 1),I 55 (.ext (.s 47) 2),I 16 (.mv (.s 53)),I 17 (.mv (.s 54)),I 15 (.mv (.s 55))])
def p_seek_walk_11:PC :=
 (.reg [0,3,4,10,12,14,15,16,17,57] [I 56 (.mv (.s 15)),I 57 (.bin .neq (.s 56) (V 0))])
def p_seek_walk_12:PC :=
 (.reg [10,11] [I 58 (.build [(.str []),(.int .i64 0),.nils] []),I 59 (.mv (.s 15)),J (.st 3 (.s 10) (.s 58)),I 11 (.mv (.s 59))])
def p_seek_walk_13:PC :=
 (.reg [0,3,4,10,12,14,16,17,63,64,65] [I 60 (.fadr 2 (.s 14)),I 61 (.ld false 1 (.s 60)),I 62 (.mv (.s 16)),I 63 (.slc 4 (.s 61) none (some (.s 62))),I 64 (.len 1 (.s 63)),I 65 (.mv (V 0))])
def p_seek_walk_14:PC :=
 (.reg [0,3,4,10,12,14,16,17,63,64,65,66] [I 66 (.bin .lss (.s 65) (.s 64))])
def p_seek_walk_15:PC :=
 (.reg [0,3,4,10,12,14,16,17,19,63,64,65] [I 67 (.ixS 4 (.s 63) (.s 65)),I 68 (.ld true 4 (.s 67)),I 19 (.box (.v ZK)),J (.st 4 (.s 19) (.s 68))])
def p_seek_walk_16:PC :=
 (.reg [0,3,4,10,12,14,16,17,63,64,65] [I 69 (.mv (.s 4)),I 70 (.fadr 1 (.s 19)),I 71 (.ld true 3 (.s 70)),I 72 (.call .norm (.s 69) [(.s 71)])])
def p_seek_walk_17:PC :=
 (.reg [0,3,4,10,12,14,16,17,63,64,65] [I 73 (.bin .add (.s 65) (V 1)),I 65 (.mv (.s 73))])
def p_seek_walk_18:PC :=
 (.seq p_seek_walk_14
 (.seq (.ite (.s 66)
 .skip
 (.exit 2))
 (.seq (.block 3
 (.seq p_seek_walk_15
 p_seek_walk_16))
 p_seek_walk_17)))
def p_seek_walk_19:PC :=
 (.reg [0,3,4,10,12,13] [I 74 (.mv (.s 17)),I 75 (.fadr 2 (.s 14)),I 76 (.w (.hide [(.s 12)]) (.ld false 1 (.s 75))),I 77 (.mv (.s 16)),I 78 (.w (.hide [(.s 12)]) (.ixS 4 (.s 76) (.s 77))),I 79 (.fadr 0 (.s 78)),I 80 (.w (.hide [(.s 12)]) (.ld false 1 (.s 79))),I 81 (.fadr 1 (.s 12)),J (.w (.plain (.s 12)) (.st 1 (.s 81) (.s 74))),I 13 (.mv (.s 80))])
def p_seek_walk_20:PC :=
 (.block 1
 (.seq p_seek_walk_3
 (.seq (.seq p_seek_walk_4
 (.ite (.s 31)
 (.seq p_seek_walk_5
 .ret)
 .skip))
 (.seq p_seek_walk_6
 (.seq (.seq p_seek_walk_7
 (.ite (.s 42)
 (.seq p_seek_walk_8
 (.seq p_seek_walk_9
 .ret))
 .skip))
 (.seq p_seek_walk_10
 (.seq (.seq p_seek_walk_11
 (.ite (.s 57)
 (.seq p_seek_walk_12
 .ret)
 .skip))
 (.seq (.seq p_seek_walk_13
 (.block 2
 (.loop p_seek_walk_18)))
 p_seek_walk_19))))))))
def p_seek_walk:PF:=⟨false,
 (.seq p_seek_walk_0
 (.seq p_seek_walk_1
 (.seq p_seek_walk_2
 (.block 0
 (.loop p_seek_walk_20))))),
 [.c 10 true 3,.s 11]⟩
theorem c_seek_walk:compF Go.Proofs.Tryz.prog false h_seek_walk Go.Proofs.Tryz.f202=some p_seek_walk:=by kernel_rfl
def h_node_Child:List Hint:=[H [1,2],H [4,5,6]]
def p_node_Child_0:PC :=
 (.reg [1,2] [I 2 (.box (.s 0)),I 4 (.mv (V 0)),I 5 (.mv (V 0)),I 6 (.mv (V 0))])
def p_node_Child_1:PC :=
 (.reg [4,5,6] [I 7 (.ld true 3 (.s 2)),I 8 (.mv (.s 1)),I 9 (C F_node_choose [(.s 7),(.s 8),(.v (.func (.func F_node_ChildC1) [] []))]),I 10 (.ext (.s 9) 0),I 11 (.ext (.s 9) 1),I 12 (.ext (.s 9) 2),I 4 (.mv (.s 10)),I 5 (.mv (.s 11)),I 6 (.mv (.s 12))])
def p_node_Child:PF:=⟨false,
 (.seq p_node_Child_0
 (.seq p_node_Child_1
 .ret)),
 [.s 4,.s 5,.s 6]⟩
theorem c_node_Child:compF Go.Proofs.Tryz.prog false h_node_Child Go.Proofs.Tryz.f203=some p_node_Child:=by kernel_rfl
def h_seek_beforeC1:List Hint:=[H [1,2,3],⟨[],[],[(3,.pure)],[],[],[]⟩]
def p_seek_beforeC1_0:PC :=
 (.reg [1,2,3] [I 3 (.box (.s 0))])
def p_seek_beforeC1_1:PC :=
 (.reg [] [I 4 (.ld false 1 (.s 1)),I 5 (.ld false 1 (.s 2)),I 6 (.ld true 3 (.s 3)),I 7 (.call .pure (.s 5) [(.s 6)]),I 8 (.bin .add (.s 4) (.s 7)),J (.st 1 (.s 1) (.s 8))])
def p_seek_beforeC1:PF:=⟨false,
 (.seq p_seek_beforeC1_0
 p_seek_beforeC1_1),
 []⟩
theorem c_seek_beforeC1:compF Go.Proofs.Tryz.prog false h_seek_beforeC1 Go.Proofs.Tryz.f204=some p_seek_beforeC1:=by kernel_rfl
def h_measure_before:List Hint:=[H [0,1,2],H [0,1,2,15],H [6,7],H [6,7]]
def p_measure_before_0:PC :=
 (.reg [0,1,2] [I 6 (.mv (V 0)),I 7 (.mv (V 0))])
def p_measure_before_1:PC :=
 (.reg [0,1,2,15] [I 8 (.mv (.s 1)),I 9 (.bin .lss (.s 8) (V 0)),I 10 (.mv (.s 9)),G 11 10 false (.mv (.s 1)),G 12 10 false (.mv (.s 0)),G 13 10 false (.len 0 (.s 12)),G 14 10 false (.bin .gtr (.s 11) (.s 13)),I 15 (.pick (.s 10) (.v (.bool true)) (.s 14))])
def p_measure_before_2:PC :=
 (.reg [6,7] [I 6 (.mv (V 0)),I 7 (.mv (V 3))])
def p_measure_before_3:PC :=
 (.reg [6,7] [I 16 (.mv (.s 0)),I 17 (.mv (.s 1)),I 18 (.slcS (.s 16) none (some (.s 17))),I 19 (.mv (.s 2)),I 20 (C F_measure_count [(.s 18),(.s 19)]),I 6 (.mv (.s 20)),I 7 (.mv (V 0))])
def p_measure_before:PF:=⟨false,
 (.seq p_measure_before_0
 (.seq (.seq p_measure_before_1
 (.ite (.s 15)
 (.seq p_measure_before_2
 .ret)
 .skip))
 (.seq p_measure_before_3
 .ret))),
 [.s 6,.s 7]⟩
theorem c_measure_before:compF Go.Proofs.Tryz.prog false h_measure_before Go.Proofs.Tryz.f205=some p_measure_before:=by kernel_rfl
def h_measure_feeds:List Hint:=[H [0],H [2]]
def p_measure_feeds_0:PC :=
 (.reg [0] [I 2 (.mv (.v (.bool false)))])
def p_measure_feeds_1:PC :=
 (.reg [2] [I 3 (.mv (.s 0)),I 4 (.bin .eql (.s 3) (.v (.int .u8 10))),I 2 (.mv (.s 4))])
def p_measure_feeds:PF:=⟨false,
 (.seq p_measure_feeds_0
 (.seq p_measure_feeds_1
 .ret)),
 [.s 2]⟩
theorem c_measure_feeds:compF Go.Proofs.Tryz.prog false h_measure_feeds Go.Proofs.Tryz.f206=some p_measure_feeds:=by kernel_rfl
def h_seek_offsetC1:List Hint:=[H [1,2],H []]
def p_seek_offsetC1_0:PC :=
 (.reg [1,2] [I 2 (.box (.s 0))])
def p_seek_offsetC1_1:PC :=
 (.reg [] [I 3 (.ld false 1 (.s 1)),I 4 (.fadr 0 (.s 2)),I 5 (.ld false 1 (.s 4)),I 6 (.bin .add (.s 3) (.s 5)),J (.st 1 (.s 1) (.s 6))])
def p_seek_offsetC1:PF:=⟨false,
 (.seq p_seek_offsetC1_0
 p_seek_offsetC1_1),
 []⟩
theorem c_seek_offsetC1:compF Go.Proofs.Tryz.prog false h_seek_offsetC1 Go.Proofs.Tryz.f207=some p_seek_offsetC1:=by kernel_rfl
def h_node_choose:List Hint:=[H [1,2,3],H [1,2,3,9],H [1,2,3,9,15],H [6,7,8],H [1,2,3,19],H [6,7,8],H [1,2,3,21],H [6,7,8],H [1,2,23,24,25],H [1,2,23,24,25,26],H [1,2,10,11,23,24,25],H [1,2,10,11,23,24,25,35],H [6,7,8],H [1,2,23,24,25],H [1,2,23,24,25],H [6,7,8]]
def p_node_choose_0:PC :=
 (.reg [1,2,3] [I 3 (.box (.s 0)),I 6 (.mv (V 0)),I 7 (.mv (V 0)),I 8 (.mv (V 0))])
def p_node_choose_1:PC :=
 (.reg [1,2,3,9] [I 12 (.ld true 3 (.s 3)),I 13 (C F_node_Check [(.s 12)]),I 9 (.mv (.s 13))])
def p_node_choose_2:PC :=
 (.reg [1,2,3,9,15] [I 14 (.mv (.s 9)),I 15 (.bin .neq (.s 14) (V 0))])
def p_node_choose_3:PC :=
 (.reg [6,7,8] [I 16 (.mv (.s 9)),I 6 (.mv (V 0)),I 7 (.mv (V 0)),I 8 (.mv (.s 16))])
def p_node_choose_4:PC :=
 (.reg [1,2,3,19] [I 17 (.fadr 0 (.s 3)),I 18 (.ld false 1 (.s 17)),I 19 (.bin .eql (.s 18) (V 0))])
def p_node_choose_5:PC :=
 (.reg [6,7,8] [I 6 (.mv (V 0)),I 7 (.mv (V 0)),I 8 (.mv (V 8))])
def p_node_choose_6:PC :=
 (.reg [1,2,3,21] [I 20 (.mv (.s 1)),I 21 (.bin .lss (.s 20) (V 0))])
def p_node_choose_7:PC :=
 (.reg [6,7,8] [I 6 (.mv (V 0)),I 7 (.mv (V 0)),I 8 (.mv (V 3))])
def p_node_choose_8:PC :=
 (.reg [1,2,23,24,25] [I 22 (.fadr 2 (.s 3)),I 23 (.ld false 1 (.s 22)),I 24 (.len 1 (.s 23)),I 25 (.mv (V 0))])
def p_node_choose_9:PC :=
 (.reg [1,2,23,24,25,26] [I 26 (.bin .lss (.s 25) (.s 24))])
def p_node_choose_10:PC :=
 (.reg [1,2,10,11,23,24,25] [I 27 (.mv (.s 25)),I 28 (.ixS 4 (.s 23) (.s 25)),I 29 (.ld true 4 (.s 28)),I 11 (.box (.v ZK)),I 10 (.mv (.s 27)),J (.st 4 (.s 11) (.s 29))])
def p_node_choose_11:PC :=
 (.reg [1,2,10,11,23,24,25,35] [I 30 (.mv (.s 1)),I 31 (.mv (.s 2)),I 32 (.fadr 1 (.s 11)),I 33 (.ld true 3 (.s 32)),I 34 (.call .norm (.s 31) [(.s 33)]),I 35 (.bin .lss (.s 30) (.s 34))])
def p_node_choose_12:PC :=
 (.reg [6,7,8] [I 36 (.mv (.s 10)),I 37 (.mv (.s 1)),I 6 (.mv (.s 36)),I 7 (.mv (.s 37)),I 8 (.mv (V 0))])
def p_node_choose_13:PC :=
 (.reg [1,2,23,24,25] [I 38 (.mv (.s 1)),I 39 (.mv (.s 2)),I 40 (.fadr 1 (.s 11)),I 41 (.ld true 3 (.s 40)),I 42 (.call .norm (.s 39) [(.s 41)]),I 43 (.bin .sub (.s 38) (.s 42)),I 1 (.mv (.s 43))])
def p_node_choose_14:PC :=
 (.reg [1,2,23,24,25] [I 44 (.bin .add (.s 25) (V 1)),I 25 (.mv (.s 44))])
def p_node_choose_15:PC :=
 (.seq p_node_choose_9
 (.seq (.ite (.s 26)
 .skip
 (.exit 0))
 (.seq (.block 1
 (.seq p_node_choose_10
 (.seq (.seq p_node_choose_11
 (.ite (.s 35)
 (.seq p_node_choose_12
 .ret)
 .skip))
 p_node_choose_13)))
 p_node_choose_14)))
def p_node_choose_16:PC :=
 (.reg [6,7,8] [I 6 (.mv (V 0)),I 7 (.mv (V 0)),I 8 (.mv (V 3))])
def p_node_choose:PF:=⟨false,
 (.seq p_node_choose_0
 (.seq (.seq p_node_choose_1
 (.seq p_node_choose_2
 (.ite (.s 15)
 (.seq p_node_choose_3
 .ret)
 .skip)))
 (.seq (.seq p_node_choose_4
 (.ite (.s 19)
 (.seq p_node_choose_5
 .ret)
 .skip))
 (.seq (.seq p_node_choose_6
 (.ite (.s 21)
 (.seq p_node_choose_7
 .ret)
 .skip))
 (.seq (.seq p_node_choose_8
 (.block 0
 (.loop p_node_choose_15)))
 (.seq p_node_choose_16
 .ret)))))),
 [.s 6,.s 7,.s 8]⟩
theorem c_node_choose:compF Go.Proofs.Tryz.prog false h_node_choose Go.Proofs.Tryz.f208=some p_node_choose:=by kernel_rfl
def h_node_LineC1:List Hint:=[H [1],H [2]]
def p_node_LineC1_0:PC :=
 (.reg [1] [I 1 (.box (.s 0)),I 2 (.mv (V 0))])
def p_node_LineC1_1:PC :=
 (.reg [2] [I 3 (.fadr 0 (.s 1)),I 4 (.ld false 1 (.s 3)),I 2 (.mv (.s 4))])
def p_node_LineC1:PF:=⟨false,
 (.seq p_node_LineC1_0
 (.seq p_node_LineC1_1
 .ret)),
 [.s 2]⟩
theorem c_node_LineC1:compF Go.Proofs.Tryz.prog false h_node_LineC1 Go.Proofs.Tryz.f209=some p_node_LineC1:=by kernel_rfl
def h_node_LineC2:List Hint:=[H [1],H [2]]
def p_node_LineC2_0:PC :=
 (.reg [1] [I 1 (.box (.s 0)),I 2 (.mv (V 0))])
def p_node_LineC2_1:PC :=
 (.reg [2] [I 3 (.fadr 2 (.s 1)),I 4 (.ld false 1 (.s 3)),I 2 (.mv (.s 4))])
def p_node_LineC2:PF:=⟨false,
 (.seq p_node_LineC2_0
 (.seq p_node_LineC2_1
 .ret)),
 [.s 2]⟩
theorem c_node_LineC2:compF Go.Proofs.Tryz.prog false h_node_LineC2 Go.Proofs.Tryz.f210=some p_node_LineC2:=by kernel_rfl
def h_measure_find:List Hint:=[H [0,1,2],H [0,1,2,10,11],H [0,1,2,10,11,12],H [0,1,2,8,10,11],H [0,1,2,8,10,11,19],H [0,1,2,8,10,11,21],H [6,7],H [0,1,2,10,11],H [0,1,2,10,11],H [6,7]]
def p_measure_find_0:PC :=
 (.reg [0,1,2] [I 6 (.mv (V 0)),I 7 (.mv (.v (.bool false)))])
def p_measure_find_1:PC :=
 (.reg [0,1,2,10,11] [I 9 (.mv (.s 0)),I 10 (.len 0 (.s 9)),I 11 (.mv (V 0))])
def p_measure_find_2:PC :=
 (.reg [0,1,2,10,11,12] [I 12 (.bin .lss (.s 11) (.s 10))])
def p_measure_find_3:PC :=
 (.reg [0,1,2,8,10,11] [I 13 (.mv (.s 11)),I 8 (.mv (.s 13))])
def p_measure_find_4:PC :=
 (.reg [0,1,2,8,10,11,19] [I 14 (.mv (.s 1)),I 15 (.mv (.s 0)),I 16 (.mv (.s 8)),I 17 (.ixStr (.s 15) (.s 16)),I 18 (.call .norm (.s 14) [(.s 17)]),I 19 (.un .not (.s 18))])
def p_measure_find_5:PC :=
 (.reg [0,1,2,8,10,11,21] [I 20 (.mv (.s 2)),I 21 (.bin .eql (.s 20) (V 0))])
def p_measure_find_6:PC :=
 (.reg [6,7] [I 22 (.mv (.s 8)),I 6 (.mv (.s 22)),I 7 (.mv (.v (.bool true)))])
def p_measure_find_7:PC :=
 (.reg [0,1,2,10,11] [I 23 (.mv (.s 2)),I 24 (.bin .sub (.s 23) (V 1)),I 2 (.mv (.s 24))])
def p_measure_find_8:PC :=
 (.reg [0,1,2,10,11] [I 25 (.bin .add (.s 11) (V 1)),I 11 (.mv (.s 25))])
def p_measure_find_9:PC :=
 (.seq p_measure_find_2
 (.seq (.ite (.s 12)
 .skip
 (.exit 0))
 (.seq (.block 1
 (.seq p_measure_find_3
 (.seq (.seq p_measure_find_4
 (.ite (.s 19)
 (.exit 1)
 .skip))
 (.seq (.seq p_measure_find_5
 (.ite (.s 21)
 (.seq p_measure_find_6
 .ret)
 .skip))
 p_measure_find_7))))
 p_measure_find_8)))
def p_measure_find_10:PC :=
 (.reg [6,7] [I 6 (.mv (V 0)),I 7 (.mv (.v (.bool false)))])
def p_measure_find:PF:=⟨false,
 (.seq p_measure_find_0
 (.seq (.seq p_measure_find_1
 (.block 0
 (.loop p_measure_find_9)))
 (.seq p_measure_find_10
 .ret))),
 [.s 6,.s 7]⟩
theorem c_measure_find:compF Go.Proofs.Tryz.prog false h_measure_find Go.Proofs.Tryz.f211=some p_measure_find:=by kernel_rfl
def h_rope_nodesC1:List Hint:=[H [1,2,3],H [1,2,3,4],H [2,4],H [2,4,8],H []]
def p_rope_nodesC1_0:PC :=
 (.reg [1,2,3] [I 3 (.box (.s 0))])
def p_rope_nodesC1_1:PC :=
 (.reg [1,2,3,4] [I 4 (.box (.v .nilfunc))])
def p_rope_nodesC1_2:PC :=
 (.reg [2,4] [I 5 (.mkf (.func F_rope_nodesC1C1) [] [(.s 1),(.s 3),(.s 4)]),J (.st 1 (.s 4) (.s 5))])
def p_rope_nodesC1_3:PC :=
 (.reg [2,4,8] [I 6 (.fadr 0 (.s 2)),I 7 (.ld false 1 (.s 6)),I 8 (.bin .neq (.s 7) (.v (.int .u64 0)))])
def p_rope_nodesC1_4:PC :=
 (.reg [] [I 9 (.ld false 1 (.s 4)),I 10 (.fadr 0 (.s 2)),I 11 (.ld false 1 (.s 10)),I 12 (.call .norm (.s 9) [(.s 11)])])
def p_rope_nodesC1:PF:=⟨false,
 (.seq p_rope_nodesC1_0
 (.seq p_rope_nodesC1_1
 (.seq p_rope_nodesC1_2
 (.seq p_rope_nodesC1_3
 (.ite (.s 8)
 p_rope_nodesC1_4
 .skip))))),
 []⟩
theorem c_rope_nodesC1:compF Go.Proofs.Tryz.prog false h_rope_nodesC1 Go.Proofs.Tryz.f212=some p_rope_nodesC1:=by kernel_rfl
def h_rope_nodesC1C1:List Hint:=[H [0,1,2,3],H [0,2,3,6,7],H [3,6,26],H [5],H [3,28,29,30],H [3,28,29,30,31],H [3,9,28,29,30],H [3,28,29,30,38],H [5],H [3,28,29,30],H [5]]
def p_rope_nodesC1C1_0:PC :=
 (.reg [0,1,2,3] [I 5 (.mv (.v (.bool false)))])
def p_rope_nodesC1C1_1:PC :=
 (.reg [0,2,3,6,7] [I 11 (.ld false 1 (.s 1)),I 12 (.mv (.s 0)),I 13 (C F_arena_Arena_Get [(.s 11),(.s 12)]),I 10 (.mv (.s 13)),I 14 (.ext (.s 10) 0),I 15 (.ext (.s 10) 1),I 6 (.box (.v ZN)),J (.st 3 (.s 6) (.s 14)),I 7 (.mv (.s 15))])
def p_rope_nodesC1C1_2:PC :=
 (.reg [3,6,26] [I 16 (.ld false 1 (.s 2)),I 17 (.mv (.s 0)),I 18 (.ld true 3 (.s 6)),I 19 (.mv (.s 7)),I 20 (.build [(.int .i64 0),(.str []),.nils,(.int .i64 0)] [(0,3,(.s 18)),(3,1,(.s 19))]),I 21 (.call .norm (.s 16) [(.s 17),(.s 20)]),I 22 (.un .not (.s 21)),I 23 (.mv (.s 22)),G 24 23 false (.mv (.s 7)),G 25 23 false (.bin .neq (.s 24) (V 0)),I 26 (.pick (.s 23) (.v (.bool true)) (.s 25))])
def p_rope_nodesC1C1_3:PC :=
 (.reg [5] [I 5 (.mv (.v (.bool false)))])
def p_rope_nodesC1C1_4:PC :=
 (.reg [3,28,29,30] [I 27 (.fadr 2 (.s 6)),I 28 (.ld false 1 (.s 27)),I 29 (.len 1 (.s 28)),I 30 (.mv (V 0))])
def p_rope_nodesC1C1_5:PC :=
 (.reg [3,28,29,30,31] [I 31 (.bin .lss (.s 30) (.s 29))])
def p_rope_nodesC1C1_6:PC :=
 (.reg [3,9,28,29,30] [I 32 (.ixS 4 (.s 28) (.s 30)),I 33 (.ld true 4 (.s 32)),I 9 (.box (.v ZK)),J (.st 4 (.s 9) (.s 33))])
def p_rope_nodesC1C1_7:PC :=
 (.reg [3,28,29,30,38] [I 34 (.ld false 1 (.s 3)),I 35 (.fadr 0 (.s 9)),I 36 (.ld false 1 (.s 35)),I 37 (.call .norm (.s 34) [(.s 36)]),I 38 (.un .not (.s 37))])
def p_rope_nodesC1C1_8:PC :=
 (.reg [5] [I 5 (.mv (.v (.bool false)))])
def p_rope_nodesC1C1_9:PC :=
 (.reg [3,28,29,30] [I 39 (.bin .add (.s 30) (V 1)),I 30 (.mv (.s 39))])
def p_rope_nodesC1C1_10:PC :=
 (.seq p_rope_nodesC1C1_5
 (.seq (.ite (.s 31)
 .skip
 (.exit 0))
 (.seq (.block 1
 (.seq p_rope_nodesC1C1_6
 (.seq p_rope_nodesC1C1_7
 (.ite (.s 38)
 (.seq p_rope_nodesC1C1_8
 .ret)
 .skip))))
 p_rope_nodesC1C1_9)))
def p_rope_nodesC1C1_11:PC :=
 (.reg [5] [I 5 (.mv (.v (.bool true)))])
def p_rope_nodesC1C1:PF:=⟨false,
 (.seq p_rope_nodesC1C1_0
 (.seq p_rope_nodesC1C1_1
 (.seq (.seq p_rope_nodesC1C1_2
 (.ite (.s 26)
 (.seq p_rope_nodesC1C1_3
 .ret)
 .skip))
 (.seq (.seq p_rope_nodesC1C1_4
 (.block 0
 (.loop p_rope_nodesC1C1_10)))
 (.seq p_rope_nodesC1C1_11
 .ret))))),
 [.s 5]⟩
theorem c_rope_nodesC1C1:compF Go.Proofs.Tryz.prog false h_rope_nodesC1C1 Go.Proofs.Tryz.f213=some p_rope_nodesC1C1:=by kernel_rfl
def h_seek_LeafC1:List Hint:=[H []]
def p_seek_LeafC1_0:PC :=
 (.reg [] [I 1 (.box (.s 0))])
def p_seek_LeafC1:PF:=⟨false,
 p_seek_LeafC1_0,
 []⟩
theorem c_seek_LeafC1:compF Go.Proofs.Tryz.prog false h_seek_LeafC1 Go.Proofs.Tryz.f214=some p_seek_LeafC1:=by kernel_rfl
def h_measure_begins:List Hint:=[H [0],H [2]]
def p_measure_begins_0:PC :=
 (.reg [0] [I 2 (.mv (.v (.bool false)))])
def p_measure_begins_1:PC :=
 (.reg [2] [I 3 (.mv (.s 0)),I 4 (.bin .lss (.s 3) (.v (.int .u8 128))),I 5 (.mv (.s 4)),G 6 5 false (.mv (.s 0)),G 7 5 false (.bin .gtr (.s 6) (.v (.int .u8 191))),I 8 (.pick (.s 5) (.v (.bool true)) (.s 7)),I 2 (.mv (.s 8))])
def p_measure_begins:PF:=⟨false,
 (.seq p_measure_begins_0
 (.seq p_measure_begins_1
 .ret)),
 [.s 2]⟩
theorem c_measure_begins:compF Go.Proofs.Tryz.prog false h_measure_begins Go.Proofs.Tryz.f215=some p_measure_begins:=by kernel_rfl
def h_rope_Pen_add:List Hint:=[H [0,3],H [0,3,5],H [0,3,5,80],H [0,3,5,95],H [0,5,6],H [0,5,6],H [5],⟨[0,3,5,7],[0],[],[],[],[]⟩,H [0,3,5,7,20,21,22],H [0,3,5,7,20,21,22,23],H [0,3,5,7,9,20,21,22],H [0,3,5,7,10,20,21,22],⟨[0,3,5,7,10,20,21,22],[2],[],[],[],[]⟩,H [0,3,5,7,10,20,21,22],H [0,3,5,7,10,20,21,22],H [0,3,5,7,20,21,22],H [0,3,5,7,20,21,22],H [5],H [4]]
def p_rope_Pen_add_0:PC :=
 (.reg [0,3] [I 3 (.box (.s 1)),I 4 (.mv (.v .nilptr))])
def p_rope_Pen_add_1:PC :=
 (.reg [0,3,5] [I 11 (.fadr 1 (.s 3)),I 12 (.ld false 1 (.s 11)),I 13 (.fadr 2 (.s 3)),I 14 (.ld true 3 (.s 13)),I 15 (.fadr 0 (.s 3)),I 16 (.ld false 1 (.s 15)),I 17 (.build [(.int .u64 0),(.int .i64 0),(.int .i64 0),(.int .i64 0),(.int .i64 0)] [(1,1,(.s 12)),(2,3,(.s 14)),(0,1,(.s 16))]),I 18 (.box (.s 17)),I 5 (.mv (.s 18))])
def p_rope_Pen_add_2:PC :=
 (.reg [0,3,5,80] [I 81 (.fadr 0 (.s 3)),I 82 (.ld false 1 (.s 81)),I 83 (.bin .neq (.s 82) (.v (.int .u64 0))),I 84 (.mv (.s 83)),G 85 84 false (.fadr 5 (.s 3)),G 86 84 false (.ld false 1 (.s 85)),G 87 84 false (.bin .eql (.s 86) (.v (.str []))),G 88 84 false (.mv (.s 87)),G 89 88 true (.fadr 6 (.s 3)),G 90 88 true (.ld false 1 (.s 89)),G 91 88 true (.len 1 (.s 90)),G 92 88 true (.bin .eql (.s 91) (V 0)),G 93 84 false (.pick (.s 88) (.s 92) (.v (.bool false))),I 94 (.pick (.s 84) (.v (.bool true)) (.s 93)),I 80 (.mv (.s 94))])
def p_rope_Pen_add_3:PC :=
 (.reg [0,3,5,95] [I 96 (.fadr 1 (.s 3)),I 97 (.ld false 1 (.s 96)),I 98 (.bin .eql (.s 97) (V 0)),I 95 (.mv (.s 98))])
def p_rope_Pen_add_4:PC :=
 (.reg [0,5,6] [I 99 (.fadr 5 (.s 3)),I 100 (.ld false 1 (.s 99)),I 101 (.build [(.int .i64 0),(.str []),.nils] [(1,1,(.s 100))]),I 6 (.box (.v ZN)),J (.st 3 (.s 6) (.s 101))])
def p_rope_Pen_add_5:PC :=
 (.reg [0,5,6] [I 103 (.mv (.s 5)),I 104 (.ld true 3 (.s 6)),I 105 (C F_node_Measure [(.s 104)]),I 102 (.mv (.s 105)),I 106 (.ext (.s 102) 0),I 107 (.ext (.s 102) 1),I 108 (.nilck (.s 103)),I 109 (.fadr 2 (.s 108)),J (.st 3 (.s 109) (.s 106))])
def p_rope_Pen_add_6:PC :=
 (.reg [5] [I 110 (.mv (.s 0)),I 111 (.mv (.s 5)),I 112 (.mkf (.func F_rope_Pen_addC1) [] [(.s 6)]),I 113 (C F_rope_Pen_put [(.s 110),(.s 111),(.s 112)])])
def p_rope_Pen_add_7:PC :=
 (.reg [0,3,5,7] [I 7 (.boxnil 1)])
def p_rope_Pen_add_8:PC :=
 (.reg [0,3,5,7,20,21,22] [I 19 (.fadr 6 (.s 3)),I 20 (.ld false 1 (.s 19)),I 21 (.len 1 (.s 20)),I 22 (.mv (V 0))])
def p_rope_Pen_add_9:PC :=
 (.reg [0,3,5,7,20,21,22,23] [I 23 (.bin .lss (.s 22) (.s 21))])
def p_rope_Pen_add_10:PC :=
 (.reg [0,3,5,7,9,20,21,22] [I 24 (.ixS 7 (.s 20) (.s 22)),I 25 (.ld true 7 (.s 24)),I 9 (.box (.v ZT)),J (.st 7 (.s 9) (.s 25))])
def p_rope_Pen_add_11:PC :=
 (.reg [0,3,5,7,10,20,21,22] [I 26 (.mv (.s 0)),I 27 (.ld true 7 (.s 9)),I 28 (C F_rope_Pen_add [(.s 26),(.s 27)]),I 10 (.mv (.s 28))])
def p_rope_Pen_add_12:PC :=
 (.reg [0,3,5,7,10,20,21,22] [I 29 (.ld false 1 (.s 7)),I 30 (.mv (.s 10)),I 31 (.bslice true 1 [.nilptr] [(0,(.s 30))]),I 32 (.app 1 8 (.s 29) (.s 31)),J (.st 1 (.s 7) (.s 32))])
def p_rope_Pen_add_13:PC :=
 (.reg [0,3,5,7,10,20,21,22] [I 33 (.mv (.s 5)),I 34 (.nilck (.s 33)),I 35 (.fadr 2 (.s 34)),I 36 (.fadr 0 (.s 35)),I 37 (.ld false 1 (.s 36)),I 38 (.mv (.s 10)),I 39 (.nilck (.s 38)),I 40 (.fadr 2 (.s 39)),I 41 (.fadr 0 (.s 40)),I 42 (.ld false 1 (.s 41)),I 43 (.bin .add (.s 37) (.s 42)),I 44 (.nilck (.s 33)),I 45 (.fadr 2 (.s 44)),I 46 (.fadr 0 (.s 45)),J (.st 1 (.s 46) (.s 43))])
def p_rope_Pen_add_14:PC :=
 (.reg [0,3,5,7,10,20,21,22] [I 47 (.mv (.s 5)),I 48 (.nilck (.s 47)),I 49 (.fadr 2 (.s 48)),I 50 (.fadr 1 (.s 49)),I 51 (.ld false 1 (.s 50)),I 52 (.mv (.s 10)),I 53 (.nilck (.s 52)),I 54 (.fadr 2 (.s 53)),I 55 (.fadr 1 (.s 54)),I 56 (.ld false 1 (.s 55)),I 57 (.bin .add (.s 51) (.s 56)),I 58 (.nilck (.s 47)),I 59 (.fadr 2 (.s 58)),I 60 (.fadr 1 (.s 59)),J (.st 1 (.s 60) (.s 57))])
def p_rope_Pen_add_15:PC :=
 (.reg [0,3,5,7,20,21,22] [I 61 (.mv (.s 5)),I 62 (.nilck (.s 61)),I 63 (.fadr 2 (.s 62)),I 64 (.fadr 2 (.s 63)),I 65 (.ld false 1 (.s 64)),I 66 (.mv (.s 10)),I 67 (.nilck (.s 66)),I 68 (.fadr 2 (.s 67)),I 69 (.fadr 2 (.s 68)),I 70 (.ld false 1 (.s 69)),I 71 (.bin .add (.s 65) (.s 70)),I 72 (.nilck (.s 61)),I 73 (.fadr 2 (.s 72)),I 74 (.fadr 2 (.s 73)),J (.st 1 (.s 74) (.s 71))])
def p_rope_Pen_add_16:PC :=
 (.reg [0,3,5,7,20,21,22] [I 75 (.bin .add (.s 22) (V 1)),I 22 (.mv (.s 75))])
def p_rope_Pen_add_17:PC :=
 (.seq p_rope_Pen_add_9
 (.seq (.ite (.s 23)
 .skip
 (.exit 1))
 (.seq (.block 2
 (.seq p_rope_Pen_add_10
 (.seq p_rope_Pen_add_11
 (.seq p_rope_Pen_add_12
 (.seq p_rope_Pen_add_13
 (.seq p_rope_Pen_add_14
 p_rope_Pen_add_15))))))
 p_rope_Pen_add_16)))
def p_rope_Pen_add_18:PC :=
 (.reg [5] [I 76 (.mv (.s 0)),I 77 (.mv (.s 5)),I 78 (.mkf (.func F_rope_Pen_addC2) [] [(.s 3),(.s 7)]),I 79 (C F_rope_Pen_put [(.s 76),(.s 77),(.s 78)])])
def p_rope_Pen_add_19:PC :=
 (.reg [4] [I 114 (.mv (.s 5)),I 4 (.mv (.s 114))])
def p_rope_Pen_add:PF:=⟨true,
 (.seq p_rope_Pen_add_0
 (.seq p_rope_Pen_add_1
 (.seq (.block 0
 (.seq p_rope_Pen_add_2
 (.ite (.s 80)
 .skip
 (.seq p_rope_Pen_add_3
 (.ite (.s 95)
 (.seq p_rope_Pen_add_4
 (.seq p_rope_Pen_add_5
 p_rope_Pen_add_6))
 (.seq p_rope_Pen_add_7
 (.seq (.seq p_rope_Pen_add_8
 (.block 1
 (.loop p_rope_Pen_add_17)))
 p_rope_Pen_add_18)))))))
 (.seq p_rope_Pen_add_19
 .ret)))),
 [.s 4]⟩
theorem c_rope_Pen_add:compF Go.Proofs.Tryz.prog true h_rope_Pen_add Go.Proofs.Tryz.f221=some p_rope_Pen_add:=by kernel_rfl
def h_handle_Slot:List Hint:=[H [0],H [0,4],H [0,4,10],H [2,3],H [5],H [2,3]]
def p_handle_Slot_0:PC :=
 (.reg [0] [I 2 (.mv (V 0)),I 3 (.mv (V 0))])
def p_handle_Slot_1:PC :=
 (.reg [0,4] [I 7 (.mv (.s 0)),I 8 (C F_handle_Check [(.s 7)]),I 4 (.mv (.s 8))])
def p_handle_Slot_2:PC :=
 (.reg [0,4,10] [I 9 (.mv (.s 4)),I 10 (.bin .neq (.s 9) (V 0))])
def p_handle_Slot_3:PC :=
 (.reg [2,3] [I 11 (.mv (.s 4)),I 2 (.mv (V 0)),I 3 (.mv (.s 11))])
def p_handle_Slot_4:PC :=
 (.reg [5] [I 13 (.mv (.s 0)),I 14 (C F_handle_parts [(.s 13)]),I 12 (.mv (.s 14)),I 15 (.ext (.s 12) 0),I 16 (.ext (.s 12) 1),I 5 (.mv (.s 15)),I 6 (.mv (.s 16))])
def p_handle_Slot_5:PC :=
 (.reg [2,3] [I 17 (.mv (.s 5)),I 2 (.mv (.s 17)),I 3 (.mv (V 0))])
def p_handle_Slot:PF:=⟨false,
 (.seq p_handle_Slot_0
 (.seq (.seq p_handle_Slot_1
 (.seq p_handle_Slot_2
 (.ite (.s 10)
 (.seq p_handle_Slot_3
 .ret)
 .skip)))
 (.seq p_handle_Slot_4
 (.seq p_handle_Slot_5
 .ret)))),
 [.s 2,.s 3]⟩
theorem c_handle_Slot:compF Go.Proofs.Tryz.prog false h_handle_Slot Go.Proofs.Tryz.f227=some p_handle_Slot:=by kernel_rfl
def h_handle_Gen:List Hint:=[H [0],H [0,4],H [0,4,10],H [2,3],H [6],H [2,3]]
def p_handle_Gen_0:PC :=
 (.reg [0] [I 2 (.mv (.v (.int .u64 0))),I 3 (.mv (V 0))])
def p_handle_Gen_1:PC :=
 (.reg [0,4] [I 7 (.mv (.s 0)),I 8 (C F_handle_Check [(.s 7)]),I 4 (.mv (.s 8))])
def p_handle_Gen_2:PC :=
 (.reg [0,4,10] [I 9 (.mv (.s 4)),I 10 (.bin .neq (.s 9) (V 0))])
def p_handle_Gen_3:PC :=
 (.reg [2,3] [I 11 (.mv (.s 4)),I 2 (.mv (.v (.int .u64 0))),I 3 (.mv (.s 11))])
def p_handle_Gen_4:PC :=
 (.reg [6] [I 13 (.mv (.s 0)),I 14 (C F_handle_parts [(.s 13)]),I 12 (.mv (.s 14)),I 15 (.ext (.s 12) 0),I 16 (.ext (.s 12) 1),I 5 (.mv (.s 15)),I 6 (.mv (.s 16))])
def p_handle_Gen_5:PC :=
 (.reg [2,3] [I 17 (.mv (.s 6)),I 2 (.mv (.s 17)),I 3 (.mv (V 0))])
def p_handle_Gen:PF:=⟨false,
 (.seq p_handle_Gen_0
 (.seq (.seq p_handle_Gen_1
 (.seq p_handle_Gen_2
 (.ite (.s 10)
 (.seq p_handle_Gen_3
 .ret)
 .skip)))
 (.seq p_handle_Gen_4
 (.seq p_handle_Gen_5
 .ret)))),
 [.s 2,.s 3]⟩
theorem c_handle_Gen:compF Go.Proofs.Tryz.prog false h_handle_Gen Go.Proofs.Tryz.f228=some p_handle_Gen:=by kernel_rfl
def h_node_bounds:List Hint:=[H [0],H [0,2,3],H [2,3,4,5],H [2,3,4,5,6],H [2,3,4,5],H [2,3,4,5],H [2,3,4,5],H [2,3]]
def p_node_bounds_0:PC :=
 (.reg [0] [I 2 (.mv (V 0)),I 3 (.mv (V 0))])
def p_node_bounds_1:PC :=
 (.reg [0,2,3] [I 2 (.mv (V 8)),I 3 (.mv (V 16))])
def p_node_bounds_2:PC :=
 (.reg [2,3,4,5] [I 4 (.mv (.s 0)),I 5 (.mv (V 0))])
def p_node_bounds_3:PC :=
 (.reg [2,3,4,5,6] [I 6 (.bin .lss (.s 5) (.s 4))])
def p_node_bounds_4:PC :=
 (.reg [2,3,4,5] [I 7 (.mv (.s 2)),I 8 (.bin .mul (.s 7) (V 2)),I 2 (.mv (.s 8))])
def p_node_bounds_5:PC :=
 (.reg [2,3,4,5] [I 9 (.mv (.s 3)),I 10 (.bin .mul (.s 9) (V 4)),I 11 (.mnx false (.s 10) (V 65536)),I 3 (.mv (.s 11))])
def p_node_bounds_6:PC :=
 (.reg [2,3,4,5] [I 12 (.bin .add (.s 5) (V 1)),I 5 (.mv (.s 12))])
def p_node_bounds_7:PC :=
 (.seq p_node_bounds_3
 (.seq (.ite (.s 6)
 .skip
 (.exit 0))
 (.seq (.block 1
 (.seq p_node_bounds_4
 p_node_bounds_5))
 p_node_bounds_6)))
def p_node_bounds_8:PC :=
 (.reg [2,3] [I 13 (.mv (.s 2)),I 14 (.mv (.s 3)),I 15 (.mnx false (.s 14) (V 65536)),I 2 (.mv (.s 13)),I 3 (.mv (.s 15))])
def p_node_bounds:PF:=⟨false,
 (.seq p_node_bounds_0
 (.seq p_node_bounds_1
 (.seq (.seq p_node_bounds_2
 (.block 0
 (.loop p_node_bounds_7)))
 (.seq p_node_bounds_8
 .ret)))),
 [.s 2,.s 3]⟩
theorem c_node_bounds:compF Go.Proofs.Tryz.prog false h_node_bounds Go.Proofs.Tryz.f229=some p_node_bounds:=by kernel_rfl
def h_handle_Check:List Hint:=[H [0],H [3,4],H [19],H [2],H [2]]
def p_handle_Check_0:PC :=
 (.reg [0] [I 2 (.mv (V 0))])
def p_handle_Check_1:PC :=
 (.reg [3,4] [I 6 (.mv (.s 0)),I 7 (C F_handle_parts [(.s 6)]),I 5 (.mv (.s 7)),I 8 (.ext (.s 5) 0),I 9 (.ext (.s 5) 1),I 3 (.mv (.s 8)),I 4 (.mv (.s 9))])
def p_handle_Check_2:PC :=
 (.reg [19] [I 10 (.mv (.s 3)),I 11 (.bin .geq (.s 10) (V 16384)),I 12 (.mv (.s 11)),G 13 12 false (.mv (.s 4)),G 14 12 false (.bin .lss (.s 13) (.v (.int .u64 1))),I 15 (.pick (.s 12) (.v (.bool true)) (.s 14)),I 16 (.mv (.s 15)),G 17 16 false (.mv (.s 4)),G 18 16 false (.bin .gtr (.s 17) (.v (.int .u64 4294967295))),I 19 (.pick (.s 16) (.v (.bool true)) (.s 18))])
def p_handle_Check_3:PC :=
 (.reg [2] [I 2 (.mv (V 2))])
def p_handle_Check_4:PC :=
 (.reg [2] [I 2 (.mv (V 0))])
def p_handle_Check:PF:=⟨false,
 (.seq p_handle_Check_0
 (.seq (.seq p_handle_Check_1
 (.seq p_handle_Check_2
 (.ite (.s 19)
 (.seq p_handle_Check_3
 .ret)
 .skip)))
 (.seq p_handle_Check_4
 .ret))),
 [.s 2]⟩
theorem c_handle_Check:compF Go.Proofs.Tryz.prog false h_handle_Check Go.Proofs.Tryz.f230=some p_handle_Check:=by kernel_rfl
def h_measure_Of:List Hint:=[H [0,2],H [0,2,3],H [0,2,3,6,7],H [0,2,3,6,7,8],H [0,2,3,4,5,6,7],H [0,2,3,6,7],H [0,2,3,6,7],H [2]]
def p_measure_Of_0:PC :=
 (.reg [0,2] [I 2 (.box (.v ZM))])
def p_measure_Of_1:PC :=
 (.reg [0,2,3] [I 3 (.box (.v ZM))])
def p_measure_Of_2:PC :=
 (.reg [0,2,3,6,7] [I 6 (.build [.nilfunc,.nilfunc,.nilfunc] [(0,1,(.v (.func (.func F_measure_every) [] []))),(1,1,(.v (.func (.func F_measure_begins) [] []))),(2,1,(.v (.func (.func F_measure_feeds) [] [])))]),I 7 (.mv (V 0))])
def p_measure_Of_3:PC :=
 (.reg [0,2,3,6,7,8] [I 8 (.bin .lss (.s 7) (V 3))])
def p_measure_Of_4:PC :=
 (.reg [0,2,3,4,5,6,7] [I 9 (.mv (.s 7)),I 10 (.ixArr false 3 1 (.s 6) (.s 7)),I 4 (.mv (.s 9)),I 5 (.mv (.s 10))])
def p_measure_Of_5:PC :=
 (.reg [0,2,3,6,7] [I 11 (.mv (.s 4)),I 12 (.mv (.s 0)),I 13 (.mv (.s 5)),I 14 (C F_measure_count [(.s 12),(.s 13)]),I 15 (.ixA 3 1 (.s 3) (.s 11)),J (.st 1 (.s 15) (.s 14))])
def p_measure_Of_6:PC :=
 (.reg [0,2,3,6,7] [I 16 (.bin .add (.s 7) (V 1)),I 7 (.mv (.s 16))])
def p_measure_Of_7:PC :=
 (.seq p_measure_Of_3
 (.seq (.ite (.s 8)
 .skip
 (.exit 0))
 (.seq (.block 1
 (.seq p_measure_Of_4
 p_measure_Of_5))
 p_measure_Of_6)))
def p_measure_Of_8:PC :=
 (.reg [2] [I 17 (.ld true 3 (.s 3)),I 18 (C F_measure_measured [(.s 17)]),J (.st 3 (.s 2) (.s 18))])
def p_measure_Of:PF:=⟨false,
 (.seq p_measure_Of_0
 (.seq p_measure_Of_1
 (.seq (.seq p_measure_Of_2
 (.block 0
 (.loop p_measure_Of_7)))
 (.seq p_measure_Of_8
 .ret)))),
 [.c 2 true 3]⟩
theorem c_measure_Of:compF Go.Proofs.Tryz.prog false h_measure_Of Go.Proofs.Tryz.f231=some p_measure_Of:=by kernel_rfl
def h_measure_Add:List Hint:=[H [0,2],H [0,2,3],H [2,3,8,9,10],H [2,3,8,9,10,11],H [2,3,5,8,9,10],H [2,3,8,9,10,20,21],H [2,3,8,9,10,20,21,22],H [2,3,6,7,8,9,10,20,21],H [2,3,8,9,10,20,21],H [2,3,8,9,10,20,21],H [2,3,8,9,10],H [2]]
def p_measure_Add_0:PC :=
 (.reg [0,2] [I 2 (.box (.v ZM))])
def p_measure_Add_1:PC :=
 (.reg [0,2,3] [I 3 (.box (.v ZM))])
def p_measure_Add_2:PC :=
 (.reg [2,3,8,9,10] [I 8 (.mv (.s 0)),I 9 (.len 1 (.s 8)),I 10 (.mv (V 0))])
def p_measure_Add_3:PC :=
 (.reg [2,3,8,9,10,11] [I 11 (.bin .lss (.s 10) (.s 9))])
def p_measure_Add_4:PC :=
 (.reg [2,3,5,8,9,10] [I 12 (.ixS 3 (.s 8) (.s 10)),I 13 (.ld true 3 (.s 12)),I 5 (.box (.v ZM)),J (.st 3 (.s 5) (.s 13))])
def p_measure_Add_5:PC :=
 (.reg [2,3,8,9,10,20,21] [I 14 (.fadr 0 (.s 5)),I 15 (.ld false 1 (.s 14)),I 16 (.fadr 1 (.s 5)),I 17 (.ld false 1 (.s 16)),I 18 (.fadr 2 (.s 5)),I 19 (.ld false 1 (.s 18)),I 20 (.build [(.int .i64 0),(.int .i64 0),(.int .i64 0)] [(0,1,(.s 15)),(1,1,(.s 17)),(2,1,(.s 19))]),I 21 (.mv (V 0))])
def p_measure_Add_6:PC :=
 (.reg [2,3,8,9,10,20,21,22] [I 22 (.bin .lss (.s 21) (V 3))])
def p_measure_Add_7:PC :=
 (.reg [2,3,6,7,8,9,10,20,21] [I 23 (.mv (.s 21)),I 24 (.ixArr false 3 1 (.s 20) (.s 21)),I 6 (.mv (.s 23)),I 7 (.mv (.s 24))])
def p_measure_Add_8:PC :=
 (.reg [2,3,8,9,10,20,21] [I 25 (.mv (.s 6)),I 26 (.ixA 3 1 (.s 3) (.s 25)),I 27 (.ld false 1 (.s 26)),I 28 (.mv (.s 7)),I 29 (.bin .add (.s 27) (.s 28)),I 30 (.ixA 3 1 (.s 3) (.s 25)),J (.st 1 (.s 30) (.s 29))])
def p_measure_Add_9:PC :=
 (.reg [2,3,8,9,10,20,21] [I 31 (.bin .add (.s 21) (V 1)),I 21 (.mv (.s 31))])
def p_measure_Add_10:PC :=
 (.seq p_measure_Add_6
 (.seq (.ite (.s 22)
 .skip
 (.exit 2))
 (.seq (.block 3
 (.seq p_measure_Add_7
 p_measure_Add_8))
 p_measure_Add_9)))
def p_measure_Add_11:PC :=
 (.reg [2,3,8,9,10] [I 32 (.bin .add (.s 10) (V 1)),I 10 (.mv (.s 32))])
def p_measure_Add_12:PC :=
 (.seq p_measure_Add_3
 (.seq (.ite (.s 11)
 .skip
 (.exit 0))
 (.seq (.block 1
 (.seq p_measure_Add_4
 (.seq p_measure_Add_5
 (.block 2
 (.loop p_measure_Add_10)))))
 p_measure_Add_11)))
def p_measure_Add_13:PC :=
 (.reg [2] [I 33 (.ld true 3 (.s 3)),I 34 (C F_measure_measured [(.s 33)]),J (.st 3 (.s 2) (.s 34))])
def p_measure_Add:PF:=⟨false,
 (.seq p_measure_Add_0
 (.seq p_measure_Add_1
 (.seq (.seq p_measure_Add_2
 (.block 0
 (.loop p_measure_Add_12)))
 (.seq p_measure_Add_13
 .ret)))),
 [.c 2 true 3]⟩
theorem c_measure_Add:compF Go.Proofs.Tryz.prog false h_measure_Add Go.Proofs.Tryz.f232=some p_measure_Add:=by kernel_rfl
def h_node_ChildC1:List Hint:=[H [1],H [2]]
def p_node_ChildC1_0:PC :=
 (.reg [1] [I 1 (.box (.s 0)),I 2 (.mv (V 0))])
def p_node_ChildC1_1:PC :=
 (.reg [2] [I 3 (.fadr 0 (.s 1)),I 4 (.ld false 1 (.s 3)),I 2 (.mv (.s 4))])
def p_node_ChildC1:PF:=⟨false,
 (.seq p_node_ChildC1_0
 (.seq p_node_ChildC1_1
 .ret)),
 [.s 2]⟩
theorem c_node_ChildC1:compF Go.Proofs.Tryz.prog false h_node_ChildC1 Go.Proofs.Tryz.f235=some p_node_ChildC1:=by kernel_rfl
def h_measure_count:List Hint:=[H [0,1],H [0,1,5],H [0,1,5,8,9],H [0,1,5,8,9,10],H [0,1,5,6,8,9],H [0,1,5,8,9,16],H [0,1,5,8,9],H [0,1,5,8,9],H [4]]
def p_measure_count_0:PC :=
 (.reg [0,1] [I 4 (.mv (V 0))])
def p_measure_count_1:PC :=
 (.reg [0,1,5] [I 5 (.mv (V 0))])
def p_measure_count_2:PC :=
 (.reg [0,1,5,8,9] [I 7 (.mv (.s 0)),I 8 (.len 0 (.s 7)),I 9 (.mv (V 0))])
def p_measure_count_3:PC :=
 (.reg [0,1,5,8,9,10] [I 10 (.bin .lss (.s 9) (.s 8))])
def p_measure_count_4:PC :=
 (.reg [0,1,5,6,8,9] [I 11 (.mv (.s 9)),I 6 (.mv (.s 11))])
def p_measure_count_5:PC :=
 (.reg [0,1,5,8,9,16] [I 12 (.mv (.s 1)),I 13 (.mv (.s 0)),I 14 (.mv (.s 6)),I 15 (.ixStr (.s 13) (.s 14)),I 16 (.call .norm (.s 12) [(.s 15)])])
def p_measure_count_6:PC :=
 (.reg [0,1,5,8,9] [I 17 (.mv (.s 5)),I 18 (.bin .add (.s 17) (V 1)),I 5 (.mv (.s 18))])
def p_measure_count_7:PC :=
 (.reg [0,1,5,8,9] [I 19 (.bin .add (.s 9) (V 1)),I 9 (.mv (.s 19))])
def p_measure_count_8:PC :=
 (.seq p_measure_count_3
 (.seq (.ite (.s 10)
 .skip
 (.exit 0))
 (.seq (.block 1
 (.seq p_measure_count_4
 (.seq p_measure_count_5
 (.ite (.s 16)
 p_measure_count_6
 .skip))))
 p_measure_count_7)))
def p_measure_count_9:PC :=
 (.reg [4] [I 20 (.mv (.s 5)),I 4 (.mv (.s 20))])
def p_measure_count:PF:=⟨false,
 (.seq p_measure_count_0
 (.seq p_measure_count_1
 (.seq (.seq p_measure_count_2
 (.block 0
 (.loop p_measure_count_8)))
 (.seq p_measure_count_9
 .ret)))),
 [.s 4]⟩
theorem c_measure_count:compF Go.Proofs.Tryz.prog false h_measure_count Go.Proofs.Tryz.f236=some p_measure_count:=by kernel_rfl
def h_rope_Pen_put:List Hint:=[H [3,4,5],⟨[],[6],[],[],[(0,(.only (.s 3))),(7,(.grow (.s 3)))],[]⟩]
def p_rope_Pen_put_0:PC :=
 (.reg [3,4,5] [I 3 (.box (.s 0)),I 4 (.box (.s 1)),I 5 (.box (.s 2))])
def p_rope_Pen_put_1:PC :=
 (.reg [] [I 6 (.w (.only (.s 3)) (.ld false 1 (.s 3))),I 7 (.ld false 1 (.s 3)),I 8 (.nilck (.s 7)),I 9 (.fadr 1 (.s 8)),I 10 (.ld false 1 (.s 9)),I 11 (.mkf (.func F_rope_Pen_putC1) [] [(.s 3),(.s 5),(.s 4)]),I 12 (.bslice true 1 [.nilfunc] [(0,(.s 11))]),I 13 (.w (.grow (.s 3)) (.app 1 8 (.s 10) (.s 12))),I 14 (.nilck (.s 6)),I 15 (.fadr 1 (.s 14)),J (.st 1 (.s 15) (.s 13))])
def p_rope_Pen_put:PF:=⟨true,
 (.seq p_rope_Pen_put_0
 p_rope_Pen_put_1),
 []⟩
theorem c_rope_Pen_put:compF Go.Proofs.Tryz.prog true h_rope_Pen_put Go.Proofs.Tryz.f239=some p_rope_Pen_put:=by kernel_rfl
def h_rope_Pen_addC1:List Hint:=[H [0,1],H [1]]
def p_rope_Pen_addC1_0:PC :=
 (.reg [0,1] [I 1 (.box (.v ZN))])
def p_rope_Pen_addC1_1:PC :=
 (.reg [1] [I 2 (.ld true 3 (.s 0)),J (.st 3 (.s 1) (.s 2))])
def p_rope_Pen_addC1:PF:=⟨false,
 (.seq p_rope_Pen_addC1_0
 (.seq p_rope_Pen_addC1_1
 .ret)),
 [.c 1 true 3]⟩
theorem c_rope_Pen_addC1:compF Go.Proofs.Tryz.prog false h_rope_Pen_addC1 Go.Proofs.Tryz.f240=some p_rope_Pen_addC1:=by kernel_rfl
def h_rope_Pen_addC2:List Hint:=[H [0,1,2],H [1,2,3],H [2,3,9,10,11],H [2,3,9,10,11,12],H [2,3,5,9,10,11],⟨[2,3,9,10,11],[],[],[],[(11,.imm)],[]⟩,H [2,3,9,10,11],H [2]]
def p_rope_Pen_addC2_0:PC :=
 (.reg [0,1,2] [I 2 (.box (.v ZN))])
def p_rope_Pen_addC2_1:PC :=
 (.reg [1,2,3] [I 6 (.fadr 1 (.s 0)),I 7 (.ld false 1 (.s 6)),I 8 (.build [(.int .i64 0),(.str []),.nils] [(0,1,(.s 7))]),I 3 (.box (.v ZN)),J (.st 3 (.s 3) (.s 8))])
def p_rope_Pen_addC2_2:PC :=
 (.reg [2,3,9,10,11] [I 9 (.ld false 1 (.s 1)),I 10 (.len 1 (.s 9)),I 11 (.mv (V 0))])
def p_rope_Pen_addC2_3:PC :=
 (.reg [2,3,9,10,11,12] [I 12 (.bin .lss (.s 11) (.s 10))])
def p_rope_Pen_addC2_4:PC :=
 (.reg [2,3,5,9,10,11] [I 13 (.ixS 1 (.s 9) (.s 11)),I 14 (.ld false 1 (.s 13)),I 5 (.mv (.s 14))])
def p_rope_Pen_addC2_5:PC :=
 (.reg [2,3,9,10,11] [I 15 (.fadr 2 (.s 3)),I 16 (.ld false 1 (.s 15)),I 17 (.mv (.s 5)),I 18 (.nilck (.s 17)),I 19 (.fadr 0 (.s 18)),I 20 (.ld false 1 (.s 19)),I 21 (.mv (.s 5)),I 22 (.nilck (.s 21)),I 23 (.fadr 2 (.s 22)),I 24 (.ld true 3 (.s 23)),I 25 (.build [(.int .u64 0),(.int .i64 0),(.int .i64 0),(.int .i64 0)] [(0,1,(.s 20)),(1,3,(.s 24))]),I 26 (.w .imm (.bslice false 4 [ZK] [(0,(.s 25))])),I 27 (.app 4 32 (.s 16) (.s 26)),I 28 (.fadr 2 (.s 3)),J (.st 1 (.s 28) (.s 27))])
def p_rope_Pen_addC2_6:PC :=
 (.reg [2,3,9,10,11] [I 29 (.bin .add (.s 11) (V 1)),I 11 (.mv (.s 29))])
def p_rope_Pen_addC2_7:PC :=
 (.seq p_rope_Pen_addC2_3
 (.seq (.ite (.s 12)
 .skip
 (.exit 0))
 (.seq (.block 1
 (.seq p_rope_Pen_addC2_4
 p_rope_Pen_addC2_5))
 p_rope_Pen_addC2_6)))
def p_rope_Pen_addC2_8:PC :=
 (.reg [2] [I 30 (.ld true 3 (.s 3)),J (.st 3 (.s 2) (.s 30))])
def p_rope_Pen_addC2:PF:=⟨false,
 (.seq p_rope_Pen_addC2_0
 (.seq p_rope_Pen_addC2_1
 (.seq (.seq p_rope_Pen_addC2_2
 (.block 0
 (.loop p_rope_Pen_addC2_7)))
 (.seq p_rope_Pen_addC2_8
 .ret)))),
 [.c 2 true 3]⟩
theorem c_rope_Pen_addC2:compF Go.Proofs.Tryz.prog false h_rope_Pen_addC2 Go.Proofs.Tryz.f241=some p_rope_Pen_addC2:=by kernel_rfl
def h_handle_parts:List Hint:=[H [0],H [2,3]]
def p_handle_parts_0:PC :=
 (.reg [0] [I 2 (.mv (V 0)),I 3 (.mv (.v (.int .u64 0)))])
def p_handle_parts_1:PC :=
 (.reg [2,3] [I 4 (.mv (.s 0)),I 5 (.bin .and (.s 4) (.v (.int .u64 65535))),I 6 (.cint .i64 (.s 5)),I 7 (.mv (.s 0)),I 8 (.bin .shr (.s 7) (.v (.int .u64 16))),I 2 (.mv (.s 6)),I 3 (.mv (.s 8))])
def p_handle_parts:PF:=⟨false,
 (.seq p_handle_parts_0
 (.seq p_handle_parts_1
 .ret)),
 [.s 2,.s 3]⟩
theorem c_handle_parts:compF Go.Proofs.Tryz.prog false h_handle_parts Go.Proofs.Tryz.f244=some p_handle_parts:=by kernel_rfl
def h_measure_every:List Hint:=[H [],H [2]]
def p_measure_every_0:PC :=
 (.reg [] [I 2 (.mv (.v (.bool false)))])
def p_measure_every_1:PC :=
 (.reg [2] [I 2 (.mv (.v (.bool true)))])
def p_measure_every:PF:=⟨false,
 (.seq p_measure_every_0
 (.seq p_measure_every_1
 .ret)),
 [.s 2]⟩
theorem c_measure_every:compF Go.Proofs.Tryz.prog false h_measure_every Go.Proofs.Tryz.f245=some p_measure_every:=by kernel_rfl
def h_measure_measured:List Hint:=[H [1,2],H [1,2,5],H [2],H [2]]
def p_measure_measured_0:PC :=
 (.reg [1,2] [I 1 (.box (.s 0)),I 2 (.box (.v ZM))])
def p_measure_measured_1:PC :=
 (.reg [1,2,5] [I 3 (.ld true 3 (.s 1)),I 4 (.build [(.int .i64 0),(.int .i64 0),(.int .i64 0)] []),I 5 (.eqs false 0 [(0,0),(1,0),(2,0)] (.s 3) (.s 4))])
def p_measure_measured_2:PC :=
 (.reg [2] [I 6 (.build [(.int .i64 0),(.int .i64 0),(.int .i64 0)] []),J (.st 3 (.s 2) (.s 6))])
def p_measure_measured_3:PC :=
 (.reg [2] [I 7 (.ixA 3 1 (.s 1) (V 0)),I 8 (.ld false 1 (.s 7)),I 9 (.ixA 3 1 (.s 1) (V 1)),I 10 (.ld false 1 (.s 9)),I 11 (.ixA 3 1 (.s 1) (V 2)),I 12 (.ld false 1 (.s 11)),I 13 (.build [(.int .i64 0),(.int .i64 0),(.int .i64 0)] [(0,1,(.s 8)),(1,1,(.s 10)),(2,1,(.s 12))]),J (.st 3 (.s 2) (.s 13))])
def p_measure_measured:PF:=⟨false,
 (.seq p_measure_measured_0
 (.seq (.seq p_measure_measured_1
 (.ite (.s 5)
 (.seq p_measure_measured_2
 .ret)
 .skip))
 (.seq p_measure_measured_3
 .ret))),
 [.c 2 true 3]⟩
theorem c_measure_measured:compF Go.Proofs.Tryz.prog false h_measure_measured Go.Proofs.Tryz.f246=some p_measure_measured:=by kernel_rfl
def h_rope_Pen_putC1:List Hint:=[H [0,1,2],⟨[2,5,6],[],[(5,.pure)],[],[],[]⟩,H [2,5,6,18],H [5,6],H [3,4]]
def p_rope_Pen_putC1_0:PC :=
 (.reg [0,1,2] [I 3 (.mv (.v (.int .u64 0))),I 4 (.mv (V 0))])
def p_rope_Pen_putC1_1:PC :=
 (.reg [2,5,6] [I 8 (.ld false 1 (.s 0)),I 9 (.nilck (.s 8)),I 10 (.fadr 0 (.s 9)),I 11 (.ld false 1 (.s 10)),I 12 (.ld false 1 (.s 1)),I 13 (.call .pure (.s 12) []),I 14 (C F_arena_Arena_Alloc [(.s 11),(.s 13)]),I 7 (.mv (.s 14)),I 15 (.ext (.s 7) 0),I 16 (.ext (.s 7) 1),I 5 (.mv (.s 15)),I 6 (.mv (.s 16))])
def p_rope_Pen_putC1_2:PC :=
 (.reg [2,5,6,18] [I 17 (.mv (.s 6)),I 18 (.bin .eql (.s 17) (V 0))])
def p_rope_Pen_putC1_3:PC :=
 (.reg [5,6] [I 19 (.ld false 1 (.s 2)),I 20 (.mv (.s 5)),I 21 (.nilck (.s 19)),I 22 (.fadr 0 (.s 21)),J (.st 1 (.s 22) (.s 20))])
def p_rope_Pen_putC1_4:PC :=
 (.reg [3,4] [I 23 (.mv (.s 5)),I 24 (.mv (.s 6)),I 3 (.mv (.s 23)),I 4 (.mv (.s 24))])
def p_rope_Pen_putC1:PF:=⟨false,
 (.seq p_rope_Pen_putC1_0
 (.seq p_rope_Pen_putC1_1
 (.seq (.seq p_rope_Pen_putC1_2
 (.ite (.s 18)
 p_rope_Pen_putC1_3
 .skip))
 (.seq p_rope_Pen_putC1_4
 .ret)))),
 [.s 3,.s 4]⟩
theorem c_rope_Pen_putC1:compF Go.Proofs.Tryz.prog false h_rope_Pen_putC1 Go.Proofs.Tryz.f249=some p_rope_Pen_putC1:=by kernel_rfl
end Go.QZ
