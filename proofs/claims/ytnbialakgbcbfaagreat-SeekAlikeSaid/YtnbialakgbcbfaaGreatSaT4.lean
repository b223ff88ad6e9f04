/- Resolved code, printed by program. No condition. -/
import Derived.Test.YtnbialakgbcbfaaGreatProg
import Derived.KernelRfl
import Derived.Test.YtnbialakgbcbfaaGreatSaT3
set_option linter.unusedVariables false
set_option linter.unusedSimpArgs false
namespace Go.Q15
open Go Go.QAbs
set_option maxRecDepth 100000
abbrev F_gosem_cut:FuncId:=1
abbrev F_gosem_cut_init:FuncId:=2
abbrev F_quartolaw15_PlanPlays:FuncId:=3
abbrev F_quartolaw17_SeekMatches:FuncId:=4
abbrev F_quartolaw17_SeekAlike:FuncId:=5
abbrev F_quartolaw18_SliceMatches:FuncId:=6
abbrev F_quartolaw18_SliceCuts:FuncId:=7
abbrev F_quartolaw19_EditMatches:FuncId:=8
abbrev F_quartolaw15_Long:FuncId:=9
abbrev F_quartolaw15_many:FuncId:=10
abbrev F_quartolaw15_works:FuncId:=11
abbrev F_quartolaw15_Lay:FuncId:=12
abbrev F_quartolaw15_Laid_both:FuncId:=13
abbrev F_plan_Text:FuncId:=14
abbrev F_quartoref15_Words:FuncId:=15
abbrev F_plan_New:FuncId:=16
abbrev F_quartoref15_New:FuncId:=17
abbrev F_quartokit_EqualHandles:FuncId:=18
abbrev F_plan_Kept:FuncId:=19
abbrev F_quartoref15_Kept:FuncId:=20
abbrev F_plan_Dropped:FuncId:=21
abbrev F_quartoref15_Dropped:FuncId:=22
abbrev F_arena_Arena_Stats:FuncId:=23
abbrev F_quartoref13_Arena_Stats:FuncId:=24
abbrev F_quartolaw16_Beyond:FuncId:=25
abbrev F_quartolaw17_works:FuncId:=26
abbrev F_quartolaw16_Both:FuncId:=27
abbrev F_quartolaw16_Choice_Root:FuncId:=28
abbrev F_seek_Leaf:FuncId:=29
abbrev F_quartoref17_Leaf:FuncId:=30
abbrev F_seek_Byte:FuncId:=31
abbrev F_quartoref17_Byte:FuncId:=32
abbrev F_seek_Rune:FuncId:=33
abbrev F_quartoref17_Rune:FuncId:=34
abbrev F_seek_RunesBefore:FuncId:=35
abbrev F_quartoref17_RunesBefore:FuncId:=36
abbrev F_seek_Line:FuncId:=37
abbrev F_quartoref17_Line:FuncId:=38
abbrev F_seek_LineOf:FuncId:=39
abbrev F_quartoref17_LineOf:FuncId:=40
abbrev F_seek_Boundary:FuncId:=41
abbrev F_quartoref17_Boundary:FuncId:=42
abbrev F_quartolaw16_Slots:FuncId:=43
abbrev F_quartolaw16_Make:FuncId:=44
abbrev F_quartolaw16_Pick:FuncId:=45
abbrev F_arena_New:FuncId:=46
abbrev F_rope_New:FuncId:=47
abbrev F_quartolaw17_same:FuncId:=48
abbrev F_quartolaw18_wide:FuncId:=49
abbrev F_quartolaw18_works:FuncId:=50
abbrev F_slice_Compare:FuncId:=51
abbrev F_quartoref18_Compare:FuncId:=52
abbrev F_slice_Read:FuncId:=53
abbrev F_quartoref18_Read:FuncId:=54
abbrev F_slice_Pieces:FuncId:=55
abbrev F_quartoref18_Pieces:FuncId:=56
abbrev F_quartokit_EqualStrings:FuncId:=57
abbrev F_slice_Measure:FuncId:=58
abbrev F_quartoref18_Measure:FuncId:=59
abbrev F_slice_Find:FuncId:=60
abbrev F_quartoref18_Find:FuncId:=61
abbrev F_slice_Copy:FuncId:=62
abbrev F_quartoref18_Copy:FuncId:=63
abbrev F_quartokit_EqualChange:FuncId:=64
abbrev F_quartolaw19_wide:FuncId:=65
abbrev F_quartolaw19_works:FuncId:=66
abbrev F_edit_Plan:FuncId:=67
abbrev F_quartoref19_Plan:FuncId:=68
abbrev F_quartoref15_Same:FuncId:=69
abbrev F_edit_Needs:FuncId:=70
abbrev F_quartoref19_Needs:FuncId:=71
abbrev F_edit_Replace:FuncId:=72
abbrev F_quartoref19_Replace:FuncId:=73
abbrev F_edit_Insert:FuncId:=74
abbrev F_edit_Delete:FuncId:=75
abbrev F_edit_Append:FuncId:=76
abbrev F_quartoref19_Append:FuncId:=77
abbrev F_plan_Build:FuncId:=78
abbrev F_quartoref13_New:FuncId:=79
abbrev F_quartoref15_Built:FuncId:=80
abbrev F_quartolaw15_Write:FuncId:=81
abbrev F_arena_Arena_Alloc:FuncId:=82
abbrev F_quartoref13_Arena_Alloc:FuncId:=83
abbrev F_quartolaw15_pick:FuncId:=84
abbrev F_plan_Keep:FuncId:=85
abbrev F_quartoref15_Keep:FuncId:=86
abbrev F_quartoref15_Bytes:FuncId:=87
abbrev F_plan_Concat:FuncId:=88
abbrev F_quartoref15_Concat:FuncId:=89
abbrev F_plan_Merge:FuncId:=90
abbrev F_quartoref15_Merge:FuncId:=91
abbrev F_quartolaw15_trees:FuncId:=92
abbrev F_plan_Cut:FuncId:=93
abbrev F_quartoref15_Parts:FuncId:=94
abbrev F_plan_Replace:FuncId:=95
abbrev F_quartoref15_Replaced:FuncId:=96
abbrev F_quartoref15_Copy:FuncId:=97
abbrev F_plan_Check:FuncId:=98
abbrev F_plan_TextC1:FuncId:=99
abbrev F_plan_line:FuncId:=100
abbrev F_plan_children:FuncId:=101
abbrev F_plan_kind:FuncId:=102
abbrev F_quartoref15_node:FuncId:=103
abbrev F_quartoref15_Kids:FuncId:=104
abbrev F_quartoref15_Zero:FuncId:=105
abbrev F_plan_KeptC1:FuncId:=106
abbrev F_quartoref15_Once:FuncId:=107
abbrev F_quartoref15_kepts:FuncId:=108
abbrev F_plan_below:FuncId:=109
abbrev F_plan_DroppedC1:FuncId:=110
abbrev F_plan_DroppedC2:FuncId:=111
abbrev F_quartoref15_Root:FuncId:=112
abbrev F_quartoref15_Check:FuncId:=113
abbrev F_quartoref15_Without:FuncId:=114
abbrev F_quartoref15_Under:FuncId:=115
abbrev F_quartoref15_Kept1:FuncId:=116
abbrev F_freelist_List_Free:FuncId:=117
abbrev F_freelist_List_Withdrawn:FuncId:=118
abbrev F_quartolaw16_Many:FuncId:=119
abbrev F_quartolaw17_small:FuncId:=120
abbrev F_quartolaw16_pick:FuncId:=121
abbrev F_rope_Write:FuncId:=122
abbrev F_quartoref16_Write:FuncId:=123
abbrev F_seek_check:FuncId:=124
abbrev F_seek_walk:FuncId:=125
abbrev F_node_Child:FuncId:=126
abbrev F_seek_LeafC1:FuncId:=127
abbrev F_quartoref17_words:FuncId:=128
abbrev F_seek_offset:FuncId:=129
abbrev F_node_Rune:FuncId:=130
abbrev F_measure_Rune:FuncId:=131
abbrev F_quartoref02_Rune:FuncId:=132
abbrev F_seek_before:FuncId:=133
abbrev F_seek_RunesBeforeC1:FuncId:=134
abbrev F_measure_RunesBefore:FuncId:=135
abbrev F_quartoref02_RunesBefore:FuncId:=136
abbrev F_node_Line:FuncId:=137
abbrev F_measure_Line:FuncId:=138
abbrev F_quartoref02_Line:FuncId:=139
abbrev F_seek_LineOfC1:FuncId:=140
abbrev F_measure_LineOf:FuncId:=141
abbrev F_quartoref02_LineOf:FuncId:=142
abbrev F_quartoref01_Boundary:FuncId:=143
abbrev F_quartolaw16_slots:FuncId:=144
abbrev F_quartolaw16_laid:FuncId:=145
abbrev F_quartolaw16_plans:FuncId:=146
abbrev F_freelist_New:FuncId:=147
abbrev F_quartolaw17_sameC1:FuncId:=148
abbrev F_quartolaw18_small:FuncId:=149
abbrev F_strings_Compare:FuncId:=150
abbrev F_quartoref18_words:FuncId:=151
abbrev F_strings_Join:FuncId:=152
abbrev F_quartoref18_ranged:FuncId:=153
abbrev F_slice_check:FuncId:=154
abbrev F_slice_parts:FuncId:=155
abbrev F_quartoref16_Leaves:FuncId:=156
abbrev F_quartoref02_Of:FuncId:=157
abbrev F_strings_Index:FuncId:=158
abbrev F_quartoref18_Change:FuncId:=159
abbrev F_quartolaw19_small:FuncId:=160
abbrev F_rope_Text:FuncId:=161
abbrev F_quartoref15_Replace:FuncId:=162
abbrev F_edit_change:FuncId:=163
abbrev F_edit_ReplaceC1:FuncId:=164
abbrev F_edit_AppendC1:FuncId:=165
abbrev F_chunk_Chunks:FuncId:=166
abbrev F_chunk_Even:FuncId:=167
abbrev F_plan_group:FuncId:=168
abbrev F_quartoref11_New:FuncId:=169
abbrev F_quartoref14_Chunks:FuncId:=170
abbrev F_quartoref15_leaf:FuncId:=171
abbrev F_quartoref14_Sizes:FuncId:=172
abbrev F_quartoref15_inner:FuncId:=173
abbrev F_quartoref15_group:FuncId:=174
abbrev F_quartolaw15_Measure:FuncId:=175
abbrev F_node_Check:FuncId:=176
abbrev F_node_Measure:FuncId:=177
abbrev F_freelist_List_Take:FuncId:=178
abbrev F_slices_Clone_api_Kid_api_Kid:FuncId:=179
abbrev F_quartoref12_Check:FuncId:=180
abbrev F_quartoref13_Arena_kids:FuncId:=181
abbrev F_quartoref11_List_Take:FuncId:=182
abbrev F_quartoref12_CopyNode:FuncId:=183
abbrev F_plan_same:FuncId:=184
abbrev F_plan_both:FuncId:=185
abbrev F_plan_concat:FuncId:=186
abbrev F_plan_own:FuncId:=187
abbrev F_quartoref15_pair:FuncId:=188
abbrev F_quartoref15_Joined:FuncId:=189
abbrev F_plan_merge:FuncId:=190
abbrev F_plan_all:FuncId:=191
abbrev F_quartoref15_Merged:FuncId:=192
abbrev F_plan_bytes:FuncId:=193
abbrev F_plan_cut:FuncId:=194
abbrev F_plan_check:FuncId:=195
abbrev F_arena_Arena_Get:FuncId:=196
abbrev F_quartoref15_Has:FuncId:=197
abbrev F_quartoref15_is:FuncId:=198
abbrev F_quartoref15_faults:FuncId:=199
abbrev F_freelist_List_slots:FuncId:=200
abbrev F_rope_Begin:FuncId:=201
abbrev F_rope_Pen_Step:FuncId:=202
abbrev F_rope_Pen_Root:FuncId:=203
abbrev F_quartoref16_Begin:FuncId:=204
abbrev F_quartoref16_Pen_Step:FuncId:=205
abbrev F_quartoref16_Pen_Root:FuncId:=206
abbrev F_node_choose:FuncId:=207
abbrev F_node_ChildC1:FuncId:=208
abbrev F_quartoref16_Words:FuncId:=209
abbrev F_seek_offsetC1:FuncId:=210
abbrev F_node_RuneC1:FuncId:=211
abbrev F_measure_find:FuncId:=212
abbrev F_measure_begins:FuncId:=213
abbrev F_measure_count:FuncId:=214
abbrev F_quartoref01_Count:FuncId:=215
abbrev F_quartoref01_Cont:FuncId:=216
abbrev F_seek_beforeC1:FuncId:=217
abbrev F_measure_before:FuncId:=218
abbrev F_node_LineC1:FuncId:=219
abbrev F_node_LineC2:FuncId:=220
abbrev F_measure_feeds:FuncId:=221
abbrev F_arena_Arena_Slots:FuncId:=222
abbrev F_quartoref13_Arena_Slots:FuncId:=223
abbrev F_quartokit_EqualInts:FuncId:=224
abbrev F_arena_Arena_Handles:FuncId:=225
abbrev F_quartoref13_Arena_Handles:FuncId:=226
abbrev F_internal_bytealg_CompareString:FuncId:=227
abbrev F_strings_Builder_WriteString:FuncId:=229
abbrev F_slice_partsC1:FuncId:=231
abbrev F_quartoref16_Check:FuncId:=232
abbrev F_quartoref16_Sequence:FuncId:=233
abbrev F_quartoref13_Arena_Get:FuncId:=234
abbrev F_internal_stringslite_Index:FuncId:=235
abbrev F_rope_Leaves:FuncId:=236
abbrev F_chunk_sizes:FuncId:=237
abbrev F_node_formed:FuncId:=238
abbrev F_node_sum:FuncId:=239
abbrev F_handle_Make:FuncId:=240
abbrev F_quartoref12_formed:FuncId:=241
abbrev F_quartoref12_sum:FuncId:=242
abbrev F_quartoref13_Arena_find:FuncId:=243
abbrev F_quartoref12_Measure:FuncId:=244
abbrev F_quartoref10_Make:FuncId:=245
abbrev F_quartokit_CopyKids:FuncId:=246
abbrev F_plan_leaves:FuncId:=247
abbrev F_plan_fold:FuncId:=248
abbrev F_quartoref14_Join:FuncId:=249
abbrev F_quartoref15_nodes:FuncId:=250
abbrev F_chunk_Cut:FuncId:=251
abbrev F_quartoref15_formed:FuncId:=252
abbrev F_rope_Pen_add:FuncId:=253
abbrev F_quartoref16_items:FuncId:=254
abbrev F_quartoref16_root:FuncId:=255
abbrev F_quartoref11_List_Free:FuncId:=256
abbrev F_quartoref11_List_Withdrawn:FuncId:=257
abbrev F_freelist_List_Handles:FuncId:=258
abbrev F_quartoref11_List_Handles:FuncId:=259
abbrev F_internal_bytealg_abigen_runtime_cmpstring:FuncId:=260
abbrev F_strings_Builder_copyCheck:FuncId:=261
abbrev F_quartoref13_Arena_Live:FuncId:=263
abbrev F_internal_stringslite_IndexByte:FuncId:=264
abbrev F_internal_bytealg_Cutover:FuncId:=266
abbrev F_internal_bytealg_IndexRabinKarp_string:FuncId:=267
abbrev F_rope_Check:FuncId:=268
abbrev F_rope_nodes:FuncId:=269
abbrev F_chunk_sizesC1:FuncId:=270
abbrev F_node_bounds:FuncId:=271
abbrev F_handle_Check:FuncId:=272
abbrev F_measure_Of:FuncId:=273
abbrev F_measure_Add:FuncId:=274
abbrev F_quartoref12_kid:FuncId:=275
abbrev F_chunk_Join:FuncId:=276
abbrev F_quartoref14_Leaf:FuncId:=277
abbrev F_chunk_leaf:FuncId:=278
abbrev F_rope_Pen_put:FuncId:=279
abbrev F_rope_Pen_addC1:FuncId:=280
abbrev F_rope_Pen_addC2:FuncId:=281
abbrev F_internal_bytealg_IndexByteString:FuncId:=284
abbrev F_internal_bytealg_hashStr_string:FuncId:=285
abbrev F_rope_nodesC1:FuncId:=286
abbrev F_rope_nodesC1C1:FuncId:=287
abbrev F_handle_parts:FuncId:=288
abbrev F_measure_every:FuncId:=289
abbrev F_measure_measured:FuncId:=290
abbrev F_quartoref10_Check:FuncId:=291
abbrev F_rope_Pen_putC1:FuncId:=292
abbrev I (d:Nat) (o:PO):PI:=⟨some d,none,false,o⟩
abbrev G (d g:Nat) (b:Bool) (o:PO):PI:=⟨some d,some (g,b),false,o⟩
abbrev J (o:PO):PI:=⟨none,none,false,o⟩
abbrev C (f:FuncId) (a:List Opd):PO:=.call .norm (.v (.func (.func f) [] [])) a
abbrev H (k:List Nat):Hint:=⟨k,[],[],[],[],[]⟩
abbrev V (i:Int):Opd:=.v (.int .i64 i)
abbrev ZT:AV:=.agg [(.int .u64 0),(.int .i64 0),(.int .i64 0),(.int .i64 0),(.int .i64 0),(.str []),.nils]
abbrev ZR:AV:=.agg [(.int .u64 0),(.int .i64 0),(.int .i64 0),(.int .i64 0),(.int .i64 0)]
abbrev ZM:AV:=.agg [(.int .i64 0),(.int .i64 0),(.int .i64 0)]
abbrev ZN:AV:=.agg [(.int .i64 0),(.str []),.nils]
abbrev ZK:AV:=.agg [(.int .u64 0),(.int .i64 0),(.int .i64 0),(.int .i64 0)]
def h_quartolaw17_SeekAlike:List Hint:=[H [0,1,2,3],H [0,1,2,3,32],H [8],H [2,3,9,10,11,12],H [2,3,9,10,11,43],H [8],H [2,3,9,10,11,46],H [8],H [3,9,10,11,13],H [3,9,10,11,13,14,15],H [3,9,10,11,13,14,62],H [8],H [3,9,10,13,14,15,16],H [3,9,10,13,14,15,16,73],H [8],H [3,9,14,16,17],H [3,9,14,16,17,87],H [8],H [3,9,14,16,17,18],H [3,9,14,16,17,18,91],H [3,9,14,16,17,18,19,20],H [3,9,14,16,17,18,19,20,21,22],H [3,9,14,16,17,18,121],H [8],⟨[3,9,14,16,17,18,211],[],[(6,.pure),(9,.pure),(28,.pure),(31,.pure),(51,.pure),(54,.pure),(74,.pure),(77,.pure)],[],[],[]⟩,H [8],H [3,9,14,16,17,18,20,23],H [3,9,14,16,17,18,20,22,23,24],H [3,9,14,16,17,18,239],H [8],H [3,9,14,16,17,18],H [8]]
def p_quartolaw17_SeekAlike_0:PC :=
 (.reg [0,1,2,3] [I 8 (.mv (.v (.bool false)))])
def p_quartolaw17_SeekAlike_1:PC :=
 (.reg [0,1,2,3,32] [I 25 (.mv (.s 0)),I 26 (.mv (.s 1)),I 27 (C F_quartolaw16_Beyond [(.s 25),(.s 26)]),I 28 (.mv (.s 27)),G 29 28 false (.mv (.s 3)),G 30 28 false (.len 1 (.s 29)),G 31 28 false (.bin .gtr (.s 30) (V 20)),I 32 (.pick (.s 28) (.v (.bool true)) (.s 31))])
def p_quartolaw17_SeekAlike_2:PC :=
 (.reg [8] [I 33 (C F_quartolaw17_works []),I 8 (.mv (.s 33))])
def p_quartolaw17_SeekAlike_3:PC :=
 (.reg [2,3,9,10,11,12] [I 35 (.mv (.s 0)),I 36 (.mv (.s 1)),I 37 (C F_quartolaw16_Make [(.s 35),(.s 36)]),I 34 (.mv (.s 37)),I 38 (.ext (.s 34) 0),I 39 (.ext (.s 34) 1),I 40 (.ext (.s 34) 2),I 41 (.ext (.s 34) 3),I 9 (.mv (.s 38)),I 10 (.mv (.s 39)),I 11 (.mv (.s 40)),I 12 (.mv (.s 41))])
def p_quartolaw17_SeekAlike_4:PC :=
 (.reg [2,3,9,10,11,43] [I 42 (.mv (.s 12)),I 43 (.un .not (.s 42))])
def p_quartolaw17_SeekAlike_5:PC :=
 (.reg [8] [I 8 (.mv (.v (.bool false)))])
def p_quartolaw17_SeekAlike_6:PC :=
 (.reg [2,3,9,10,11,46] [I 44 (.mv (.s 10)),I 45 (.len 1 (.s 44)),I 46 (.bin .eql (.s 45) (V 0))])
def p_quartolaw17_SeekAlike_7:PC :=
 (.reg [8] [I 47 (C F_quartolaw17_works []),I 8 (.mv (.s 47))])
def p_quartolaw17_SeekAlike_8:PC :=
 (.reg [3,9,10,11,13] [I 48 (.mv (.s 2)),I 49 (.mv (.s 10)),I 50 (.len 1 (.s 49)),I 51 (.bin .sub (.s 50) (V 1)),I 52 (C F_quartolaw16_Pick [(.s 48),(.s 51)]),I 13 (.mv (.s 52))])
def p_quartolaw17_SeekAlike_9:PC :=
 (.reg [3,9,10,11,13,14,15] [I 54 (C F_arena_New [(V 2000),(.v (.int .u64 1))]),I 53 (.mv (.s 54)),I 55 (.ext (.s 53) 0),I 56 (.ext (.s 53) 1),I 14 (.mv (.s 55)),I 15 (.mv (.s 56))])
def p_quartolaw17_SeekAlike_10:PC :=
 (.reg [3,9,10,11,13,14,62] [I 57 (.mv (.s 14)),I 58 (.eqs false 3 [] (.s 57) (.v .nilptr)),I 59 (.mv (.s 58)),G 60 59 false (.mv (.s 15)),G 61 59 false (.bin .neq (.s 60) (V 0)),I 62 (.pick (.s 59) (.v (.bool true)) (.s 61))])
def p_quartolaw17_SeekAlike_11:PC :=
 (.reg [8] [I 8 (.mv (.v (.bool false)))])
def p_quartolaw17_SeekAlike_12:PC :=
 (.reg [3,9,10,13,14,15,16] [I 64 (.mv (.s 14)),I 65 (.mv (.s 11)),I 66 (.mv (.s 13)),I 67 (.ixS 1 (.s 65) (.s 66)),I 68 (.ld false 1 (.s 67)),I 69 (C F_rope_New [(.s 64),(.s 68)]),I 63 (.mv (.s 69)),I 70 (.ext (.s 63) 0),I 71 (.ext (.s 63) 1),I 16 (.box (.v ZR)),J (.st 5 (.s 16) (.s 70)),I 15 (.mv (.s 71))])
def p_quartolaw17_SeekAlike_13:PC :=
 (.reg [3,9,10,13,14,15,16,73] [I 72 (.mv (.s 15)),I 73 (.bin .neq (.s 72) (V 0))])
def p_quartolaw17_SeekAlike_14:PC :=
 (.reg [8] [I 74 (.mv (.s 15)),I 75 (.bin .eql (.s 74) (V 6)),I 76 (.mv (.s 75)),G 77 76 true (C F_quartolaw17_works []),I 78 (.pick (.s 76) (.s 77) (.v (.bool false))),I 8 (.mv (.s 78))])
def p_quartolaw17_SeekAlike_15:PC :=
 (.reg [3,9,14,16,17] [I 79 (.mv (.s 10)),I 80 (.mv (.s 13)),I 81 (.ixS 5 (.s 79) (.s 80)),I 82 (.ld true 5 (.s 81)),I 17 (.box (.v ZR)),J (.st 5 (.s 17) (.s 82))])
def p_quartolaw17_SeekAlike_16:PC :=
 (.reg [3,9,14,16,17,87] [I 83 (.fadr 2 (.s 17)),I 84 (.ld true 3 (.s 83)),I 85 (.fadr 2 (.s 16)),I 86 (.ld true 3 (.s 85)),I 87 (.eqs true 0 [(0,0),(1,0),(2,0)] (.s 84) (.s 86))])
def p_quartolaw17_SeekAlike_17:PC :=
 (.reg [8] [I 8 (.mv (.v (.bool false)))])
def p_quartolaw17_SeekAlike_18:PC :=
 (.reg [3,9,14,16,17,18] [I 18 (.mv (V 0))])
def p_quartolaw17_SeekAlike_19:PC :=
 (.reg [3,9,14,16,17,18,91] [I 88 (.mv (.s 18)),I 89 (.mv (.s 3)),I 90 (.len 1 (.s 89)),I 91 (.bin .lss (.s 88) (.s 90))])
def p_quartolaw17_SeekAlike_20:PC :=
 (.reg [3,9,14,16,17,18,19,20] [I 95 (.mv (.s 9)),I 96 (.ld true 5 (.s 17)),I 97 (.mv (.s 3)),I 98 (.mv (.s 18)),I 99 (.ixS 1 (.s 97) (.s 98)),I 100 (.ld false 1 (.s 99)),I 101 (C F_seek_Byte [(.s 95),(.s 96),(.s 100)]),I 94 (.mv (.s 101)),I 102 (.ext (.s 94) 0),I 103 (.ext (.s 94) 1),I 19 (.mv (.s 102)),I 20 (.mv (.s 103))])
def p_quartolaw17_SeekAlike_21:PC :=
 (.reg [3,9,14,16,17,18,19,20,21,22] [I 105 (.mv (.s 14)),I 106 (.ld true 5 (.s 16)),I 107 (.mv (.s 3)),I 108 (.mv (.s 18)),I 109 (.ixS 1 (.s 107) (.s 108)),I 110 (.ld false 1 (.s 109)),I 111 (C F_seek_Byte [(.s 105),(.s 106),(.s 110)]),I 104 (.mv (.s 111)),I 112 (.ext (.s 104) 0),I 113 (.ext (.s 104) 1),I 21 (.mv (.s 112)),I 22 (.mv (.s 113))])
def p_quartolaw17_SeekAlike_22:PC :=
 (.reg [3,9,14,16,17,18,121] [I 114 (.mv (.s 19)),I 115 (.mv (.s 21)),I 116 (.bin .neq (.s 114) (.s 115)),I 117 (.mv (.s 116)),G 118 117 false (.mv (.s 20)),G 119 117 false (.mv (.s 22)),G 120 117 false (.bin .neq (.s 118) (.s 119)),I 121 (.pick (.s 117) (.v (.bool true)) (.s 120))])
def p_quartolaw17_SeekAlike_23:PC :=
 (.reg [8] [I 8 (.mv (.v (.bool false)))])
def p_quartolaw17_SeekAlike_24:PC :=
 (.reg [3,9,14,16,17,18,211] [I 122 (.mv (.s 9)),I 123 (.ld true 5 (.s 17)),I 124 (.mv (.s 3)),I 125 (.mv (.s 18)),I 126 (.ixS 1 (.s 124) (.s 125)),I 127 (.ld false 1 (.s 126)),I 128 (.call .pure (.v (.func (.func F_seek_Rune) [] [])) [(.s 122),(.s 123),(.s 127)]),I 129 (.ext (.s 128) 0),I 130 (.ext (.s 128) 1),I 131 (.call .pure (.v (.func (.func F_quartolaw17_same) [] [])) [(.s 129),(.s 130)]),I 132 (.mv (.s 14)),I 133 (.ld true 5 (.s 16)),I 134 (.mv (.s 3)),I 135 (.mv (.s 18)),I 136 (.ixS 1 (.s 134) (.s 135)),I 137 (.ld false 1 (.s 136)),I 138 (C F_seek_Rune [(.s 132),(.s 133),(.s 137)]),I 139 (.ext (.s 138) 0),I 140 (.ext (.s 138) 1),I 141 (.call .norm (.s 131) [(.s 139),(.s 140)]),I 142 (.un .not (.s 141)),I 143 (.mv (.s 142)),G 144 143 false (.mv (.s 9)),G 145 143 false (.ld true 5 (.s 17)),G 146 143 false (.mv (.s 3)),G 147 143 false (.mv (.s 18)),G 148 143 false (.ixS 1 (.s 146) (.s 147)),G 149 143 false (.ld false 1 (.s 148)),G 150 143 false (.call .pure (.v (.func (.func F_seek_RunesBefore) [] [])) [(.s 144),(.s 145),(.s 149)]),G 151 143 false (.ext (.s 150) 0),G 152 143 false (.ext (.s 150) 1),G 153 143 false (.call .pure (.v (.func (.func F_quartolaw17_same) [] [])) [(.s 151),(.s 152)]),G 154 143 false (.mv (.s 14)),G 155 143 false (.ld true 5 (.s 16)),G 156 143 false (.mv (.s 3)),G 157 143 false (.mv (.s 18)),G 158 143 false (.ixS 1 (.s 156) (.s 157)),G 159 143 false (.ld false 1 (.s 158)),G 160 143 false (C F_seek_RunesBefore [(.s 154),(.s 155),(.s 159)]),G 161 143 false (.ext (.s 160) 0),G 162 143 false (.ext (.s 160) 1),G 163 143 false (.call .norm (.s 153) [(.s 161),(.s 162)]),G 164 143 false (.un .not (.s 163)),I 165 (.pick (.s 143) (.v (.bool true)) (.s 164)),I 166 (.mv (.s 165)),G 167 166 false (.mv (.s 9)),G 168 166 false (.ld true 5 (.s 17)),G 169 166 false (.mv (.s 3)),G 170 166 false (.mv (.s 18)),G 171 166 false (.ixS 1 (.s 169) (.s 170)),G 172 166 false (.ld false 1 (.s 171)),G 173 166 false (.call .pure (.v (.func (.func F_seek_Line) [] [])) [(.s 167),(.s 168),(.s 172)]),G 174 166 false (.ext (.s 173) 0),G 175 166 false (.ext (.s 173) 1),G 176 166 false (.call .pure (.v (.func (.func F_quartolaw17_same) [] [])) [(.s 174),(.s 175)]),G 177 166 false (.mv (.s 14)),G 178 166 false (.ld true 5 (.s 16)),G 179 166 false (.mv (.s 3)),G 180 166 false (.mv (.s 18)),G 181 166 false (.ixS 1 (.s 179) (.s 180)),G 182 166 false (.ld false 1 (.s 181)),G 183 166 false (C F_seek_Line [(.s 177),(.s 178),(.s 182)]),G 184 166 false (.ext (.s 183) 0),G 185 166 false (.ext (.s 183) 1),G 186 166 false (.call .norm (.s 176) [(.s 184),(.s 185)]),G 187 166 false (.un .not (.s 186)),I 188 (.pick (.s 166) (.v (.bool true)) (.s 187)),I 189 (.mv (.s 188)),G 190 189 false (.mv (.s 9)),G 191 189 false (.ld true 5 (.s 17)),G 192 189 false (.mv (.s 3)),G 193 189 false (.mv (.s 18)),G 194 189 false (.ixS 1 (.s 192) (.s 193)),G 195 189 false (.ld false 1 (.s 194)),G 196 189 false (.call .pure (.v (.func (.func F_seek_LineOf) [] [])) [(.s 190),(.s 191),(.s 195)]),G 197 189 false (.ext (.s 196) 0),G 198 189 false (.ext (.s 196) 1),G 199 189 false (.call .pure (.v (.func (.func F_quartolaw17_same) [] [])) [(.s 197),(.s 198)]),G 200 189 false (.mv (.s 14)),G 201 189 false (.ld true 5 (.s 16)),G 202 189 false (.mv (.s 3)),G 203 189 false (.mv (.s 18)),G 204 189 false (.ixS 1 (.s 202) (.s 203)),G 205 189 false (.ld false 1 (.s 204)),G 206 189 false (C F_seek_LineOf [(.s 200),(.s 201),(.s 205)]),G 207 189 false (.ext (.s 206) 0),G 208 189 false (.ext (.s 206) 1),G 209 189 false (.call .norm (.s 199) [(.s 207),(.s 208)]),G 210 189 false (.un .not (.s 209)),I 211 (.pick (.s 189) (.v (.bool true)) (.s 210))])
def p_quartolaw17_SeekAlike_25:PC :=
 (.reg [8] [I 8 (.mv (.v (.bool false)))])
def p_quartolaw17_SeekAlike_26:PC :=
 (.reg [3,9,14,16,17,18,20,23] [I 213 (.mv (.s 9)),I 214 (.ld true 5 (.s 17)),I 215 (.mv (.s 3)),I 216 (.mv (.s 18)),I 217 (.ixS 1 (.s 215) (.s 216)),I 218 (.ld false 1 (.s 217)),I 219 (C F_seek_Boundary [(.s 213),(.s 214),(.s 218)]),I 212 (.mv (.s 219)),I 220 (.ext (.s 212) 0),I 221 (.ext (.s 212) 1),I 23 (.mv (.s 220)),I 20 (.mv (.s 221))])
def p_quartolaw17_SeekAlike_27:PC :=
 (.reg [3,9,14,16,17,18,20,22,23,24] [I 223 (.mv (.s 14)),I 224 (.ld true 5 (.s 16)),I 225 (.mv (.s 3)),I 226 (.mv (.s 18)),I 227 (.ixS 1 (.s 225) (.s 226)),I 228 (.ld false 1 (.s 227)),I 229 (C F_seek_Boundary [(.s 223),(.s 224),(.s 228)]),I 222 (.mv (.s 229)),I 230 (.ext (.s 222) 0),I 231 (.ext (.s 222) 1),I 24 (.mv (.s 230)),I 22 (.mv (.s 231))])
def p_quartolaw17_SeekAlike_28:PC :=
 (.reg [3,9,14,16,17,18,239] [I 232 (.mv (.s 23)),I 233 (.mv (.s 24)),I 234 (.eqs true 6 [] (.s 232) (.s 233)),I 235 (.mv (.s 234)),G 236 235 false (.mv (.s 20)),G 237 235 false (.mv (.s 22)),G 238 235 false (.bin .neq (.s 236) (.s 237)),I 239 (.pick (.s 235) (.v (.bool true)) (.s 238))])
def p_quartolaw17_SeekAlike_29:PC :=
 (.reg [8] [I 8 (.mv (.v (.bool false)))])
def p_quartolaw17_SeekAlike_30:PC :=
 (.reg [3,9,14,16,17,18] [I 92 (.mv (.s 18)),I 93 (.bin .add (.s 92) (V 1)),I 18 (.mv (.s 93))])
def p_quartolaw17_SeekAlike_31:PC :=
 (.seq (.seq p_quartolaw17_SeekAlike_19
 (.ite (.s 91)
 .skip
 (.exit 0)))
 (.seq (.block 1
 (.seq p_quartolaw17_SeekAlike_20
 (.seq p_quartolaw17_SeekAlike_21
 (.seq (.seq p_quartolaw17_SeekAlike_22
 (.ite (.s 121)
 (.seq p_quartolaw17_SeekAlike_23
 .ret)
 .skip))
 (.seq (.seq p_quartolaw17_SeekAlike_24
 (.ite (.s 211)
 (.seq p_quartolaw17_SeekAlike_25
 .ret)
 .skip))
 (.seq p_quartolaw17_SeekAlike_26
 (.seq p_quartolaw17_SeekAlike_27
 (.seq p_quartolaw17_SeekAlike_28
 (.ite (.s 239)
 (.seq p_quartolaw17_SeekAlike_29
 .ret)
 .skip)))))))))
 p_quartolaw17_SeekAlike_30))
def p_quartolaw17_SeekAlike_32:PC :=
 (.reg [8] [I 240 (C F_quartolaw17_works []),I 8 (.mv (.s 240))])
def p_quartolaw17_SeekAlike:PF:=⟨false,
 (.seq p_quartolaw17_SeekAlike_0
 (.seq (.seq p_quartolaw17_SeekAlike_1
 (.ite (.s 32)
 (.seq p_quartolaw17_SeekAlike_2
 .ret)
 .skip))
 (.seq p_quartolaw17_SeekAlike_3
 (.seq (.seq p_quartolaw17_SeekAlike_4
 (.ite (.s 43)
 (.seq p_quartolaw17_SeekAlike_5
 .ret)
 .skip))
 (.seq (.seq p_quartolaw17_SeekAlike_6
 (.ite (.s 46)
 (.seq p_quartolaw17_SeekAlike_7
 .ret)
 .skip))
 (.seq p_quartolaw17_SeekAlike_8
 (.seq p_quartolaw17_SeekAlike_9
 (.seq (.seq p_quartolaw17_SeekAlike_10
 (.ite (.s 62)
 (.seq p_quartolaw17_SeekAlike_11
 .ret)
 .skip))
 (.seq p_quartolaw17_SeekAlike_12
 (.seq (.seq p_quartolaw17_SeekAlike_13
 (.ite (.s 73)
 (.seq p_quartolaw17_SeekAlike_14
 .ret)
 .skip))
 (.seq p_quartolaw17_SeekAlike_15
 (.seq (.seq p_quartolaw17_SeekAlike_16
 (.ite (.s 87)
 (.seq p_quartolaw17_SeekAlike_17
 .ret)
 .skip))
 (.seq (.seq p_quartolaw17_SeekAlike_18
 (.block 0
 (.loop p_quartolaw17_SeekAlike_31)))
 (.seq p_quartolaw17_SeekAlike_32
 .ret)))))))))))))),
 [.s 8]⟩
theorem c_quartolaw17_SeekAlike:compF Go.Proofs.Tryz.prog false h_quartolaw17_SeekAlike Go.Proofs.Tryz.f5=some p_quartolaw17_SeekAlike:=by kernel_rfl
def h_quartolaw15_Long:List Hint:=[H [0],H [0,3],H [0,3,4],H [0,3,4,12],H [0,3,4],H [0,3,4],H [2]]
def p_quartolaw15_Long_0:PC :=
 (.reg [0] [I 2 (.mv (.v (.bool false)))])
def p_quartolaw15_Long_1:PC :=
 (.reg [0,3] [I 3 (.mv (V 0))])
def p_quartolaw15_Long_2:PC :=
 (.reg [0,3,4] [I 4 (.mv (V 0))])
def p_quartolaw15_Long_3:PC :=
 (.reg [0,3,4,12] [I 5 (.mv (.s 4)),I 6 (.mv (.s 0)),I 7 (.len 1 (.s 6)),I 8 (.bin .lss (.s 5) (.s 7)),I 9 (.mv (.s 8)),G 10 9 true (.mv (.s 3)),G 11 9 true (.bin .leq (.s 10) (V 900)),I 12 (.pick (.s 9) (.s 11) (.v (.bool false)))])
def p_quartolaw15_Long_4:PC :=
 (.reg [0,3,4] [I 15 (.mv (.s 3)),I 16 (.mv (.s 0)),I 17 (.mv (.s 4)),I 18 (.ixS 1 (.s 16) (.s 17)),I 19 (.ld false 1 (.s 18)),I 20 (.len 0 (.s 19)),I 21 (.mnx false (.s 20) (V 1000)),I 22 (.bin .add (.s 15) (.s 21)),I 3 (.mv (.s 22))])
def p_quartolaw15_Long_5:PC :=
 (.reg [0,3,4] [I 13 (.mv (.s 4)),I 14 (.bin .add (.s 13) (V 1)),I 4 (.mv (.s 14))])
def p_quartolaw15_Long_6:PC :=
 (.seq (.seq p_quartolaw15_Long_3
 (.ite (.s 12)
 .skip
 (.exit 0)))
 (.seq (.block 1
 p_quartolaw15_Long_4)
 p_quartolaw15_Long_5))
def p_quartolaw15_Long_7:PC :=
 (.reg [2] [I 23 (.mv (.s 0)),I 24 (.len 1 (.s 23)),I 25 (.bin .gtr (.s 24) (V 4)),I 26 (.mv (.s 25)),G 27 26 false (.mv (.s 3)),G 28 26 false (.bin .gtr (.s 27) (V 900)),I 29 (.pick (.s 26) (.v (.bool true)) (.s 28)),I 2 (.mv (.s 29))])
def p_quartolaw15_Long:PF:=⟨false,
 (.seq p_quartolaw15_Long_0
 (.seq p_quartolaw15_Long_1
 (.seq (.seq p_quartolaw15_Long_2
 (.block 0
 (.loop p_quartolaw15_Long_6)))
 (.seq p_quartolaw15_Long_7
 .ret)))),
 [.s 2]⟩
theorem c_quartolaw15_Long:compF Go.Proofs.Tryz.prog false h_quartolaw15_Long Go.Proofs.Tryz.f9=some p_quartolaw15_Long:=by kernel_rfl
def h_plan_Text:List Hint:=[H [2,3],H [2,3,6],H [2,3,6,14],H [4,5],⟨[2,3,7],[0],[],[],[],[]⟩,H [2,3,7,8],H [3,7,8],H [3,7,8,19],H [4,5],H [7,9],H [7,9,24],H [4,5],H [4,5]]
def p_plan_Text_0:PC :=
 (.reg [2,3] [I 2 (.box (.s 0)),I 3 (.box (.s 1)),I 4 (.mv (.v (.str []))),I 5 (.mv (V 0))])
def p_plan_Text_1:PC :=
 (.reg [2,3,6] [I 10 (.ld false 1 (.s 2)),I 11 (.ld true 7 (.s 3)),I 12 (C F_plan_Check [(.s 10),(.s 11)]),I 6 (.mv (.s 12))])
def p_plan_Text_2:PC :=
 (.reg [2,3,6,14] [I 13 (.mv (.s 6)),I 14 (.bin .neq (.s 13) (V 0))])
def p_plan_Text_3:PC :=
 (.reg [4,5] [I 15 (.mv (.s 6)),I 4 (.mv (.v (.str []))),I 5 (.mv (.s 15))])
def p_plan_Text_4:PC :=
 (.reg [2,3,7] [I 7 (.boxnil 1)])
def p_plan_Text_5:PC :=
 (.reg [2,3,7,8] [I 8 (.box (.v .nilfunc))])
def p_plan_Text_6:PC :=
 (.reg [3,7,8] [I 16 (.mkf (.func F_plan_TextC1) [] [(.s 2),(.s 7),(.s 8)]),J (.st 1 (.s 8) (.s 16))])
def p_plan_Text_7:PC :=
 (.reg [3,7,8,19] [I 17 (.ld true 7 (.s 3)),I 18 (C F_plan_kind [(.s 17)]),I 19 (.bin .eql (.s 18) (V 1))])
def p_plan_Text_8:PC :=
 (.reg [4,5] [I 4 (.mv (.v (.str []))),I 5 (.mv (V 0))])
def p_plan_Text_9:PC :=
 (.reg [7,9] [I 20 (.ld false 1 (.s 8)),I 21 (.ld true 7 (.s 3)),I 22 (.call .norm (.s 20) [(.s 21)]),I 9 (.mv (.s 22))])
def p_plan_Text_10:PC :=
 (.reg [7,9,24] [I 23 (.mv (.s 9)),I 24 (.bin .neq (.s 23) (V 0))])
def p_plan_Text_11:PC :=
 (.reg [4,5] [I 25 (.mv (.s 9)),I 4 (.mv (.v (.str []))),I 5 (.mv (.s 25))])
def p_plan_Text_12:PC :=
 (.reg [4,5] [I 26 (.ld false 1 (.s 7)),I 27 (.b2s (.s 26)),I 4 (.mv (.s 27)),I 5 (.mv (V 0))])
def p_plan_Text:PF:=⟨false,
 (.seq p_plan_Text_0
 (.seq (.seq p_plan_Text_1
 (.seq p_plan_Text_2
 (.ite (.s 14)
 (.seq p_plan_Text_3
 .ret)
 .skip)))
 (.seq p_plan_Text_4
 (.seq p_plan_Text_5
 (.seq p_plan_Text_6
 (.seq (.seq p_plan_Text_7
 (.ite (.s 19)
 (.seq p_plan_Text_8
 .ret)
 .skip))
 (.seq (.seq p_plan_Text_9
 (.seq p_plan_Text_10
 (.ite (.s 24)
 (.seq p_plan_Text_11
 .ret)
 .skip)))
 (.seq p_plan_Text_12
 .ret)))))))),
 [.s 4,.s 5]⟩
theorem c_plan_Text:compF Go.Proofs.Tryz.prog false h_plan_Text Go.Proofs.Tryz.f14=some p_plan_Text:=by kernel_rfl
def h_plan_New:List Hint:=[H [1],H [1,3],H [1,3,4],H [1,3,14],H [1,3],H [3,16,17,18],H [3,16,17,18,19],H [3,6,16,17,18],H [3,16,17,18],H [3,16,17,18],H [2]]
def p_plan_New_0:PC :=
 (.reg [1] [I 1 (.box (.s 0)),I 2 (.mv (V 0))])
def p_plan_New_1:PC :=
 (.reg [1,3] [I 3 (.mv (V 0))])
def p_plan_New_2:PC :=
 (.reg [1,3,4] [I 7 (.ld true 7 (.s 1)),I 8 (C F_plan_kind [(.s 7)]),I 4 (.mv (.s 8))])
def p_plan_New_3:PC :=
 (.reg [1,3,14] [I 9 (.mv (.s 4)),I 10 (.bin .eql (.s 9) (V 3)),I 11 (.mv (.s 10)),G 12 11 false (.mv (.s 4)),G 13 11 false (.bin .eql (.s 12) (V 4)),I 14 (.pick (.s 11) (.v (.bool true)) (.s 13))])
def p_plan_New_4:PC :=
 (.reg [1,3] [I 3 (.mv (V 1))])
def p_plan_New_5:PC :=
 (.reg [3,16,17,18] [I 15 (.fadr 6 (.s 1)),I 16 (.ld false 1 (.s 15)),I 17 (.len 1 (.s 16)),I 18 (.mv (V 0))])
def p_plan_New_6:PC :=
 (.reg [3,16,17,18,19] [I 19 (.bin .lss (.s 18) (.s 17))])
def p_plan_New_7:PC :=
 (.reg [3,6,16,17,18] [I 20 (.ixS 7 (.s 16) (.s 18)),I 21 (.ld true 7 (.s 20)),I 6 (.box (.v ZT)),J (.st 7 (.s 6) (.s 21))])
def p_plan_New_8:PC :=
 (.reg [3,16,17,18] [I 22 (.mv (.s 3)),I 23 (.ld true 7 (.s 6)),I 24 (C F_plan_New [(.s 23)]),I 25 (.bin .add (.s 22) (.s 24)),I 3 (.mv (.s 25))])
def p_plan_New_9:PC :=
 (.reg [3,16,17,18] [I 26 (.bin .add (.s 18) (V 1)),I 18 (.mv (.s 26))])
def p_plan_New_10:PC :=
 (.seq p_plan_New_6
 (.seq (.ite (.s 19)
 .skip
 (.exit 0))
 (.seq (.block 1
 (.seq p_plan_New_7
 p_plan_New_8))
 p_plan_New_9)))
def p_plan_New_11:PC :=
 (.reg [2] [I 27 (.mv (.s 3)),I 2 (.mv (.s 27))])
def p_plan_New:PF:=⟨false,
 (.seq p_plan_New_0
 (.seq p_plan_New_1
 (.seq (.seq p_plan_New_2
 (.seq p_plan_New_3
 (.ite (.s 14)
 p_plan_New_4
 .skip)))
 (.seq (.seq p_plan_New_5
 (.block 0
 (.loop p_plan_New_10)))
 (.seq p_plan_New_11
 .ret))))),
 [.s 2]⟩
theorem c_plan_New:compF Go.Proofs.Tryz.prog false h_plan_New Go.Proofs.Tryz.f16=some p_plan_New:=by kernel_rfl
def h_arena_Arena_Stats:List Hint:=[H [0,2],H [0,2,4],H [2],⟨[2],[],[(8,.pure),(19,.pure)],[],[],[]⟩]
def p_arena_Arena_Stats_0:PC :=
 (.reg [0,2] [I 2 (.box (.v (.agg [(.int .i64 0),(.int .i64 0),(.int .i64 0),(.int .i64 0),(.int .i64 0),(.int .i64 0),(.int .i64 0)])))])
def p_arena_Arena_Stats_1:PC :=
 (.reg [0,2,4] [I 3 (.mv (.s 0)),I 4 (.eqs false 3 [] (.s 3) (.v .nilptr))])
def p_arena_Arena_Stats_2:PC :=
 (.reg [2] [I 5 (.build [(.int .i64 0),(.int .i64 0),(.int .i64 0),(.int .i64 0),(.int .i64 0),(.int .i64 0),(.int .i64 0)] []),J (.st 7 (.s 2) (.s 5))])
def p_arena_Arena_Stats_3:PC :=
 (.reg [2] [I 6 (.mv (.s 0)),I 7 (.nilck (.s 6)),I 8 (.fadr 0 (.s 7)),I 9 (.ld false 1 (.s 8)),I 10 (.mv (.s 0)),I 11 (.nilck (.s 10)),I 12 (.fadr 1 (.s 11)),I 13 (.ld false 1 (.s 12)),I 14 (.call .pure (.v (.func (.func F_freelist_List_Free) [] [])) [(.s 13)]),I 15 (.len 1 (.s 14)),I 16 (.mv (.s 0)),I 17 (.nilck (.s 16)),I 18 (.fadr 2 (.s 17)),I 19 (.ld false 1 (.s 18)),I 20 (.len 2 (.s 19)),I 21 (.mv (.s 0)),I 22 (.nilck (.s 21)),I 23 (.fadr 1 (.s 22)),I 24 (.ld false 1 (.s 23)),I 25 (.call .pure (.v (.func (.func F_freelist_List_Withdrawn) [] [])) [(.s 24)]),I 26 (.len 1 (.s 25)),I 27 (.mv (.s 0)),I 28 (.nilck (.s 27)),I 29 (.fadr 3 (.s 28)),I 30 (.ld false 1 (.s 29)),I 31 (.mv (.s 0)),I 32 (.nilck (.s 31)),I 33 (.fadr 4 (.s 32)),I 34 (.ld false 1 (.s 33)),I 35 (.mv (.s 0)),I 36 (.nilck (.s 35)),I 37 (.fadr 5 (.s 36)),I 38 (.ld false 1 (.s 37)),I 39 (.build [(.int .i64 0),(.int .i64 0),(.int .i64 0),(.int .i64 0),(.int .i64 0),(.int .i64 0),(.int .i64 0)] [(0,1,(.s 9)),(1,1,(.s 15)),(2,1,(.s 20)),(3,1,(.s 26)),(4,1,(.s 30)),(5,1,(.s 34)),(6,1,(.s 38))]),J (.st 7 (.s 2) (.s 39))])
def p_arena_Arena_Stats:PF:=⟨false,
 (.seq p_arena_Arena_Stats_0
 (.seq (.seq p_arena_Arena_Stats_1
 (.ite (.s 4)
 (.seq p_arena_Arena_Stats_2
 .ret)
 .skip))
 (.seq p_arena_Arena_Stats_3
 .ret))),
 [.c 2 true 7]⟩
theorem c_arena_Arena_Stats:compF Go.Proofs.Tryz.prog false h_arena_Arena_Stats Go.Proofs.Tryz.f23=some p_arena_Arena_Stats:=by kernel_rfl
def h_quartolaw16_Beyond:List Hint:=[H [0,1],H [4]]
def p_quartolaw16_Beyond_0:PC :=
 (.reg [0,1] [I 4 (.mv (.v (.bool false)))])
def p_quartolaw16_Beyond_1:PC :=
 (.reg [4] [I 5 (.mv (.s 0)),I 6 (C F_quartolaw15_Long [(.s 5)]),I 7 (.mv (.s 6)),G 8 7 false (.mv (.s 1)),G 9 7 false (C F_quartolaw16_Many [(.s 8)]),I 10 (.pick (.s 7) (.v (.bool true)) (.s 9)),I 11 (.mv (.s 10)),G 12 11 false (.mv (.s 1)),G 13 11 false (.len 1 (.s 12)),G 14 11 false (.bin .gtr (.s 13) (V 12)),I 15 (.pick (.s 11) (.v (.bool true)) (.s 14)),I 4 (.mv (.s 15))])
def p_quartolaw16_Beyond:PF:=⟨false,
 (.seq p_quartolaw16_Beyond_0
 (.seq p_quartolaw16_Beyond_1
 .ret)),
 [.s 4]⟩
theorem c_quartolaw16_Beyond:compF Go.Proofs.Tryz.prog false h_quartolaw16_Beyond Go.Proofs.Tryz.f25=some p_quartolaw16_Beyond:=by kernel_rfl
def h_quartolaw17_works:List Hint:=[H [],H [1,2,3],H [1,2,14],H [0],H [1,2,4,5],H [4,5,6,7],H [0]]
def p_quartolaw17_works_0:PC :=
 (.reg [] [I 0 (.mv (.v (.bool false)))])
def p_quartolaw17_works_1:PC :=
 (.reg [1,2,3] [I 9 (C F_quartolaw17_small []),I 8 (.mv (.s 9)),I 10 (.ext (.s 8) 0),I 11 (.ext (.s 8) 1),I 12 (.ext (.s 8) 2),I 2 (.box (.v ZR)),I 1 (.mv (.s 10)),J (.st 5 (.s 2) (.s 11)),I 3 (.mv (.s 12))])
def p_quartolaw17_works_2:PC :=
 (.reg [1,2,14] [I 13 (.mv (.s 3)),I 14 (.un .not (.s 13))])
def p_quartolaw17_works_3:PC :=
 (.reg [0] [I 0 (.mv (.v (.bool false)))])
def p_quartolaw17_works_4:PC :=
 (.reg [1,2,4,5] [I 16 (.mv (.s 1)),I 17 (.ld true 5 (.s 2)),I 18 (C F_seek_Rune [(.s 16),(.s 17),(V 2)]),I 15 (.mv (.s 18)),I 19 (.ext (.s 15) 0),I 20 (.ext (.s 15) 1),I 4 (.mv (.s 19)),I 5 (.mv (.s 20))])
def p_quartolaw17_works_5:PC :=
 (.reg [4,5,6,7] [I 22 (.mv (.s 1)),I 23 (.ld true 5 (.s 2)),I 24 (C F_seek_Byte [(.s 22),(.s 23),(V 16)]),I 21 (.mv (.s 24)),I 25 (.ext (.s 21) 0),I 26 (.ext (.s 21) 1),I 6 (.mv (.s 25)),I 7 (.mv (.s 26))])
def p_quartolaw17_works_6:PC :=
 (.reg [0] [I 27 (.mv (.s 5)),I 28 (.bin .eql (.s 27) (V 0)),I 29 (.mv (.s 28)),G 30 29 true (.mv (.s 7)),G 31 29 true (.bin .eql (.s 30) (V 0)),I 32 (.pick (.s 29) (.s 31) (.v (.bool false))),I 33 (.mv (.s 32)),G 34 33 true (.mv (.s 4)),G 35 33 true (.bin .eql (.s 34) (V 3)),I 36 (.pick (.s 33) (.s 35) (.v (.bool false))),I 37 (.mv (.s 36)),G 38 37 true (.mv (.s 6)),G 39 37 true (.bin .eql (.s 38) (.v (.int .u8 110))),I 40 (.pick (.s 37) (.s 39) (.v (.bool false))),I 0 (.mv (.s 40))])
def p_quartolaw17_works:PF:=⟨false,
 (.seq p_quartolaw17_works_0
 (.seq p_quartolaw17_works_1
 (.seq (.seq p_quartolaw17_works_2
 (.ite (.s 14)
 (.seq p_quartolaw17_works_3
 .ret)
 .skip))
 (.seq p_quartolaw17_works_4
 (.seq p_quartolaw17_works_5
 (.seq p_quartolaw17_works_6
 .ret)))))),
 [.s 0]⟩
theorem c_quartolaw17_works:compF Go.Proofs.Tryz.prog false h_quartolaw17_works Go.Proofs.Tryz.f26=some p_quartolaw17_works:=by kernel_rfl
def h_seek_Leaf:List Hint:=[H [0,2,4],H [0,2,4,10],H [0,2,4,10,16],H [6,7,8,9],H [0,2,4,26],H [6,7,8,9],H [9,11],H [6,7,8,9]]
def p_seek_Leaf_0:PC :=
 (.reg [0,2,4] [I 4 (.box (.s 1)),I 6 (.mv (.v (.str []))),I 7 (.mv (V 0)),I 8 (.mv (.v .nils)),I 9 (.mv (V 0))])
def p_seek_Leaf_1:PC :=
 (.reg [0,2,4,10] [I 12 (.mv (.s 0)),I 13 (.ld true 5 (.s 4)),I 14 (C F_seek_check [(.s 12),(.s 13)]),I 10 (.mv (.s 14))])
def p_seek_Leaf_2:PC :=
 (.reg [0,2,4,10,16] [I 15 (.mv (.s 10)),I 16 (.bin .neq (.s 15) (V 0))])
def p_seek_Leaf_3:PC :=
 (.reg [6,7,8,9] [I 17 (.mv (.s 10)),I 6 (.mv (.v (.str []))),I 7 (.mv (V 0)),I 8 (.mv (.v .nils)),I 9 (.mv (.s 17))])
def p_seek_Leaf_4:PC :=
 (.reg [0,2,4,26] [I 18 (.mv (.s 2)),I 19 (.bin .lss (.s 18) (V 0)),I 20 (.mv (.s 19)),G 21 20 false (.mv (.s 2)),G 22 20 false (.fadr 2 (.s 4)),G 23 20 false (.fadr 0 (.s 22)),G 24 20 false (.ld false 1 (.s 23)),G 25 20 false (.bin .geq (.s 21) (.s 24)),I 26 (.pick (.s 20) (.v (.bool true)) (.s 25))])
def p_seek_Leaf_5:PC :=
 (.reg [6,7,8,9] [I 6 (.mv (.v (.str []))),I 7 (.mv (V 0)),I 8 (.mv (.v .nils)),I 9 (.mv (V 3))])
def p_seek_Leaf_6:PC :=
 (.reg [9,11] [I 28 (.mv (.s 0)),I 29 (.ld true 5 (.s 4)),I 30 (.mv (.s 2)),I 31 (C F_seek_walk [(.s 28),(.s 29),(.s 30),(.v (.func (.func F_node_Child) [] [])),(.v (.func (.func F_seek_LeafC1) [] []))]),I 27 (.mv (.s 31)),I 32 (.ext (.s 27) 0),I 33 (.ext (.s 27) 1),I 11 (.box (.v (.agg [(.str []),(.int .i64 0),.nils]))),J (.st 3 (.s 11) (.s 32)),I 9 (.mv (.s 33))])
def p_seek_Leaf_7:PC :=
 (.reg [6,7,8,9] [I 34 (.fadr 0 (.s 11)),I 35 (.ld false 1 (.s 34)),I 36 (.fadr 1 (.s 11)),I 37 (.ld false 1 (.s 36)),I 38 (.fadr 2 (.s 11)),I 39 (.ld false 1 (.s 38)),I 40 (.mv (.s 9)),I 6 (.mv (.s 35)),I 7 (.mv (.s 37)),I 8 (.mv (.s 39)),I 9 (.mv (.s 40))])
def p_seek_Leaf:PF:=⟨false,
 (.seq p_seek_Leaf_0
 (.seq (.seq p_seek_Leaf_1
 (.seq p_seek_Leaf_2
 (.ite (.s 16)
 (.seq p_seek_Leaf_3
 .ret)
 .skip)))
 (.seq (.seq p_seek_Leaf_4
 (.ite (.s 26)
 (.seq p_seek_Leaf_5
 .ret)
 .skip))
 (.seq p_seek_Leaf_6
 (.seq p_seek_Leaf_7
 .ret))))),
 [.s 6,.s 7,.s 8,.s 9]⟩
theorem c_seek_Leaf:compF Go.Proofs.Tryz.prog false h_seek_Leaf Go.Proofs.Tryz.f29=some p_seek_Leaf:=by kernel_rfl
def h_seek_Byte:List Hint:=[H [0,2,4],H [8,9,11],H [8,9,11,22],H [6,7],H [8,9,31],H [6,7],H [6,7]]
def p_seek_Byte_0:PC :=
 (.reg [0,2,4] [I 4 (.box (.s 1)),I 6 (.mv (.v (.int .u8 0))),I 7 (.mv (V 0))])
def p_seek_Byte_1:PC :=
 (.reg [8,9,11] [I 13 (.mv (.s 0)),I 14 (.ld true 5 (.s 4)),I 15 (.mv (.s 2)),I 16 (C F_seek_Leaf [(.s 13),(.s 14),(.s 15)]),I 12 (.mv (.s 16)),I 17 (.ext (.s 12) 0),I 18 (.ext (.s 12) 1),I 19 (.ext (.s 12) 2),I 20 (.ext (.s 12) 3),I 8 (.mv (.s 17)),I 9 (.mv (.s 18)),I 10 (.mv (.s 19)),I 11 (.mv (.s 20))])
def p_seek_Byte_2:PC :=
 (.reg [8,9,11,22] [I 21 (.mv (.s 11)),I 22 (.bin .neq (.s 21) (V 0))])
def p_seek_Byte_3:PC :=
 (.reg [6,7] [I 23 (.mv (.s 11)),I 6 (.mv (.v (.int .u8 0))),I 7 (.mv (.s 23))])
def p_seek_Byte_4:PC :=
 (.reg [8,9,31] [I 24 (.mv (.s 9)),I 25 (.bin .lss (.s 24) (V 0)),I 26 (.mv (.s 25)),G 27 26 false (.mv (.s 9)),G 28 26 false (.mv (.s 8)),G 29 26 false (.len 0 (.s 28)),G 30 26 false (.bin .geq (.s 27) (.s 29)),I 31 (.pick (.s 26) (.v (.bool true)) (.s 30))])
def p_seek_Byte_5:PC :=
 (.reg [6,7] [I 6 (.mv (.v (.int .u8 0))),I 7 (.mv (V 23))])
def p_seek_Byte_6:PC :=
 (.reg [6,7] [I 32 (.mv (.s 8)),I 33 (.mv (.s 9)),I 34 (.ixStr (.s 32) (.s 33)),I 6 (.mv (.s 34)),I 7 (.mv (V 0))])
def p_seek_Byte:PF:=⟨false,
 (.seq p_seek_Byte_0
 (.seq p_seek_Byte_1
 (.seq (.seq p_seek_Byte_2
 (.ite (.s 22)
 (.seq p_seek_Byte_3
 .ret)
 .skip))
 (.seq (.seq p_seek_Byte_4
 (.ite (.s 31)
 (.seq p_seek_Byte_5
 .ret)
 .skip))
 (.seq p_seek_Byte_6
 .ret))))),
 [.s 6,.s 7]⟩
theorem c_seek_Byte:compF Go.Proofs.Tryz.prog false h_seek_Byte Go.Proofs.Tryz.f31=some p_seek_Byte:=by kernel_rfl
def h_seek_Rune:List Hint:=[H [0,2,4],H [0,2,4,8],H [0,2,4,8,13],H [6,7],H [0,2,4,23],H [6,7],H [0,2,4,28],H [6,7],H [6,7]]
def p_seek_Rune_0:PC :=
 (.reg [0,2,4] [I 4 (.box (.s 1)),I 6 (.mv (V 0)),I 7 (.mv (V 0))])
def p_seek_Rune_1:PC :=
 (.reg [0,2,4,8] [I 9 (.mv (.s 0)),I 10 (.ld true 5 (.s 4)),I 11 (C F_seek_check [(.s 9),(.s 10)]),I 8 (.mv (.s 11))])
def p_seek_Rune_2:PC :=
 (.reg [0,2,4,8,13] [I 12 (.mv (.s 8)),I 13 (.bin .neq (.s 12) (V 0))])
def p_seek_Rune_3:PC :=
 (.reg [6,7] [I 14 (.mv (.s 8)),I 6 (.mv (V 0)),I 7 (.mv (.s 14))])
def p_seek_Rune_4:PC :=
 (.reg [0,2,4,23] [I 15 (.mv (.s 2)),I 16 (.bin .lss (.s 15) (V 0)),I 17 (.mv (.s 16)),G 18 17 false (.mv (.s 2)),G 19 17 false (.fadr 2 (.s 4)),G 20 17 false (.fadr 1 (.s 19)),G 21 17 false (.ld false 1 (.s 20)),G 22 17 false (.bin .gtr (.s 18) (.s 21)),I 23 (.pick (.s 17) (.v (.bool true)) (.s 22))])
def p_seek_Rune_5:PC :=
 (.reg [6,7] [I 6 (.mv (V 0)),I 7 (.mv (V 3))])
def p_seek_Rune_6:PC :=
 (.reg [0,2,4,28] [I 24 (.mv (.s 2)),I 25 (.fadr 2 (.s 4)),I 26 (.fadr 1 (.s 25)),I 27 (.ld false 1 (.s 26)),I 28 (.bin .eql (.s 24) (.s 27))])
def p_seek_Rune_7:PC :=
 (.reg [6,7] [I 29 (.fadr 2 (.s 4)),I 30 (.fadr 0 (.s 29)),I 31 (.ld false 1 (.s 30)),I 6 (.mv (.s 31)),I 7 (.mv (V 0))])
def p_seek_Rune_8:PC :=
 (.reg [6,7] [I 32 (.mv (.s 0)),I 33 (.ld true 5 (.s 4)),I 34 (.mv (.s 2)),I 35 (C F_seek_offset [(.s 32),(.s 33),(.s 34),(.v (.func (.func F_node_Rune) [] [])),(.v (.func (.func F_measure_Rune) [] []))]),I 36 (.ext (.s 35) 0),I 37 (.ext (.s 35) 1),I 6 (.mv (.s 36)),I 7 (.mv (.s 37))])
def p_seek_Rune:PF:=⟨false,
 (.seq p_seek_Rune_0
 (.seq (.seq p_seek_Rune_1
 (.seq p_seek_Rune_2
 (.ite (.s 13)
 (.seq p_seek_Rune_3
 .ret)
 .skip)))
 (.seq (.seq p_seek_Rune_4
 (.ite (.s 23)
 (.seq p_seek_Rune_5
 .ret)
 .skip))
 (.seq (.seq p_seek_Rune_6
 (.ite (.s 28)
 (.seq p_seek_Rune_7
 .ret)
 .skip))
 (.seq p_seek_Rune_8
 .ret))))),
 [.s 6,.s 7]⟩
theorem c_seek_Rune:compF Go.Proofs.Tryz.prog false h_seek_Rune Go.Proofs.Tryz.f33=some p_seek_Rune:=by kernel_rfl
def h_seek_RunesBefore:List Hint:=[H [0,2,4],H [6,7]]
def p_seek_RunesBefore_0:PC :=
 (.reg [0,2,4] [I 4 (.box (.s 1)),I 6 (.mv (V 0)),I 7 (.mv (V 0))])
def p_seek_RunesBefore_1:PC :=
 (.reg [6,7] [I 8 (.mv (.s 0)),I 9 (.ld true 5 (.s 4)),I 10 (.mv (.s 2)),I 11 (C F_seek_before [(.s 8),(.s 9),(.s 10),(.v (.func (.func F_seek_RunesBeforeC1) [] [])),(.v (.func (.func F_measure_RunesBefore) [] []))]),I 12 (.ext (.s 11) 0),I 13 (.ext (.s 11) 1),I 6 (.mv (.s 12)),I 7 (.mv (.s 13))])
def p_seek_RunesBefore:PF:=⟨false,
 (.seq p_seek_RunesBefore_0
 (.seq p_seek_RunesBefore_1
 .ret)),
 [.s 6,.s 7]⟩
theorem c_seek_RunesBefore:compF Go.Proofs.Tryz.prog false h_seek_RunesBefore Go.Proofs.Tryz.f35=some p_seek_RunesBefore:=by kernel_rfl
def h_seek_Line:List Hint:=[H [0,2,4],H [0,2,4,8],H [0,2,4,8,13],H [6,7],H [0,2,4,23],H [6,7],H [0,2,4,25],H [6,7],H [6,7]]
def p_seek_Line_0:PC :=
 (.reg [0,2,4] [I 4 (.box (.s 1)),I 6 (.mv (V 0)),I 7 (.mv (V 0))])
def p_seek_Line_1:PC :=
 (.reg [0,2,4,8] [I 9 (.mv (.s 0)),I 10 (.ld true 5 (.s 4)),I 11 (C F_seek_check [(.s 9),(.s 10)]),I 8 (.mv (.s 11))])
def p_seek_Line_2:PC :=
 (.reg [0,2,4,8,13] [I 12 (.mv (.s 8)),I 13 (.bin .neq (.s 12) (V 0))])
def p_seek_Line_3:PC :=
 (.reg [6,7] [I 14 (.mv (.s 8)),I 6 (.mv (V 0)),I 7 (.mv (.s 14))])
def p_seek_Line_4:PC :=
 (.reg [0,2,4,23] [I 15 (.mv (.s 2)),I 16 (.bin .lss (.s 15) (V 0)),I 17 (.mv (.s 16)),G 18 17 false (.mv (.s 2)),G 19 17 false (.fadr 2 (.s 4)),G 20 17 false (.fadr 2 (.s 19)),G 21 17 false (.ld false 1 (.s 20)),G 22 17 false (.bin .gtr (.s 18) (.s 21)),I 23 (.pick (.s 17) (.v (.bool true)) (.s 22))])
def p_seek_Line_5:PC :=
 (.reg [6,7] [I 6 (.mv (V 0)),I 7 (.mv (V 3))])
def p_seek_Line_6:PC :=
 (.reg [0,2,4,25] [I 24 (.mv (.s 2)),I 25 (.bin .eql (.s 24) (V 0))])
def p_seek_Line_7:PC :=
 (.reg [6,7] [I 6 (.mv (V 0)),I 7 (.mv (V 0))])
def p_seek_Line_8:PC :=
 (.reg [6,7] [I 26 (.mv (.s 0)),I 27 (.ld true 5 (.s 4)),I 28 (.mv (.s 2)),I 29 (C F_seek_offset [(.s 26),(.s 27),(.s 28),(.v (.func (.func F_node_Line) [] [])),(.v (.func (.func F_measure_Line) [] []))]),I 30 (.ext (.s 29) 0),I 31 (.ext (.s 29) 1),I 6 (.mv (.s 30)),I 7 (.mv (.s 31))])
def p_seek_Line:PF:=⟨false,
 (.seq p_seek_Line_0
 (.seq (.seq p_seek_Line_1
 (.seq p_seek_Line_2
 (.ite (.s 13)
 (.seq p_seek_Line_3
 .ret)
 .skip)))
 (.seq (.seq p_seek_Line_4
 (.ite (.s 23)
 (.seq p_seek_Line_5
 .ret)
 .skip))
 (.seq (.seq p_seek_Line_6
 (.ite (.s 25)
 (.seq p_seek_Line_7
 .ret)
 .skip))
 (.seq p_seek_Line_8
 .ret))))),
 [.s 6,.s 7]⟩
theorem c_seek_Line:compF Go.Proofs.Tryz.prog false h_seek_Line Go.Proofs.Tryz.f37=some p_seek_Line:=by kernel_rfl
def h_seek_LineOf:List Hint:=[H [0,2,4],H [6,7]]
def p_seek_LineOf_0:PC :=
 (.reg [0,2,4] [I 4 (.box (.s 1)),I 6 (.mv (V 0)),I 7 (.mv (V 0))])
def p_seek_LineOf_1:PC :=
 (.reg [6,7] [I 8 (.mv (.s 0)),I 9 (.ld true 5 (.s 4)),I 10 (.mv (.s 2)),I 11 (C F_seek_before [(.s 8),(.s 9),(.s 10),(.v (.func (.func F_seek_LineOfC1) [] [])),(.v (.func (.func F_measure_LineOf) [] []))]),I 12 (.ext (.s 11) 0),I 13 (.ext (.s 11) 1),I 6 (.mv (.s 12)),I 7 (.mv (.s 13))])
def p_seek_LineOf:PF:=⟨false,
 (.seq p_seek_LineOf_0
 (.seq p_seek_LineOf_1
 .ret)),
 [.s 6,.s 7]⟩
theorem c_seek_LineOf:compF Go.Proofs.Tryz.prog false h_seek_LineOf Go.Proofs.Tryz.f39=some p_seek_LineOf:=by kernel_rfl
def h_seek_Boundary:List Hint:=[H [0,2,4],H [0,2,4,8],H [0,2,4,8,15],H [6,7],H [0,2,4,25],H [6,7],H [0,2,4,30],H [6,7],H [9,10],H [6,7]]
def p_seek_Boundary_0:PC :=
 (.reg [0,2,4] [I 4 (.box (.s 1)),I 6 (.mv (.v (.bool false))),I 7 (.mv (V 0))])
def p_seek_Boundary_1:PC :=
 (.reg [0,2,4,8] [I 11 (.mv (.s 0)),I 12 (.ld true 5 (.s 4)),I 13 (C F_seek_check [(.s 11),(.s 12)]),I 8 (.mv (.s 13))])
def p_seek_Boundary_2:PC :=
 (.reg [0,2,4,8,15] [I 14 (.mv (.s 8)),I 15 (.bin .neq (.s 14) (V 0))])
def p_seek_Boundary_3:PC :=
 (.reg [6,7] [I 16 (.mv (.s 8)),I 6 (.mv (.v (.bool false))),I 7 (.mv (.s 16))])
def p_seek_Boundary_4:PC :=
 (.reg [0,2,4,25] [I 17 (.mv (.s 2)),I 18 (.bin .lss (.s 17) (V 0)),I 19 (.mv (.s 18)),G 20 19 false (.mv (.s 2)),G 21 19 false (.fadr 2 (.s 4)),G 22 19 false (.fadr 0 (.s 21)),G 23 19 false (.ld false 1 (.s 22)),G 24 19 false (.bin .gtr (.s 20) (.s 23)),I 25 (.pick (.s 19) (.v (.bool true)) (.s 24))])
def p_seek_Boundary_5:PC :=
 (.reg [6,7] [I 6 (.mv (.v (.bool false))),I 7 (.mv (V 3))])
def p_seek_Boundary_6:PC :=
 (.reg [0,2,4,30] [I 26 (.mv (.s 2)),I 27 (.fadr 2 (.s 4)),I 28 (.fadr 0 (.s 27)),I 29 (.ld false 1 (.s 28)),I 30 (.bin .eql (.s 26) (.s 29))])
def p_seek_Boundary_7:PC :=
 (.reg [6,7] [I 6 (.mv (.v (.bool true))),I 7 (.mv (V 0))])
def p_seek_Boundary_8:PC :=
 (.reg [9,10] [I 32 (.mv (.s 0)),I 33 (.ld true 5 (.s 4)),I 34 (.mv (.s 2)),I 35 (C F_seek_Byte [(.s 32),(.s 33),(.s 34)]),I 31 (.mv (.s 35)),I 36 (.ext (.s 31) 0),I 37 (.ext (.s 31) 1),I 9 (.mv (.s 36)),I 10 (.mv (.s 37))])
def p_seek_Boundary_9:PC :=
 (.reg [6,7] [I 38 (.mv (.s 10)),I 39 (.bin .eql (.s 38) (V 0)),I 40 (.mv (.s 39)),G 41 40 true (.mv (.s 9)),G 42 40 true (.bin .lss (.s 41) (.v (.int .u8 128))),G 43 40 true (.mv (.s 42)),G 44 43 false (.mv (.s 9)),G 45 43 false (.bin .gtr (.s 44) (.v (.int .u8 191))),G 46 40 true (.pick (.s 43) (.v (.bool true)) (.s 45)),I 47 (.pick (.s 40) (.s 46) (.v (.bool false))),I 48 (.mv (.s 10)),I 6 (.mv (.s 47)),I 7 (.mv (.s 48))])
def p_seek_Boundary:PF:=⟨false,
 (.seq p_seek_Boundary_0
 (.seq (.seq p_seek_Boundary_1
 (.seq p_seek_Boundary_2
 (.ite (.s 15)
 (.seq p_seek_Boundary_3
 .ret)
 .skip)))
 (.seq (.seq p_seek_Boundary_4
 (.ite (.s 25)
 (.seq p_seek_Boundary_5
 .ret)
 .skip))
 (.seq (.seq p_seek_Boundary_6
 (.ite (.s 30)
 (.seq p_seek_Boundary_7
 .ret)
 .skip))
 (.seq p_seek_Boundary_8
 (.seq p_seek_Boundary_9
 .ret)))))),
 [.s 6,.s 7]⟩
theorem c_seek_Boundary:compF Go.Proofs.Tryz.prog false h_seek_Boundary Go.Proofs.Tryz.f41=some p_seek_Boundary:=by kernel_rfl
def h_quartolaw16_Make:List Hint:=[H [0,1],H [0,1,8,9,10],H [0,1,8,9,26],H [4,5,6,7],H [1,8,9,11],H [1,8,9,11,12],H [1,8,9,11,12,33],H [1,8,9,11,12,13,14],H [1,8,9,11,12,13,48],H [4,5,6,7],H [1,8,9,11,12,13,15,16],H [1,8,9,11,12,13,15,58],H [4,5,6,7],H [1,8,9,11,12,15,16,17],H [1,8,9,11,12,15,16,17,69],H [1,8,9,11,12,15,17,71],H [4,5,6,7],H [1,8,9,11,12,15],H [1,8,9,11,12],H [1,8,9,11,12],H [4,5,6,7]]
def p_quartolaw16_Make_0:PC :=
 (.reg [0,1] [I 4 (.mv (.v .nilptr)),I 5 (.mv (.v .nils)),I 6 (.mv (.v .nils)),I 7 (.mv (.v (.bool false)))])
def p_quartolaw16_Make_1:PC :=
 (.reg [0,1,8,9,10] [I 20 (.mv (.s 0)),I 21 (C F_quartolaw16_laid [(.s 20)]),I 19 (.mv (.s 21)),I 22 (.ext (.s 19) 0),I 23 (.ext (.s 19) 1),I 24 (.ext (.s 19) 2),I 8 (.mv (.s 22)),I 9 (.mv (.s 23)),I 10 (.mv (.s 24))])
def p_quartolaw16_Make_2:PC :=
 (.reg [0,1,8,9,26] [I 25 (.mv (.s 10)),I 26 (.un .not (.s 25))])
def p_quartolaw16_Make_3:PC :=
 (.reg [4,5,6,7] [I 4 (.mv (.v .nilptr)),I 5 (.mv (.v .nils)),I 6 (.mv (.v .nils)),I 7 (.mv (.v (.bool false)))])
def p_quartolaw16_Make_4:PC :=
 (.reg [1,8,9,11] [I 27 (.bslice false 1 [] []),I 28 (.mv (.s 0)),I 29 (.app 1 16 (.s 27) (.s 28)),I 11 (.mv (.s 29))])
def p_quartolaw16_Make_5:PC :=
 (.reg [1,8,9,11,12] [I 12 (.mv (V 0))])
def p_quartolaw16_Make_6:PC :=
 (.reg [1,8,9,11,12,33] [I 30 (.mv (.s 12)),I 31 (.mv (.s 1)),I 32 (.len 1 (.s 31)),I 33 (.bin .lss (.s 30) (.s 32))])
def p_quartolaw16_Make_7:PC :=
 (.reg [1,8,9,11,12,13,14] [I 37 (.mv (.s 8)),I 38 (.mv (.s 9)),I 39 (.mv (.s 1)),I 40 (.mv (.s 12)),I 41 (.mv (.s 12)),I 42 (.bin .add (.s 41) (V 1)),I 43 (.slc 5 (.s 39) (some (.s 40)) (some (.s 42))),I 44 (C F_quartolaw16_plans [(.s 37),(.s 38),(.s 43)]),I 36 (.mv (.s 44)),I 45 (.ext (.s 36) 0),I 46 (.ext (.s 36) 1),I 13 (.mv (.s 45)),I 14 (.mv (.s 46))])
def p_quartolaw16_Make_8:PC :=
 (.reg [1,8,9,11,12,13,48] [I 47 (.mv (.s 14)),I 48 (.un .not (.s 47))])
def p_quartolaw16_Make_9:PC :=
 (.reg [4,5,6,7] [I 4 (.mv (.v .nilptr)),I 5 (.mv (.v .nils)),I 6 (.mv (.v .nils)),I 7 (.mv (.v (.bool false)))])
def p_quartolaw16_Make_10:PC :=
 (.reg [1,8,9,11,12,13,15,16] [I 50 (.mv (.s 8)),I 51 (.mv (.s 13)),I 52 (.ixS 7 (.s 51) (V 0)),I 53 (.ld true 7 (.s 52)),I 54 (C F_plan_Text [(.s 50),(.s 53)]),I 49 (.mv (.s 54)),I 55 (.ext (.s 49) 0),I 56 (.ext (.s 49) 1),I 15 (.mv (.s 55)),I 16 (.mv (.s 56))])
def p_quartolaw16_Make_11:PC :=
 (.reg [1,8,9,11,12,13,15,58] [I 57 (.mv (.s 16)),I 58 (.bin .neq (.s 57) (V 0))])
def p_quartolaw16_Make_12:PC :=
 (.reg [4,5,6,7] [I 4 (.mv (.v .nilptr)),I 5 (.mv (.v .nils)),I 6 (.mv (.v .nils)),I 7 (.mv (.v (.bool false)))])
def p_quartolaw16_Make_13:PC :=
 (.reg [1,8,9,11,12,15,16,17] [I 60 (.mv (.s 8)),I 61 (.mv (.s 13)),I 62 (.ixS 7 (.s 61) (V 0)),I 63 (.ld true 7 (.s 62)),I 64 (C F_rope_Write [(.s 60),(.s 63)]),I 59 (.mv (.s 64)),I 65 (.ext (.s 59) 0),I 66 (.ext (.s 59) 1),I 67 (.ext (.s 59) 2),I 17 (.box (.v ZR)),J (.st 5 (.s 17) (.s 65)),I 18 (.mv (.s 66)),I 16 (.mv (.s 67))])
def p_quartolaw16_Make_14:PC :=
 (.reg [1,8,9,11,12,15,16,17,69] [I 68 (.mv (.s 16)),I 69 (.bin .eql (.s 68) (V 6))])
def p_quartolaw16_Make_15:PC :=
 (.reg [1,8,9,11,12,15,17,71] [I 70 (.mv (.s 16)),I 71 (.bin .neq (.s 70) (V 0))])
def p_quartolaw16_Make_16:PC :=
 (.reg [4,5,6,7] [I 4 (.mv (.v .nilptr)),I 5 (.mv (.v .nils)),I 6 (.mv (.v .nils)),I 7 (.mv (.v (.bool false)))])
def p_quartolaw16_Make_17:PC :=
 (.reg [1,8,9,11,12,15] [I 72 (.mv (.s 9)),I 73 (.ld true 5 (.s 17)),I 74 (.bslice false 5 [ZR] [(0,(.s 73))]),I 75 (.app 5 40 (.s 72) (.s 74)),I 9 (.mv (.s 75))])
def p_quartolaw16_Make_18:PC :=
 (.reg [1,8,9,11,12] [I 76 (.mv (.s 11)),I 77 (.mv (.s 15)),I 78 (.bslice false 1 [(.str [])] [(0,(.s 77))]),I 79 (.app 1 16 (.s 76) (.s 78)),I 11 (.mv (.s 79))])
def p_quartolaw16_Make_19:PC :=
 (.reg [1,8,9,11,12] [I 34 (.mv (.s 12)),I 35 (.bin .add (.s 34) (V 1)),I 12 (.mv (.s 35))])
def p_quartolaw16_Make_20:PC :=
 (.seq (.seq p_quartolaw16_Make_6
 (.ite (.s 33)
 .skip
 (.exit 0)))
 (.seq (.block 1
 (.seq p_quartolaw16_Make_7
 (.seq (.seq p_quartolaw16_Make_8
 (.ite (.s 48)
 (.seq p_quartolaw16_Make_9
 .ret)
 .skip))
 (.seq p_quartolaw16_Make_10
 (.seq (.seq p_quartolaw16_Make_11
 (.ite (.s 58)
 (.seq p_quartolaw16_Make_12
 .ret)
 .skip))
 (.seq p_quartolaw16_Make_13
 (.seq (.seq p_quartolaw16_Make_14
 (.ite (.s 69)
 (.exit 1)
 .skip))
 (.seq (.seq p_quartolaw16_Make_15
 (.ite (.s 71)
 (.seq p_quartolaw16_Make_16
 .ret)
 .skip))
 (.seq p_quartolaw16_Make_17
 p_quartolaw16_Make_18)))))))))
 p_quartolaw16_Make_19))
def p_quartolaw16_Make_21:PC :=
 (.reg [4,5,6,7] [I 80 (.mv (.s 8)),I 81 (.mv (.s 9)),I 82 (.mv (.s 11)),I 4 (.mv (.s 80)),I 5 (.mv (.s 81)),I 6 (.mv (.s 82)),I 7 (.mv (.v (.bool true)))])
def p_quartolaw16_Make:PF:=⟨true,
 (.seq p_quartolaw16_Make_0
 (.seq p_quartolaw16_Make_1
 (.seq (.seq p_quartolaw16_Make_2
 (.ite (.s 26)
 (.seq p_quartolaw16_Make_3
 .ret)
 .skip))
 (.seq p_quartolaw16_Make_4
 (.seq (.seq p_quartolaw16_Make_5
 (.block 0
 (.loop p_quartolaw16_Make_20)))
 (.seq p_quartolaw16_Make_21
 .ret)))))),
 [.s 4,.s 5,.s 6,.s 7]⟩
theorem c_quartolaw16_Make:compF Go.Proofs.Tryz.prog true h_quartolaw16_Make Go.Proofs.Tryz.f44=some p_quartolaw16_Make:=by kernel_rfl
def h_quartolaw16_Pick:List Hint:=[H [0,1],H [4]]
def p_quartolaw16_Pick_0:PC :=
 (.reg [0,1] [I 4 (.mv (V 0))])
def p_quartolaw16_Pick_1:PC :=
 (.reg [4] [I 5 (.mv (.s 0)),I 6 (.mv (.s 1)),I 7 (C F_quartolaw16_pick [(.s 5),(.s 6)]),I 4 (.mv (.s 7))])
def p_quartolaw16_Pick:PF:=⟨false,
 (.seq p_quartolaw16_Pick_0
 (.seq p_quartolaw16_Pick_1
 .ret)),
 [.s 4]⟩
theorem c_quartolaw16_Pick:compF Go.Proofs.Tryz.prog false h_quartolaw16_Pick Go.Proofs.Tryz.f45=some p_quartolaw16_Pick:=by kernel_rfl
def h_arena_New:List Hint:=[H [0,1],H [0,6,7],H [0,6,7,15],H [4,5],H [4,5]]
def p_arena_New_0:PC :=
 (.reg [0,1] [I 4 (.mv (.v .nilptr)),I 5 (.mv (V 0))])
def p_arena_New_1:PC :=
 (.reg [0,6,7] [I 9 (.mv (.s 0)),I 10 (.mv (.s 1)),I 11 (C F_freelist_New [(.s 9),(.s 10)]),I 8 (.mv (.s 11)),I 12 (.ext (.s 8) 0),I 13 (.ext (.s 8) 1),I 6 (.mv (.s 12)),I 7 (.mv (.s 13))])
def p_arena_New_2:PC :=
 (.reg [0,6,7,15] [I 14 (.mv (.s 7)),I 15 (.bin .neq (.s 14) (V 0))])
def p_arena_New_3:PC :=
 (.reg [4,5] [I 16 (.mv (.s 7)),I 4 (.mv (.v .nilptr)),I 5 (.mv (.s 16))])
def p_arena_New_4:PC :=
 (.reg [4,5] [I 17 (.mv (.s 0)),I 18 (.mv (.s 6)),I 19 (.mkmap),I 20 (.build [(.int .i64 0),.nilptr,.nilmap,(.int .i64 0),(.int .i64 0),(.int .i64 0)] [(0,1,(.s 17)),(1,1,(.s 18)),(2,1,(.s 19))]),I 21 (.box (.s 20)),I 4 (.mv (.s 21)),I 5 (.mv (V 0))])
def p_arena_New:PF:=⟨true,
 (.seq p_arena_New_0
 (.seq p_arena_New_1
 (.seq (.seq p_arena_New_2
 (.ite (.s 15)
 (.seq p_arena_New_3
 .ret)
 .skip))
 (.seq p_arena_New_4
 .ret)))),
 [.s 4,.s 5]⟩
theorem c_arena_New:compF Go.Proofs.Tryz.prog true h_arena_New Go.Proofs.Tryz.f46=some p_arena_New:=by kernel_rfl
def h_rope_New:List Hint:=[H [0,1,4],H [0,1,4,11],H [4,5],H [0,4,6,7],H [0,4,6,7,19],H [4,5],H [4,7,8],H [4,5]]
def p_rope_New_0:PC :=
 (.reg [0,1,4] [I 4 (.box (.v ZR)),I 5 (.mv (V 0))])
def p_rope_New_1:PC :=
 (.reg [0,1,4,11] [I 10 (.mv (.s 0)),I 11 (.eqs false 3 [] (.s 10) (.v .nilptr))])
def p_rope_New_2:PC :=
 (.reg [4,5] [I 12 (.build [(.int .u64 0),(.int .i64 0),(.int .i64 0),(.int .i64 0),(.int .i64 0)] []),J (.st 5 (.s 4) (.s 12)),I 5 (.mv (V 1))])
def p_rope_New_3:PC :=
 (.reg [0,4,6,7] [I 14 (.mv (.s 1)),I 15 (C F_plan_Build [(.s 14)]),I 13 (.mv (.s 15)),I 16 (.ext (.s 13) 0),I 17 (.ext (.s 13) 1),I 6 (.box (.v ZT)),J (.st 7 (.s 6) (.s 16)),I 7 (.mv (.s 17))])
def p_rope_New_4:PC :=
 (.reg [0,4,6,7,19] [I 18 (.mv (.s 7)),I 19 (.bin .neq (.s 18) (V 0))])
def p_rope_New_5:PC :=
 (.reg [4,5] [I 20 (.build [(.int .u64 0),(.int .i64 0),(.int .i64 0),(.int .i64 0),(.int .i64 0)] []),I 21 (.mv (.s 7)),J (.st 5 (.s 4) (.s 20)),I 5 (.mv (.s 21))])
def p_rope_New_6:PC :=
 (.reg [4,7,8] [I 23 (.mv (.s 0)),I 24 (.ld true 7 (.s 6)),I 25 (C F_rope_Write [(.s 23),(.s 24)]),I 22 (.mv (.s 25)),I 26 (.ext (.s 22) 0),I 27 (.ext (.s 22) 1),I 28 (.ext (.s 22) 2),I 8 (.box (.v ZR)),J (.st 5 (.s 8) (.s 26)),I 9 (.mv (.s 27)),I 7 (.mv (.s 28))])
def p_rope_New_7:PC :=
 (.reg [4,5] [I 29 (.ld true 5 (.s 8)),I 30 (.mv (.s 7)),J (.st 5 (.s 4) (.s 29)),I 5 (.mv (.s 30))])
def p_rope_New:PF:=⟨false,
 (.seq p_rope_New_0
 (.seq (.seq p_rope_New_1
 (.ite (.s 11)
 (.seq p_rope_New_2
 .ret)
 .skip))
 (.seq p_rope_New_3
 (.seq (.seq p_rope_New_4
 (.ite (.s 19)
 (.seq p_rope_New_5
 .ret)
 .skip))
 (.seq p_rope_New_6
 (.seq p_rope_New_7
 .ret)))))),
 [.c 4 true 5,.s 5]⟩
theorem c_rope_New:compF Go.Proofs.Tryz.prog false h_rope_New Go.Proofs.Tryz.f47=some p_rope_New:=by kernel_rfl
def h_quartolaw17_same:List Hint:=[H [2,3],H [4]]
def p_quartolaw17_same_0:PC :=
 (.reg [2,3] [I 2 (.box (.s 0)),I 3 (.box (.s 1)),I 4 (.mv (.v .nilfunc))])
def p_quartolaw17_same_1:PC :=
 (.reg [4] [I 5 (.mkf (.func F_quartolaw17_sameC1) [] [(.s 2),(.s 3)]),I 4 (.mv (.s 5))])
def p_quartolaw17_same:PF:=⟨false,
 (.seq p_quartolaw17_same_0
 (.seq p_quartolaw17_same_1
 .ret)),
 [.s 4]⟩
theorem c_quartolaw17_same:compF Go.Proofs.Tryz.prog false h_quartolaw17_same Go.Proofs.Tryz.f48=some p_quartolaw17_same:=by kernel_rfl
def h_plan_Build:List Hint:=[H [0,2],H [0,2,14],H [2,3],⟨[0,2,4],[0],[],[],[],[]⟩,H [2,4,17,18,19],H [2,4,17,18,19,20],H [2,4,6,17,18,19],H [2,4,17,18,19],H [2,4,17,18,19],H [2,4,31],H [2,4,7,8],H [2,4,7,8,39],H [2,3],⟨[2,4,7,9],[0],[],[],[],[]⟩,H [2,4,9,42,43,44],H [2,4,9,42,43,44,45],H [2,4,9,11,42,43,44],H [2,4,9,11,42,43,44],H [2,4,9,42,43,44],H [2,4,9,42,43,44],H [2,4],H [2,3]]
def p_plan_Build_0:PC :=
 (.reg [0,2] [I 2 (.box (.v ZT)),I 3 (.mv (V 0))])
def p_plan_Build_1:PC :=
 (.reg [0,2,14] [I 12 (.mv (.s 0)),I 13 (.len 0 (.s 12)),I 14 (.bin .gtr (.s 13) (V 65536))])
def p_plan_Build_2:PC :=
 (.reg [2,3] [I 15 (.build [(.int .u64 0),(.int .i64 0),(.int .i64 0),(.int .i64 0),(.int .i64 0),(.str []),.nils] []),J (.st 7 (.s 2) (.s 15)),I 3 (.mv (V 5))])
def p_plan_Build_3:PC :=
 (.reg [0,2,4] [I 4 (.onil 7)])
def p_plan_Build_4:PC :=
 (.reg [2,4,17,18,19] [I 16 (.mv (.s 0)),I 17 (C F_chunk_Chunks [(.s 16)]),I 18 (.len 1 (.s 17)),I 19 (.mv (V 0))])
def p_plan_Build_5:PC :=
 (.reg [2,4,17,18,19,20] [I 20 (.bin .lss (.s 19) (.s 18))])
def p_plan_Build_6:PC :=
 (.reg [2,4,6,17,18,19] [I 21 (.ixS 1 (.s 17) (.s 19)),I 22 (.ld false 1 (.s 21)),I 6 (.mv (.s 22))])
def p_plan_Build_7:PC :=
 (.reg [2,4,17,18,19] [I 23 (.mv (.s 4)),I 24 (.mv (.s 6)),I 25 (.build [(.int .u64 0),(.int .i64 0),(.int .i64 0),(.int .i64 0),(.int .i64 0),(.str []),.nils] [(5,1,(.s 24))]),I 26 (.bslice false 7 [ZT] [(0,(.s 25))]),I 27 (.app 7 80 (.s 23) (.s 26)),I 4 (.mv (.s 27))])
def p_plan_Build_8:PC :=
 (.reg [2,4,17,18,19] [I 28 (.bin .add (.s 19) (V 1)),I 19 (.mv (.s 28))])
def p_plan_Build_9:PC :=
 (.seq p_plan_Build_5
 (.seq (.ite (.s 20)
 .skip
 (.exit 0))
 (.seq (.block 1
 (.seq p_plan_Build_6
 p_plan_Build_7))
 p_plan_Build_8)))
def p_plan_Build_10:PC :=
 (.reg [2,4,31] [I 29 (.mv (.s 4)),I 30 (.len 1 (.s 29)),I 31 (.bin .gtr (.s 30) (V 1))])
def p_plan_Build_11:PC :=
 (.reg [2,4,7,8] [I 33 (.mv (.s 4)),I 34 (.len 1 (.s 33)),I 35 (C F_chunk_Even [(.s 34),(V 4)]),I 32 (.mv (.s 35)),I 36 (.ext (.s 32) 0),I 37 (.ext (.s 32) 1),I 7 (.mv (.s 36)),I 8 (.mv (.s 37))])
def p_plan_Build_12:PC :=
 (.reg [2,4,7,8,39] [I 38 (.mv (.s 8)),I 39 (.bin .neq (.s 38) (V 0))])
def p_plan_Build_13:PC :=
 (.reg [2,3] [I 40 (.build [(.int .u64 0),(.int .i64 0),(.int .i64 0),(.int .i64 0),(.int .i64 0),(.str []),.nils] []),I 41 (.mv (.s 8)),J (.st 7 (.s 2) (.s 40)),I 3 (.mv (.s 41))])
def p_plan_Build_14:PC :=
 (.reg [2,4,7,9] [I 9 (.onil 7)])
def p_plan_Build_15:PC :=
 (.reg [2,4,9,42,43,44] [I 42 (.mv (.s 7)),I 43 (.len 1 (.s 42)),I 44 (.mv (V 0))])
def p_plan_Build_16:PC :=
 (.reg [2,4,9,42,43,44,45] [I 45 (.bin .lss (.s 44) (.s 43))])
def p_plan_Build_17:PC :=
 (.reg [2,4,9,11,42,43,44] [I 46 (.ixS 1 (.s 42) (.s 44)),I 47 (.ld false 1 (.s 46)),I 11 (.mv (.s 47))])
def p_plan_Build_18:PC :=
 (.reg [2,4,9,11,42,43,44] [I 48 (.mv (.s 9)),I 49 (.mv (.s 4)),I 50 (.mv (.s 11)),I 51 (.slc 7 (.s 49) none (some (.s 50))),I 52 (C F_plan_group [(.s 51)]),I 53 (.bslice false 7 [ZT] [(0,(.s 52))]),I 54 (.app 7 80 (.s 48) (.s 53)),I 9 (.mv (.s 54))])
def p_plan_Build_19:PC :=
 (.reg [2,4,9,42,43,44] [I 55 (.mv (.s 4)),I 56 (.mv (.s 11)),I 57 (.slc 7 (.s 55) (some (.s 56)) none),I 4 (.mv (.s 57))])
def p_plan_Build_20:PC :=
 (.reg [2,4,9,42,43,44] [I 58 (.bin .add (.s 44) (V 1)),I 44 (.mv (.s 58))])
def p_plan_Build_21:PC :=
 (.seq p_plan_Build_16
 (.seq (.ite (.s 45)
 .skip
 (.exit 4))
 (.seq (.block 5
 (.seq p_plan_Build_17
 (.seq p_plan_Build_18
 p_plan_Build_19)))
 p_plan_Build_20)))
def p_plan_Build_22:PC :=
 (.reg [2,4] [I 59 (.mv (.s 9)),I 4 (.mv (.s 59))])
def p_plan_Build_23:PC :=
 (.seq (.seq p_plan_Build_10
 (.ite (.s 31)
 .skip
 (.exit 2)))
 (.block 3
 (.seq p_plan_Build_11
 (.seq (.seq p_plan_Build_12
 (.ite (.s 39)
 (.seq p_plan_Build_13
 .ret)
 .skip))
 (.seq p_plan_Build_14
 (.seq (.seq p_plan_Build_15
 (.block 4
 (.loop p_plan_Build_21)))
 p_plan_Build_22))))))
def p_plan_Build_24:PC :=
 (.reg [2,3] [I 60 (.mv (.s 4)),I 61 (C F_plan_group [(.s 60)]),J (.st 7 (.s 2) (.s 61)),I 3 (.mv (V 0))])
def p_plan_Build:PF:=⟨false,
 (.seq p_plan_Build_0
 (.seq (.seq p_plan_Build_1
 (.ite (.s 14)
 (.seq p_plan_Build_2
 .ret)
 .skip))
 (.seq p_plan_Build_3
 (.seq (.seq p_plan_Build_4
 (.block 0
 (.loop p_plan_Build_9)))
 (.seq (.block 2
 (.loop p_plan_Build_23))
 (.seq p_plan_Build_24
 .ret)))))),
 [.c 2 true 7,.s 3]⟩
theorem c_plan_Build:compF Go.Proofs.Tryz.prog false h_plan_Build Go.Proofs.Tryz.f78=some p_plan_Build:=by kernel_rfl
def h_arena_Arena_Alloc:List Hint:=[H [0,3],H [0,3,16],H [4,5],H [0,3,6],H [0,3,6,20],H [4,5],H [0,3,23,24,25],H [0,3,23,24,25,26],H [0,3,8,23,24,25],H [0,3,8,9,10,23,24,25],H [0,3,8,9,23,24,25,40],H [4,5],H [0,3,8,9,11,12,23,24,25],H [0,3,23,24,25,61],H [4,5],H [0,3,23,24,25],H [0,3,13,14],H [0,3,13,14,72],H [4,5],H [0,3,13],H [0,13],H [13],H [4,5]]
def p_arena_Arena_Alloc_0:PC :=
 (.reg [0,3] [I 3 (.box (.s 1)),I 4 (.mv (.v (.int .u64 0))),I 5 (.mv (V 0))])
def p_arena_Arena_Alloc_1:PC :=
 (.reg [0,3,16] [I 15 (.mv (.s 0)),I 16 (.eqs false 3 [] (.s 15) (.v .nilptr))])
def p_arena_Arena_Alloc_2:PC :=
 (.reg [4,5] [I 4 (.mv (.v (.int .u64 0))),I 5 (.mv (V 1))])
def p_arena_Arena_Alloc_3:PC :=
 (.reg [0,3,6] [I 17 (.ld true 3 (.s 3)),I 18 (C F_node_Check [(.s 17)]),I 6 (.mv (.s 18))])
def p_arena_Arena_Alloc_4:PC :=
 (.reg [0,3,6,20] [I 19 (.mv (.s 6)),I 20 (.bin .neq (.s 19) (V 0))])
def p_arena_Arena_Alloc_5:PC :=
 (.reg [4,5] [I 21 (.mv (.s 6)),I 4 (.mv (.v (.int .u64 0))),I 5 (.mv (.s 21))])
def p_arena_Arena_Alloc_6:PC :=
 (.reg [0,3,23,24,25] [I 22 (.fadr 2 (.s 3)),I 23 (.ld false 1 (.s 22)),I 24 (.len 1 (.s 23)),I 25 (.mv (V 0))])
def p_arena_Arena_Alloc_7:PC :=
 (.reg [0,3,23,24,25,26] [I 26 (.bin .lss (.s 25) (.s 24))])
def p_arena_Arena_Alloc_8:PC :=
 (.reg [0,3,8,23,24,25] [I 27 (.ixS 4 (.s 23) (.s 25)),I 28 (.ld true 4 (.s 27)),I 8 (.box (.v ZK)),J (.st 4 (.s 8) (.s 28))])
def p_arena_Arena_Alloc_9:PC :=
 (.reg [0,3,8,9,10,23,24,25] [I 30 (.mv (.s 0)),I 31 (.nilck (.s 30)),I 32 (.fadr 2 (.s 31)),I 33 (.ld false 1 (.s 32)),I 34 (.fadr 0 (.s 8)),I 35 (.ld false 1 (.s 34)),I 36 (.look 0 ZN true (.s 33) (.s 35)),I 29 (.mv (.s 36)),I 37 (.ext (.s 29) 0),I 38 (.ext (.s 29) 1),I 9 (.box (.v ZN)),J (.st 3 (.s 9) (.s 37)),I 10 (.mv (.s 38))])
def p_arena_Arena_Alloc_10:PC :=
 (.reg [0,3,8,9,23,24,25,40] [I 39 (.mv (.s 10)),I 40 (.un .not (.s 39))])
def p_arena_Arena_Alloc_11:PC :=
 (.reg [4,5] [I 4 (.mv (.v (.int .u64 0))),I 5 (.mv (V 10))])
def p_arena_Arena_Alloc_12:PC :=
 (.reg [0,3,8,9,11,12,23,24,25] [I 42 (.ld true 3 (.s 9)),I 43 (C F_node_Measure [(.s 42)]),I 41 (.mv (.s 43)),I 44 (.ext (.s 41) 0),I 45 (.ext (.s 41) 1),I 11 (.box (.v ZM)),J (.st 3 (.s 11) (.s 44)),I 12 (.mv (.s 45))])
def p_arena_Arena_Alloc_13:PC :=
 (.reg [0,3,23,24,25,61] [I 46 (.mv (.s 12)),I 47 (.bin .neq (.s 46) (V 0)),I 48 (.mv (.s 47)),G 49 48 false (.fadr 0 (.s 9)),G 50 48 false (.ld false 1 (.s 49)),G 51 48 false (.fadr 0 (.s 3)),G 52 48 false (.ld false 1 (.s 51)),G 53 48 false (.bin .sub (.s 52) (V 1)),G 54 48 false (.bin .neq (.s 50) (.s 53)),I 55 (.pick (.s 48) (.v (.bool true)) (.s 54)),I 56 (.mv (.s 55)),G 57 56 false (.ld true 3 (.s 11)),G 58 56 false (.fadr 1 (.s 8)),G 59 56 false (.ld true 3 (.s 58)),G 60 56 false (.eqs true 0 [(0,0),(1,0),(2,0)] (.s 57) (.s 59)),I 61 (.pick (.s 56) (.v (.bool true)) (.s 60))])
def p_arena_Arena_Alloc_14:PC :=
 (.reg [4,5] [I 4 (.mv (.v (.int .u64 0))),I 5 (.mv (V 23))])
def p_arena_Arena_Alloc_15:PC :=
 (.reg [0,3,23,24,25] [I 62 (.bin .add (.s 25) (V 1)),I 25 (.mv (.s 62))])
def p_arena_Arena_Alloc_16:PC :=
 (.seq p_arena_Arena_Alloc_7
 (.seq (.ite (.s 26)
 .skip
 (.exit 0))
 (.seq (.block 1
 (.seq p_arena_Arena_Alloc_8
 (.seq p_arena_Arena_Alloc_9
 (.seq (.seq p_arena_Arena_Alloc_10
 (.ite (.s 40)
 (.seq p_arena_Arena_Alloc_11
 .ret)
 .skip))
 (.seq p_arena_Arena_Alloc_12
 (.seq p_arena_Arena_Alloc_13
 (.ite (.s 61)
 (.seq p_arena_Arena_Alloc_14
 .ret)
 .skip)))))))
 p_arena_Arena_Alloc_15)))
def p_arena_Arena_Alloc_17:PC :=
 (.reg [0,3,13,14] [I 64 (.mv (.s 0)),I 65 (.nilck (.s 64)),I 66 (.fadr 1 (.s 65)),I 67 (.ld false 1 (.s 66)),I 68 (C F_freelist_List_Take [(.s 67)]),I 63 (.mv (.s 68)),I 69 (.ext (.s 63) 0),I 70 (.ext (.s 63) 1),I 13 (.mv (.s 69)),I 14 (.mv (.s 70))])
def p_arena_Arena_Alloc_18:PC :=
 (.reg [0,3,13,14,72] [I 71 (.mv (.s 14)),I 72 (.bin .neq (.s 71) (V 0))])
def p_arena_Arena_Alloc_19:PC :=
 (.reg [4,5] [I 73 (.mv (.s 14)),I 4 (.mv (.v (.int .u64 0))),I 5 (.mv (.s 73))])
def p_arena_Arena_Alloc_20:PC :=
 (.reg [0,3,13] [I 74 (.fadr 2 (.s 3)),I 75 (.ld false 1 (.s 74)),I 76 (C F_slices_Clone_api_Kid_api_Kid [(.s 75)]),I 77 (.fadr 2 (.s 3)),J (.st 1 (.s 77) (.s 76))])
def p_arena_Arena_Alloc_21:PC :=
 (.reg [0,13] [I 78 (.mv (.s 0)),I 79 (.nilck (.s 78)),I 80 (.fadr 2 (.s 79)),I 81 (.ld false 1 (.s 80)),I 82 (.mv (.s 13)),I 83 (.ld true 3 (.s 3)),J (.mupd 0 (.s 81) (.s 82) (.s 83))])
def p_arena_Arena_Alloc_22:PC :=
 (.reg [13] [I 84 (.mv (.s 0)),I 85 (.nilck (.s 84)),I 86 (.fadr 3 (.s 85)),I 87 (.ld false 1 (.s 86)),I 88 (.bin .add (.s 87) (V 1)),I 89 (.nilck (.s 84)),I 90 (.fadr 3 (.s 89)),J (.st 1 (.s 90) (.s 88))])
def p_arena_Arena_Alloc_23:PC :=
 (.reg [4,5] [I 91 (.mv (.s 13)),I 4 (.mv (.s 91)),I 5 (.mv (V 0))])
def p_arena_Arena_Alloc:PF:=⟨false,
 (.seq p_arena_Arena_Alloc_0
 (.seq (.seq p_arena_Arena_Alloc_1
 (.ite (.s 16)
 (.seq p_arena_Arena_Alloc_2
 .ret)
 .skip))
 (.seq (.seq p_arena_Arena_Alloc_3
 (.seq p_arena_Arena_Alloc_4
 (.ite (.s 20)
 (.seq p_arena_Arena_Alloc_5
 .ret)
 .skip)))
 (.seq (.seq p_arena_Arena_Alloc_6
 (.block 0
 (.loop p_arena_Arena_Alloc_16)))
 (.seq p_arena_Arena_Alloc_17
 (.seq (.seq p_arena_Arena_Alloc_18
 (.ite (.s 72)
 (.seq p_arena_Arena_Alloc_19
 .ret)
 .skip))
 (.seq p_arena_Arena_Alloc_20
 (.seq p_arena_Arena_Alloc_21
 (.seq p_arena_Arena_Alloc_22
 (.seq p_arena_Arena_Alloc_23
 .ret)))))))))),
 [.s 4,.s 5]⟩
theorem c_arena_Arena_Alloc:compF Go.Proofs.Tryz.prog false h_arena_Arena_Alloc Go.Proofs.Tryz.f82=some p_arena_Arena_Alloc:=by kernel_rfl
def h_plan_Keep:List Hint:=[H [0,3,4],H [0,3,4,8],H [4,5],H [0,3,4,12],H [4,5],H [0,3,4,16],H [4,5],H [3,4,6],H [3,4,6,27],H [4,5],H [4,5]]
def p_plan_Keep_0:PC :=
 (.reg [0,3,4] [I 3 (.box (.s 1)),I 4 (.box (.v ZT)),I 5 (.mv (V 0))])
def p_plan_Keep_1:PC :=
 (.reg [0,3,4,8] [I 7 (.mv (.s 0)),I 8 (.eqs false 3 [] (.s 7) (.v .nilptr))])
def p_plan_Keep_2:PC :=
 (.reg [4,5] [I 9 (.build [(.int .u64 0),(.int .i64 0),(.int .i64 0),(.int .i64 0),(.int .i64 0),(.str []),.nils] []),J (.st 7 (.s 4) (.s 9)),I 5 (.mv (V 1))])
def p_plan_Keep_3:PC :=
 (.reg [0,3,4,12] [I 10 (.ld true 5 (.s 3)),I 11 (.build [(.int .u64 0),(.int .i64 0),(.int .i64 0),(.int .i64 0),(.int .i64 0)] []),I 12 (.eqs false 0 [(0,0),(1,0),(2,0),(3,0),(4,0)] (.s 10) (.s 11))])
def p_plan_Keep_4:PC :=
 (.reg [4,5] [I 13 (.build [(.int .u64 0),(.int .i64 0),(.int .i64 0),(.int .i64 0),(.int .i64 0),(.str []),.nils] []),J (.st 7 (.s 4) (.s 13)),I 5 (.mv (V 0))])
def p_plan_Keep_5:PC :=
 (.reg [0,3,4,16] [I 14 (.fadr 0 (.s 3)),I 15 (.ld false 1 (.s 14)),I 16 (.bin .eql (.s 15) (.v (.int .u64 0)))])
def p_plan_Keep_6:PC :=
 (.reg [4,5] [I 17 (.build [(.int .u64 0),(.int .i64 0),(.int .i64 0),(.int .i64 0),(.int .i64 0),(.str []),.nils] []),J (.st 7 (.s 4) (.s 17)),I 5 (.mv (V 2))])
def p_plan_Keep_7:PC :=
 (.reg [3,4,6] [I 18 (.mv (.s 0)),I 19 (.fadr 0 (.s 3)),I 20 (.ld false 1 (.s 19)),I 21 (.fadr 1 (.s 3)),I 22 (.ld false 1 (.s 21)),I 23 (.fadr 2 (.s 3)),I 24 (.ld true 3 (.s 23)),I 25 (C F_plan_same [(.s 18),(.s 20),(.s 22),(.s 24)]),I 6 (.mv (.s 25))])
def p_plan_Keep_8:PC :=
 (.reg [3,4,6,27] [I 26 (.mv (.s 6)),I 27 (.bin .neq (.s 26) (V 0))])
def p_plan_Keep_9:PC :=
 (.reg [4,5] [I 28 (.build [(.int .u64 0),(.int .i64 0),(.int .i64 0),(.int .i64 0),(.int .i64 0),(.str []),.nils] []),I 29 (.mv (.s 6)),J (.st 7 (.s 4) (.s 28)),I 5 (.mv (.s 29))])
def p_plan_Keep_10:PC :=
 (.reg [4,5] [I 30 (.fadr 0 (.s 3)),I 31 (.ld false 1 (.s 30)),I 32 (.fadr 1 (.s 3)),I 33 (.ld false 1 (.s 32)),I 34 (.fadr 2 (.s 3)),I 35 (.ld true 3 (.s 34)),I 36 (.build [(.int .u64 0),(.int .i64 0),(.int .i64 0),(.int .i64 0),(.int .i64 0),(.str []),.nils] [(0,1,(.s 31)),(1,1,(.s 33)),(2,3,(.s 35))]),J (.st 7 (.s 4) (.s 36)),I 5 (.mv (V 0))])
def p_plan_Keep:PF:=⟨false,
 (.seq p_plan_Keep_0
 (.seq (.seq p_plan_Keep_1
 (.ite (.s 8)
 (.seq p_plan_Keep_2
 .ret)
 .skip))
 (.seq (.seq p_plan_Keep_3
 (.ite (.s 12)
 (.seq p_plan_Keep_4
 .ret)
 .skip))
 (.seq (.seq p_plan_Keep_5
 (.ite (.s 16)
 (.seq p_plan_Keep_6
 .ret)
 .skip))
 (.seq (.seq p_plan_Keep_7
 (.seq p_plan_Keep_8
 (.ite (.s 27)
 (.seq p_plan_Keep_9
 .ret)
 .skip)))
 (.seq p_plan_Keep_10
 .ret)))))),
 [.c 4 true 7,.s 5]⟩
theorem c_plan_Keep:compF Go.Proofs.Tryz.prog false h_plan_Keep Go.Proofs.Tryz.f85=some p_plan_Keep:=by kernel_rfl
def h_plan_Replace:List Hint:=[H [0,2,3,4,6,10],H [0,2,3,4,6,10,12],H [0,2,3,4,6,10,12,24],H [10,11],H [0,2,3,4,6,10,13],H [0,2,3,4,6,10,13,46],H [10,11],H [0,2,3,4,6,10,60],H [10,11],H [0,2,3,4,6,10,67],H [10,11],H [0,3,4,10,14,15,16],H [0,3,4,10,14,15,16,79],H [10,11],H [0,4,10,14,16,18],H [0,4,10,14,16,18,91],H [10,11],H [0,10,14,16,18,19],H [0,10,14,16,18,19,100],H [10,11],H [0,10,14,16,18],H [0,10,14,16,18,111],H [10,11],H [10,14,16],H [10,11]]
def p_plan_Replace_0:PC :=
 (.reg [0,2,3,4,6,10] [I 6 (.box (.s 1)),I 10 (.box (.v ZT)),I 11 (.mv (V 0))])
def p_plan_Replace_1:PC :=
 (.reg [0,2,3,4,6,10,12] [I 20 (.mv (.s 0)),I 21 (.ld true 7 (.s 6)),I 22 (C F_plan_Check [(.s 20),(.s 21)]),I 12 (.mv (.s 22))])
def p_plan_Replace_2:PC :=
 (.reg [0,2,3,4,6,10,12,24] [I 23 (.mv (.s 12)),I 24 (.bin .neq (.s 23) (V 0))])
def p_plan_Replace_3:PC :=
 (.reg [10,11] [I 25 (.build [(.int .u64 0),(.int .i64 0),(.int .i64 0),(.int .i64 0),(.int .i64 0),(.str []),.nils] []),I 26 (.mv (.s 12)),J (.st 7 (.s 10) (.s 25)),I 11 (.mv (.s 26))])
def p_plan_Replace_4:PC :=
 (.reg [0,2,3,4,6,10,13] [I 27 (.ld true 7 (.s 6)),I 28 (C F_plan_bytes [(.s 27)]),I 13 (.mv (.s 28))])
def p_plan_Replace_5:PC :=
 (.reg [0,2,3,4,6,10,13,46] [I 29 (.mv (.s 2)),I 30 (.bin .lss (.s 29) (V 0)),I 31 (.mv (.s 30)),G 32 31 false (.mv (.s 2)),G 33 31 false (.mv (.s 13)),G 34 31 false (.bin .gtr (.s 32) (.s 33)),I 35 (.pick (.s 31) (.v (.bool true)) (.s 34)),I 36 (.mv (.s 35)),G 37 36 false (.mv (.s 3)),G 38 36 false (.bin .lss (.s 37) (V 0)),I 39 (.pick (.s 36) (.v (.bool true)) (.s 38)),I 40 (.mv (.s 39)),G 41 40 false (.mv (.s 3)),G 42 40 false (.mv (.s 13)),G 43 40 false (.mv (.s 2)),G 44 40 false (.bin .sub (.s 42) (.s 43)),G 45 40 false (.bin .gtr (.s 41) (.s 44)),I 46 (.pick (.s 40) (.v (.bool true)) (.s 45))])
def p_plan_Replace_6:PC :=
 (.reg [10,11] [I 47 (.build [(.int .u64 0),(.int .i64 0),(.int .i64 0),(.int .i64 0),(.int .i64 0),(.str []),.nils] []),J (.st 7 (.s 10) (.s 47)),I 11 (.mv (V 3))])
def p_plan_Replace_7:PC :=
 (.reg [0,2,3,4,6,10,60] [I 48 (.mv (.s 13)),I 49 (.mv (.s 3)),I 50 (.bin .sub (.s 48) (.s 49)),I 51 (.mv (.s 4)),I 52 (.len 0 (.s 51)),I 53 (.mnx false (.s 52) (V 65536)),I 54 (.bin .sub (V 65536) (.s 53)),I 55 (.bin .gtr (.s 50) (.s 54)),I 56 (.mv (.s 55)),G 57 56 false (.mv (.s 4)),G 58 56 false (.len 0 (.s 57)),G 59 56 false (.bin .gtr (.s 58) (V 65536)),I 60 (.pick (.s 56) (.v (.bool true)) (.s 59))])
def p_plan_Replace_8:PC :=
 (.reg [10,11] [I 61 (.build [(.int .u64 0),(.int .i64 0),(.int .i64 0),(.int .i64 0),(.int .i64 0),(.str []),.nils] []),J (.st 7 (.s 10) (.s 61)),I 11 (.mv (V 5))])
def p_plan_Replace_9:PC :=
 (.reg [0,2,3,4,6,10,67] [I 62 (.mv (.s 3)),I 63 (.bin .eql (.s 62) (V 0)),I 64 (.mv (.s 63)),G 65 64 true (.mv (.s 4)),G 66 64 true (.bin .eql (.s 65) (.v (.str []))),I 67 (.pick (.s 64) (.s 66) (.v (.bool false)))])
def p_plan_Replace_10:PC :=
 (.reg [10,11] [I 68 (.ld true 7 (.s 6)),I 69 (C F_plan_own [(.s 68)]),J (.st 7 (.s 10) (.s 69)),I 11 (.mv (V 0))])
def p_plan_Replace_11:PC :=
 (.reg [0,3,4,10,14,15,16] [I 71 (.mv (.s 0)),I 72 (.ld true 7 (.s 6)),I 73 (.mv (.s 2)),I 74 (C F_plan_cut [(.s 71),(.s 72),(.s 73)]),I 70 (.mv (.s 74)),I 75 (.ext (.s 70) 0),I 76 (.ext (.s 70) 1),I 77 (.ext (.s 70) 2),I 14 (.box (.v ZT)),I 15 (.box (.v ZT)),J (.st 7 (.s 14) (.s 75)),J (.st 7 (.s 15) (.s 76)),I 16 (.mv (.s 77))])
def p_plan_Replace_12:PC :=
 (.reg [0,3,4,10,14,15,16,79] [I 78 (.mv (.s 16)),I 79 (.bin .neq (.s 78) (V 0))])
def p_plan_Replace_13:PC :=
 (.reg [10,11] [I 80 (.build [(.int .u64 0),(.int .i64 0),(.int .i64 0),(.int .i64 0),(.int .i64 0),(.str []),.nils] []),I 81 (.mv (.s 16)),J (.st 7 (.s 10) (.s 80)),I 11 (.mv (.s 81))])
def p_plan_Replace_14:PC :=
 (.reg [0,4,10,14,16,18] [I 83 (.mv (.s 0)),I 84 (.ld true 7 (.s 15)),I 85 (.mv (.s 3)),I 86 (C F_plan_cut [(.s 83),(.s 84),(.s 85)]),I 82 (.mv (.s 86)),I 87 (.ext (.s 82) 0),I 88 (.ext (.s 82) 1),I 89 (.ext (.s 82) 2),I 17 (.box (.v ZT)),I 18 (.box (.v ZT)),J (.st 7 (.s 17) (.s 87)),J (.st 7 (.s 18) (.s 88)),I 16 (.mv (.s 89))])
def p_plan_Replace_15:PC :=
 (.reg [0,4,10,14,16,18,91] [I 90 (.mv (.s 16)),I 91 (.bin .neq (.s 90) (V 0))])
def p_plan_Replace_16:PC :=
 (.reg [10,11] [I 92 (.build [(.int .u64 0),(.int .i64 0),(.int .i64 0),(.int .i64 0),(.int .i64 0),(.str []),.nils] []),I 93 (.mv (.s 16)),J (.st 7 (.s 10) (.s 92)),I 11 (.mv (.s 93))])
def p_plan_Replace_17:PC :=
 (.reg [0,10,14,16,18,19] [I 95 (.mv (.s 4)),I 96 (C F_plan_Build [(.s 95)]),I 94 (.mv (.s 96)),I 97 (.ext (.s 94) 0),I 98 (.ext (.s 94) 1),I 19 (.box (.v ZT)),J (.st 7 (.s 19) (.s 97)),I 16 (.mv (.s 98))])
def p_plan_Replace_18:PC :=
 (.reg [0,10,14,16,18,19,100] [I 99 (.mv (.s 16)),I 100 (.bin .neq (.s 99) (V 0))])
def p_plan_Replace_19:PC :=
 (.reg [10,11] [I 101 (.build [(.int .u64 0),(.int .i64 0),(.int .i64 0),(.int .i64 0),(.int .i64 0),(.str []),.nils] []),I 102 (.mv (.s 16)),J (.st 7 (.s 10) (.s 101)),I 11 (.mv (.s 102))])
def p_plan_Replace_20:PC :=
 (.reg [0,10,14,16,18] [I 104 (.mv (.s 0)),I 105 (.ld true 7 (.s 14)),I 106 (.ld true 7 (.s 19)),I 107 (C F_plan_concat [(.s 104),(.s 105),(.s 106)]),I 103 (.mv (.s 107)),I 108 (.ext (.s 103) 0),I 109 (.ext (.s 103) 1),J (.st 7 (.s 14) (.s 108)),I 16 (.mv (.s 109))])
def p_plan_Replace_21:PC :=
 (.reg [0,10,14,16,18,111] [I 110 (.mv (.s 16)),I 111 (.bin .neq (.s 110) (V 0))])
def p_plan_Replace_22:PC :=
 (.reg [10,11] [I 112 (.build [(.int .u64 0),(.int .i64 0),(.int .i64 0),(.int .i64 0),(.int .i64 0),(.str []),.nils] []),I 113 (.mv (.s 16)),J (.st 7 (.s 10) (.s 112)),I 11 (.mv (.s 113))])
def p_plan_Replace_23:PC :=
 (.reg [10,14,16] [I 115 (.mv (.s 0)),I 116 (.ld true 7 (.s 14)),I 117 (.ld true 7 (.s 18)),I 118 (C F_plan_concat [(.s 115),(.s 116),(.s 117)]),I 114 (.mv (.s 118)),I 119 (.ext (.s 114) 0),I 120 (.ext (.s 114) 1),J (.st 7 (.s 14) (.s 119)),I 16 (.mv (.s 120))])
def p_plan_Replace_24:PC :=
 (.reg [10,11] [I 121 (.ld true 7 (.s 14)),I 122 (C F_plan_own [(.s 121)]),I 123 (.mv (.s 16)),J (.st 7 (.s 10) (.s 122)),I 11 (.mv (.s 123))])
def p_plan_Replace:PF:=⟨false,
 (.seq p_plan_Replace_0
 (.seq (.seq p_plan_Replace_1
 (.seq p_plan_Replace_2
 (.ite (.s 24)
 (.seq p_plan_Replace_3
 .ret)
 .skip)))
 (.seq p_plan_Replace_4
 (.seq (.seq p_plan_Replace_5
 (.ite (.s 46)
 (.seq p_plan_Replace_6
 .ret)
 .skip))
 (.seq (.seq p_plan_Replace_7
 (.ite (.s 60)
 (.seq p_plan_Replace_8
 .ret)
 .skip))
 (.seq (.seq p_plan_Replace_9
 (.ite (.s 67)
 (.seq p_plan_Replace_10
 .ret)
 .skip))
 (.seq p_plan_Replace_11
 (.seq (.seq p_plan_Replace_12
 (.ite (.s 79)
 (.seq p_plan_Replace_13
 .ret)
 .skip))
 (.seq p_plan_Replace_14
 (.seq (.seq p_plan_Replace_15
 (.ite (.s 91)
 (.seq p_plan_Replace_16
 .ret)
 .skip))
 (.seq p_plan_Replace_17
 (.seq (.seq p_plan_Replace_18
 (.ite (.s 100)
 (.seq p_plan_Replace_19
 .ret)
 .skip))
 (.seq (.seq p_plan_Replace_20
 (.seq p_plan_Replace_21
 (.ite (.s 111)
 (.seq p_plan_Replace_22
 .ret)
 .skip)))
 (.seq p_plan_Replace_23
 (.seq p_plan_Replace_24
 .ret))))))))))))))),
 [.c 10 true 7,.s 11]⟩
theorem c_plan_Replace:compF Go.Proofs.Tryz.prog false h_plan_Replace Go.Proofs.Tryz.f95=some p_plan_Replace:=by kernel_rfl
def h_plan_Check:List Hint:=[H [0,3],H [0,3,7],H [4],H [0,3,10],H [4],H [3,5],H [3,5,15],H [4],H [19],H [4],H [4]]
def p_plan_Check_0:PC :=
 (.reg [0,3] [I 3 (.box (.s 1)),I 4 (.mv (V 0))])
def p_plan_Check_1:PC :=
 (.reg [0,3,7] [I 6 (.mv (.s 0)),I 7 (.eqs false 3 [] (.s 6) (.v .nilptr))])
def p_plan_Check_2:PC :=
 (.reg [4] [I 4 (.mv (V 1))])
def p_plan_Check_3:PC :=
 (.reg [0,3,10] [I 8 (.ld true 7 (.s 3)),I 9 (C F_plan_kind [(.s 8)]),I 10 (.bin .eql (.s 9) (V 1))])
def p_plan_Check_4:PC :=
 (.reg [4] [I 4 (.mv (V 0))])
def p_plan_Check_5:PC :=
 (.reg [3,5] [I 11 (.mv (.s 0)),I 12 (.ld true 7 (.s 3)),I 13 (C F_plan_check [(.s 11),(.s 12),(.v (.bool false)),(V 0)]),I 5 (.mv (.s 13))])
def p_plan_Check_6:PC :=
 (.reg [3,5,15] [I 14 (.mv (.s 5)),I 15 (.bin .neq (.s 14) (V 0))])
def p_plan_Check_7:PC :=
 (.reg [4] [I 16 (.mv (.s 5)),I 4 (.mv (.s 16))])
def p_plan_Check_8:PC :=
 (.reg [19] [I 17 (.ld true 7 (.s 3)),I 18 (C F_plan_bytes [(.s 17)]),I 19 (.bin .gtr (.s 18) (V 65536))])
def p_plan_Check_9:PC :=
 (.reg [4] [I 4 (.mv (V 5))])
def p_plan_Check_10:PC :=
 (.reg [4] [I 4 (.mv (V 0))])
def p_plan_Check:PF:=⟨false,
 (.seq p_plan_Check_0
 (.seq (.seq p_plan_Check_1
 (.ite (.s 7)
 (.seq p_plan_Check_2
 .ret)
 .skip))
 (.seq (.seq p_plan_Check_3
 (.ite (.s 10)
 (.seq p_plan_Check_4
 .ret)
 .skip))
 (.seq (.seq p_plan_Check_5
 (.seq p_plan_Check_6
 (.ite (.s 15)
 (.seq p_plan_Check_7
 .ret)
 .skip)))
 (.seq (.seq p_plan_Check_8
 (.ite (.s 19)
 (.seq p_plan_Check_9
 .ret)
 .skip))
 (.seq p_plan_Check_10
 .ret)))))),
 [.s 4]⟩
theorem c_plan_Check:compF Go.Proofs.Tryz.prog false h_plan_Check Go.Proofs.Tryz.f98=some p_plan_Check:=by kernel_rfl
def h_plan_TextC1:List Hint:=[H [1,2,3,4],H [1,2,3,4,15],H [2,6,7],H [7],H [5],H [3,8,9],H [3,8,9,33],H [5],H [3,35,36,37],H [3,35,36,37,38],H [3,11,35,36,37],H [3,12,35,36,37],H [3,12,35,36,37,45],H [5],H [3,35,36,37],H [5]]
def p_plan_TextC1_0:PC :=
 (.reg [1,2,3,4] [I 4 (.box (.s 0)),I 5 (.mv (V 0))])
def p_plan_TextC1_1:PC :=
 (.reg [1,2,3,4,15] [I 13 (.fadr 1 (.s 4)),I 14 (.ld false 1 (.s 13)),I 15 (.bin .eql (.s 14) (V 0))])
def p_plan_TextC1_2:PC :=
 (.reg [2,6,7] [I 17 (.ld false 1 (.s 1)),I 18 (.ld true 7 (.s 4)),I 19 (C F_plan_line [(.s 17),(.s 18)]),I 16 (.mv (.s 19)),I 20 (.ext (.s 16) 0),I 21 (.ext (.s 16) 1),I 6 (.mv (.s 20)),I 7 (.mv (.s 21))])
def p_plan_TextC1_3:PC :=
 (.reg [7] [I 22 (.ld false 1 (.s 2)),I 23 (.mv (.s 6)),I 24 (.app 1 1 (.s 22) (.s 23)),J (.st 1 (.s 2) (.s 24))])
def p_plan_TextC1_4:PC :=
 (.reg [5] [I 25 (.mv (.s 7)),I 5 (.mv (.s 25))])
def p_plan_TextC1_5:PC :=
 (.reg [3,8,9] [I 27 (.ld false 1 (.s 1)),I 28 (.ld true 7 (.s 4)),I 29 (C F_plan_children [(.s 27),(.s 28)]),I 26 (.mv (.s 29)),I 30 (.ext (.s 26) 0),I 31 (.ext (.s 26) 1),I 8 (.mv (.s 30)),I 9 (.mv (.s 31))])
def p_plan_TextC1_6:PC :=
 (.reg [3,8,9,33] [I 32 (.mv (.s 9)),I 33 (.bin .neq (.s 32) (V 0))])
def p_plan_TextC1_7:PC :=
 (.reg [5] [I 34 (.mv (.s 9)),I 5 (.mv (.s 34))])
def p_plan_TextC1_8:PC :=
 (.reg [3,35,36,37] [I 35 (.mv (.s 8)),I 36 (.len 1 (.s 35)),I 37 (.mv (V 0))])
def p_plan_TextC1_9:PC :=
 (.reg [3,35,36,37,38] [I 38 (.bin .lss (.s 37) (.s 36))])
def p_plan_TextC1_10:PC :=
 (.reg [3,11,35,36,37] [I 39 (.ixS 7 (.s 35) (.s 37)),I 40 (.ld true 7 (.s 39)),I 11 (.box (.v ZT)),J (.st 7 (.s 11) (.s 40))])
def p_plan_TextC1_11:PC :=
 (.reg [3,12,35,36,37] [I 41 (.ld false 1 (.s 3)),I 42 (.ld true 7 (.s 11)),I 43 (.call .norm (.s 41) [(.s 42)]),I 12 (.mv (.s 43))])
def p_plan_TextC1_12:PC :=
 (.reg [3,12,35,36,37,45] [I 44 (.mv (.s 12)),I 45 (.bin .neq (.s 44) (V 0))])
def p_plan_TextC1_13:PC :=
 (.reg [5] [I 46 (.mv (.s 12)),I 5 (.mv (.s 46))])
def p_plan_TextC1_14:PC :=
 (.reg [3,35,36,37] [I 47 (.bin .add (.s 37) (V 1)),I 37 (.mv (.s 47))])
def p_plan_TextC1_15:PC :=
 (.seq p_plan_TextC1_9
 (.seq (.ite (.s 38)
 .skip
 (.exit 0))
 (.seq (.block 1
 (.seq p_plan_TextC1_10
 (.seq p_plan_TextC1_11
 (.seq p_plan_TextC1_12
 (.ite (.s 45)
 (.seq p_plan_TextC1_13
 .ret)
 .skip)))))
 p_plan_TextC1_14)))
def p_plan_TextC1_16:PC :=
 (.reg [5] [I 5 (.mv (V 0))])
def p_plan_TextC1:PF:=⟨false,
 (.seq p_plan_TextC1_0
 (.seq (.seq p_plan_TextC1_1
 (.ite (.s 15)
 (.seq p_plan_TextC1_2
 (.seq p_plan_TextC1_3
 (.seq p_plan_TextC1_4
 .ret)))
 .skip))
 (.seq p_plan_TextC1_5
 (.seq (.seq p_plan_TextC1_6
 (.ite (.s 33)
 (.seq p_plan_TextC1_7
 .ret)
 .skip))
 (.seq (.seq p_plan_TextC1_8
 (.block 0
 (.loop p_plan_TextC1_15)))
 (.seq p_plan_TextC1_16
 .ret)))))),
 [.s 5]⟩
theorem c_plan_TextC1:compF Go.Proofs.Tryz.prog false h_plan_TextC1 Go.Proofs.Tryz.f99=some p_plan_TextC1:=by kernel_rfl
def h_plan_line:List Hint:=[H [0,3],H [0,3,10],H [4,5],H [6,7],H [4,5]]
def p_plan_line_0:PC :=
 (.reg [0,3] [I 3 (.box (.s 1)),I 4 (.mv (.v (.str []))),I 5 (.mv (V 0))])
def p_plan_line_1:PC :=
 (.reg [0,3,10] [I 8 (.fadr 0 (.s 3)),I 9 (.ld false 1 (.s 8)),I 10 (.bin .eql (.s 9) (.v (.int .u64 0)))])
def p_plan_line_2:PC :=
 (.reg [4,5] [I 11 (.fadr 5 (.s 3)),I 12 (.ld false 1 (.s 11)),I 4 (.mv (.s 12)),I 5 (.mv (V 0))])
def p_plan_line_3:PC :=
 (.reg [6,7] [I 14 (.mv (.s 0)),I 15 (.fadr 0 (.s 3)),I 16 (.ld false 1 (.s 15)),I 17 (C F_arena_Arena_Get [(.s 14),(.s 16)]),I 13 (.mv (.s 17)),I 18 (.ext (.s 13) 0),I 19 (.ext (.s 13) 1),I 6 (.box (.v ZN)),J (.st 3 (.s 6) (.s 18)),I 7 (.mv (.s 19))])
def p_plan_line_4:PC :=
 (.reg [4,5] [I 20 (.fadr 1 (.s 6)),I 21 (.ld false 1 (.s 20)),I 22 (.mv (.s 7)),I 4 (.mv (.s 21)),I 5 (.mv (.s 22))])
def p_plan_line:PF:=⟨false,
 (.seq p_plan_line_0
 (.seq (.seq p_plan_line_1
 (.ite (.s 10)
 (.seq p_plan_line_2
 .ret)
 .skip))
 (.seq p_plan_line_3
 (.seq p_plan_line_4
 .ret)))),
 [.s 4,.s 5]⟩
theorem c_plan_line:compF Go.Proofs.Tryz.prog false h_plan_line Go.Proofs.Tryz.f100=some p_plan_line:=by kernel_rfl
def h_plan_children:List Hint:=[H [0,3],H [0,3,13],H [4,5],H [6,7],H [6,7,24],H [4,5],⟨[6,8],[0],[],[],[],[]⟩,H [6,8,27,28,29],H [6,8,27,28,29,30],H [6,8,10,27,28,29],H [6,8,27,28,29],H [6,8,27,28,29],H [8,47],H [4,5],H [4,5]]
def p_plan_children_0:PC :=
 (.reg [0,3] [I 3 (.box (.s 1)),I 4 (.mv (.v .nils)),I 5 (.mv (V 0))])
def p_plan_children_1:PC :=
 (.reg [0,3,13] [I 11 (.fadr 0 (.s 3)),I 12 (.ld false 1 (.s 11)),I 13 (.bin .eql (.s 12) (.v (.int .u64 0)))])
def p_plan_children_2:PC :=
 (.reg [4,5] [I 14 (.fadr 6 (.s 3)),I 15 (.ld false 1 (.s 14)),I 4 (.mv (.s 15)),I 5 (.mv (V 0))])
def p_plan_children_3:PC :=
 (.reg [6,7] [I 17 (.mv (.s 0)),I 18 (.fadr 0 (.s 3)),I 19 (.ld false 1 (.s 18)),I 20 (C F_arena_Arena_Get [(.s 17),(.s 19)]),I 16 (.mv (.s 20)),I 21 (.ext (.s 16) 0),I 22 (.ext (.s 16) 1),I 6 (.box (.v ZN)),J (.st 3 (.s 6) (.s 21)),I 7 (.mv (.s 22))])
def p_plan_children_4:PC :=
 (.reg [6,7,24] [I 23 (.mv (.s 7)),I 24 (.bin .neq (.s 23) (V 0))])
def p_plan_children_5:PC :=
 (.reg [4,5] [I 25 (.mv (.s 7)),I 4 (.mv (.v .nils)),I 5 (.mv (.s 25))])
def p_plan_children_6:PC :=
 (.reg [6,8] [I 8 (.onil 7)])
def p_plan_children_7:PC :=
 (.reg [6,8,27,28,29] [I 26 (.fadr 2 (.s 6)),I 27 (.ld false 1 (.s 26)),I 28 (.len 1 (.s 27)),I 29 (.mv (V 0))])
def p_plan_children_8:PC :=
 (.reg [6,8,27,28,29,30] [I 30 (.bin .lss (.s 29) (.s 28))])
def p_plan_children_9:PC :=
 (.reg [6,8,10,27,28,29] [I 31 (.ixS 4 (.s 27) (.s 29)),I 32 (.ld true 4 (.s 31)),I 10 (.box (.v ZK)),J (.st 4 (.s 10) (.s 32))])
def p_plan_children_10:PC :=
 (.reg [6,8,27,28,29] [I 33 (.mv (.s 8)),I 34 (.fadr 0 (.s 10)),I 35 (.ld false 1 (.s 34)),I 36 (.fadr 0 (.s 6)),I 37 (.ld false 1 (.s 36)),I 38 (.bin .sub (.s 37) (V 1)),I 39 (.fadr 1 (.s 10)),I 40 (.ld true 3 (.s 39)),I 41 (.build [(.int .u64 0),(.int .i64 0),(.int .i64 0),(.int .i64 0),(.int .i64 0),(.str []),.nils] [(0,1,(.s 35)),(1,1,(.s 38)),(2,3,(.s 40))]),I 42 (.bslice false 7 [ZT] [(0,(.s 41))]),I 43 (.app 7 80 (.s 33) (.s 42)),I 8 (.mv (.s 43))])
def p_plan_children_11:PC :=
 (.reg [6,8,27,28,29] [I 44 (.bin .add (.s 29) (V 1)),I 29 (.mv (.s 44))])
def p_plan_children_12:PC :=
 (.seq p_plan_children_8
 (.seq (.ite (.s 30)
 .skip
 (.exit 0))
 (.seq (.block 1
 (.seq p_plan_children_9
 p_plan_children_10))
 p_plan_children_11)))
def p_plan_children_13:PC :=
 (.reg [8,47] [I 45 (.mv (.s 8)),I 46 (.len 1 (.s 45)),I 47 (.bin .eql (.s 46) (V 0))])
def p_plan_children_14:PC :=
 (.reg [4,5] [I 4 (.mv (.v .nils)),I 5 (.mv (V 23))])
def p_plan_children_15:PC :=
 (.reg [4,5] [I 48 (.mv (.s 8)),I 4 (.mv (.s 48)),I 5 (.mv (V 0))])
def p_plan_children:PF:=⟨false,
 (.seq p_plan_children_0
 (.seq (.seq p_plan_children_1
 (.ite (.s 13)
 (.seq p_plan_children_2
 .ret)
 .skip))
 (.seq p_plan_children_3
 (.seq (.seq p_plan_children_4
 (.ite (.s 24)
 (.seq p_plan_children_5
 .ret)
 .skip))
 (.seq p_plan_children_6
 (.seq (.seq p_plan_children_7
 (.block 0
 (.loop p_plan_children_12)))
 (.seq (.seq p_plan_children_13
 (.ite (.s 47)
 (.seq p_plan_children_14
 .ret)
 .skip))
 (.seq p_plan_children_15
 .ret)))))))),
 [.s 4,.s 5]⟩
theorem c_plan_children:compF Go.Proofs.Tryz.prog false h_plan_children Go.Proofs.Tryz.f101=some p_plan_children:=by kernel_rfl
def h_plan_kind:List Hint:=[H [1],H [1,3],H [1,3,13],H [2],H [1,3,31],H [2],H [1,3,46],H [2],H [65],H [2],H [2]]
def p_plan_kind_0:PC :=
 (.reg [1] [I 1 (.box (.s 0)),I 2 (.mv (V 0))])
def p_plan_kind_1:PC :=
 (.reg [1,3] [I 4 (.fadr 2 (.s 1)),I 5 (.ld true 3 (.s 4)),I 6 (.build [(.int .i64 0),(.int .i64 0),(.int .i64 0)] []),I 7 (.eqs false 0 [(0,0),(1,0),(2,0)] (.s 5) (.s 6)),I 8 (.mv (.s 7)),G 9 8 true (.fadr 0 (.s 1)),G 10 8 true (.ld false 1 (.s 9)),G 11 8 true (.bin .eql (.s 10) (.v (.int .u64 0))),I 12 (.pick (.s 8) (.s 11) (.v (.bool false))),I 3 (.mv (.s 12))])
def p_plan_kind_2:PC :=
 (.reg [1,3,13] [I 14 (.mv (.s 3)),I 15 (.mv (.s 14)),G 16 15 true (.fadr 1 (.s 1)),G 17 15 true (.ld false 1 (.s 16)),G 18 15 true (.bin .eql (.s 17) (V 0)),I 19 (.pick (.s 15) (.s 18) (.v (.bool false))),I 20 (.mv (.s 19)),G 21 20 true (.fadr 5 (.s 1)),G 22 20 true (.ld false 1 (.s 21)),G 23 20 true (.bin .eql (.s 22) (.v (.str []))),I 24 (.pick (.s 20) (.s 23) (.v (.bool false))),I 25 (.mv (.s 24)),G 26 25 true (.fadr 6 (.s 1)),G 27 25 true (.ld false 1 (.s 26)),G 28 25 true (.len 1 (.s 27)),G 29 25 true (.bin .eql (.s 28) (V 0)),I 30 (.pick (.s 25) (.s 29) (.v (.bool false))),I 13 (.mv (.s 30))])
def p_plan_kind_3:PC :=
 (.reg [2] [I 2 (.mv (V 1))])
def p_plan_kind_4:PC :=
 (.reg [1,3,31] [I 32 (.fadr 0 (.s 1)),I 33 (.ld false 1 (.s 32)),I 34 (.bin .neq (.s 33) (.v (.int .u64 0))),I 35 (.mv (.s 34)),G 36 35 true (.fadr 5 (.s 1)),G 37 35 true (.ld false 1 (.s 36)),G 38 35 true (.bin .eql (.s 37) (.v (.str []))),I 39 (.pick (.s 35) (.s 38) (.v (.bool false))),I 40 (.mv (.s 39)),G 41 40 true (.fadr 6 (.s 1)),G 42 40 true (.ld false 1 (.s 41)),G 43 40 true (.len 1 (.s 42)),G 44 40 true (.bin .eql (.s 43) (V 0)),I 45 (.pick (.s 40) (.s 44) (.v (.bool false))),I 31 (.mv (.s 45))])
def p_plan_kind_5:PC :=
 (.reg [2] [I 2 (.mv (V 2))])
def p_plan_kind_6:PC :=
 (.reg [1,3,46] [I 47 (.mv (.s 3)),I 48 (.mv (.s 47)),G 49 48 true (.fadr 1 (.s 1)),G 50 48 true (.ld false 1 (.s 49)),G 51 48 true (.bin .eql (.s 50) (V 0)),I 52 (.pick (.s 48) (.s 51) (.v (.bool false))),I 53 (.mv (.s 52)),G 54 53 true (.fadr 6 (.s 1)),G 55 53 true (.ld false 1 (.s 54)),G 56 53 true (.len 1 (.s 55)),G 57 53 true (.bin .eql (.s 56) (V 0)),I 58 (.pick (.s 53) (.s 57) (.v (.bool false))),I 59 (.mv (.s 58)),G 60 59 true (.fadr 5 (.s 1)),G 61 59 true (.ld false 1 (.s 60)),G 62 59 true (.len 0 (.s 61)),G 63 59 true (.bin .leq (.s 62) (V 16)),I 64 (.pick (.s 59) (.s 63) (.v (.bool false))),I 46 (.mv (.s 64))])
def p_plan_kind_7:PC :=
 (.reg [2] [I 2 (.mv (V 3))])
def p_plan_kind_8:PC :=
 (.reg [65] [I 66 (.mv (.s 3)),I 67 (.mv (.s 66)),G 68 67 true (.fadr 5 (.s 1)),G 69 67 true (.ld false 1 (.s 68)),G 70 67 true (.bin .eql (.s 69) (.v (.str []))),I 71 (.pick (.s 67) (.s 70) (.v (.bool false))),I 72 (.mv (.s 71)),G 73 72 true (.fadr 1 (.s 1)),G 74 72 true (.ld false 1 (.s 73)),G 75 72 true (.bin .geq (.s 74) (V 1)),I 76 (.pick (.s 72) (.s 75) (.v (.bool false))),I 77 (.mv (.s 76)),G 78 77 true (.fadr 1 (.s 1)),G 79 77 true (.ld false 1 (.s 78)),G 80 77 true (.bin .leq (.s 79) (V 16)),I 81 (.pick (.s 77) (.s 80) (.v (.bool false))),I 82 (.mv (.s 81)),G 83 82 true (.fadr 6 (.s 1)),G 84 82 true (.ld false 1 (.s 83)),G 85 82 true (.len 1 (.s 84)),G 86 82 true (.bin .geq (.s 85) (V 2)),I 87 (.pick (.s 82) (.s 86) (.v (.bool false))),I 88 (.mv (.s 87)),G 89 88 true (.fadr 6 (.s 1)),G 90 88 true (.ld false 1 (.s 89)),G 91 88 true (.len 1 (.s 90)),G 92 88 true (.bin .leq (.s 91) (V 4)),I 93 (.pick (.s 88) (.s 92) (.v (.bool false))),I 65 (.mv (.s 93))])
def p_plan_kind_9:PC :=
 (.reg [2] [I 2 (.mv (V 4))])
def p_plan_kind_10:PC :=
 (.reg [2] [I 2 (.mv (V 0))])
def p_plan_kind:PF:=⟨false,
 (.seq p_plan_kind_0
 (.seq p_plan_kind_1
 (.seq (.block 0
 (.seq p_plan_kind_2
 (.ite (.s 13)
 (.seq p_plan_kind_3
 .ret)
 (.seq p_plan_kind_4
 (.ite (.s 31)
 (.seq p_plan_kind_5
 .ret)
 (.seq p_plan_kind_6
 (.ite (.s 46)
 (.seq p_plan_kind_7
 .ret)
 (.seq p_plan_kind_8
 (.ite (.s 65)
 (.seq p_plan_kind_9
 .ret)
 .skip)))))))))
 (.seq p_plan_kind_10
 .ret)))),
 [.s 2]⟩
theorem c_plan_kind:compF Go.Proofs.Tryz.prog false h_plan_kind Go.Proofs.Tryz.f102=some p_plan_kind:=by kernel_rfl
def h_freelist_List_Free:List Hint:=[H [0],H [0,7],H [2],H [0,3],H [3],H [3,4,5],H [3,4,5,25],H [3,4,5],H [3,4,5],H [2]]
def p_freelist_List_Free_0:PC :=
 (.reg [0] [I 2 (.mv (.v .nils))])
def p_freelist_List_Free_1:PC :=
 (.reg [0,7] [I 6 (.mv (.s 0)),I 7 (.eqs false 3 [] (.s 6) (.v .nilptr))])
def p_freelist_List_Free_2:PC :=
 (.reg [2] [I 2 (.mv (.v .nils))])
def p_freelist_List_Free_3:PC :=
 (.reg [0,3] [I 8 (.mv (.s 0)),I 9 (.nilck (.s 8)),I 10 (.fadr 0 (.s 9)),I 11 (.ld false 1 (.s 10)),I 12 (.len 1 (.s 11)),I 13 (.mkslice 1 8 (.int .i64 0) (.s 12) (.s 12)),I 3 (.mv (.s 13))])
def p_freelist_List_Free_4:PC :=
 (.reg [3] [I 14 (.mv (.s 3)),I 15 (.mv (.s 0)),I 16 (.nilck (.s 15)),I 17 (.fadr 0 (.s 16)),I 18 (.ld false 1 (.s 17)),I 19 (.cpy 1 (.s 14) (.s 18))])
def p_freelist_List_Free_5:PC :=
 (.reg [3,4,5] [I 20 (.mv (.s 3)),I 21 (.len 1 (.s 20)),I 22 (.bin .sub (.s 21) (V 1)),I 4 (.mv (V 0)),I 5 (.mv (.s 22))])
def p_freelist_List_Free_6:PC :=
 (.reg [3,4,5,25] [I 23 (.mv (.s 4)),I 24 (.mv (.s 5)),I 25 (.bin .lss (.s 23) (.s 24))])
def p_freelist_List_Free_7:PC :=
 (.reg [3,4,5] [I 30 (.mv (.s 3)),I 31 (.mv (.s 4)),I 32 (.mv (.s 3)),I 33 (.mv (.s 5)),I 34 (.mv (.s 3)),I 35 (.mv (.s 5)),I 36 (.ixS 1 (.s 34) (.s 35)),I 37 (.ld false 1 (.s 36)),I 38 (.mv (.s 3)),I 39 (.mv (.s 4)),I 40 (.ixS 1 (.s 38) (.s 39)),I 41 (.ld false 1 (.s 40)),I 42 (.ixS 1 (.s 30) (.s 31)),J (.st 1 (.s 42) (.s 37)),I 43 (.ixS 1 (.s 32) (.s 33)),J (.st 1 (.s 43) (.s 41))])
def p_freelist_List_Free_8:PC :=
 (.reg [3,4,5] [I 26 (.mv (.s 4)),I 27 (.bin .add (.s 26) (V 1)),I 28 (.mv (.s 5)),I 29 (.bin .sub (.s 28) (V 1)),I 4 (.mv (.s 27)),I 5 (.mv (.s 29))])
def p_freelist_List_Free_9:PC :=
 (.seq (.seq p_freelist_List_Free_6
 (.ite (.s 25)
 .skip
 (.exit 0)))
 (.seq (.block 1
 p_freelist_List_Free_7)
 p_freelist_List_Free_8))
def p_freelist_List_Free_10:PC :=
 (.reg [2] [I 44 (.mv (.s 3)),I 2 (.mv (.s 44))])
def p_freelist_List_Free:PF:=⟨false,
 (.seq p_freelist_List_Free_0
 (.seq (.seq p_freelist_List_Free_1
 (.ite (.s 7)
 (.seq p_freelist_List_Free_2
 .ret)
 .skip))
 (.seq p_freelist_List_Free_3
 (.seq p_freelist_List_Free_4
 (.seq (.seq p_freelist_List_Free_5
 (.block 0
 (.loop p_freelist_List_Free_9)))
 (.seq p_freelist_List_Free_10
 .ret)))))),
 [.s 2]⟩
theorem c_freelist_List_Free:compF Go.Proofs.Tryz.prog false h_freelist_List_Free Go.Proofs.Tryz.f117=some p_freelist_List_Free:=by kernel_rfl
def h_freelist_List_Withdrawn:List Hint:=[H [0],H [2]]
def p_freelist_List_Withdrawn_0:PC :=
 (.reg [0] [I 2 (.mv (.v .nils))])
def p_freelist_List_Withdrawn_1:PC :=
 (.reg [2] [I 3 (.mv (.s 0)),I 4 (C F_freelist_List_slots [(.s 3),(.v (.int .u8 2))]),I 2 (.mv (.s 4))])
def p_freelist_List_Withdrawn:PF:=⟨false,
 (.seq p_freelist_List_Withdrawn_0
 (.seq p_freelist_List_Withdrawn_1
 .ret)),
 [.s 2]⟩
theorem c_freelist_List_Withdrawn:compF Go.Proofs.Tryz.prog false h_freelist_List_Withdrawn Go.Proofs.Tryz.f118=some p_freelist_List_Withdrawn:=by kernel_rfl
def h_quartolaw16_Many:List Hint:=[H [0],H [0,3],H [0,3,11],H [0,3,20],H [2],H [0,3],H [2]]
def p_quartolaw16_Many_0:PC :=
 (.reg [0] [I 2 (.mv (.v (.bool false)))])
def p_quartolaw16_Many_1:PC :=
 (.reg [0,3] [I 3 (.mv (V 0))])
def p_quartolaw16_Many_2:PC :=
 (.reg [0,3,11] [I 4 (.mv (.s 3)),I 5 (.mv (.s 0)),I 6 (.len 1 (.s 5)),I 7 (.bin .lss (.s 4) (.s 6)),I 8 (.mv (.s 7)),G 9 8 true (.mv (.s 3)),G 10 8 true (.bin .lss (.s 9) (V 100)),I 11 (.pick (.s 8) (.s 10) (.v (.bool false)))])
def p_quartolaw16_Many_3:PC :=
 (.reg [0,3,20] [I 14 (.mv (.s 0)),I 15 (.mv (.s 3)),I 16 (.ixS 5 (.s 14) (.s 15)),I 17 (.fadr 4 (.s 16)),I 18 (.ld false 1 (.s 17)),I 19 (.len 0 (.s 18)),I 20 (.bin .gtr (.s 19) (V 200))])
def p_quartolaw16_Many_4:PC :=
 (.reg [2] [I 2 (.mv (.v (.bool true)))])
def p_quartolaw16_Many_5:PC :=
 (.reg [0,3] [I 12 (.mv (.s 3)),I 13 (.bin .add (.s 12) (V 1)),I 3 (.mv (.s 13))])
def p_quartolaw16_Many_6:PC :=
 (.seq (.seq p_quartolaw16_Many_2
 (.ite (.s 11)
 .skip
 (.exit 0)))
 (.seq (.block 1
 (.seq p_quartolaw16_Many_3
 (.ite (.s 20)
 (.seq p_quartolaw16_Many_4
 .ret)
 .skip)))
 p_quartolaw16_Many_5))
def p_quartolaw16_Many_7:PC :=
 (.reg [2] [I 21 (.mv (.s 0)),I 22 (.len 1 (.s 21)),I 23 (.bin .gtr (.s 22) (V 60)),I 2 (.mv (.s 23))])
def p_quartolaw16_Many:PF:=⟨false,
 (.seq p_quartolaw16_Many_0
 (.seq (.seq p_quartolaw16_Many_1
 (.block 0
 (.loop p_quartolaw16_Many_6)))
 (.seq p_quartolaw16_Many_7
 .ret))),
 [.s 2]⟩
theorem c_quartolaw16_Many:compF Go.Proofs.Tryz.prog false h_quartolaw16_Many Go.Proofs.Tryz.f119=some p_quartolaw16_Many:=by kernel_rfl
def h_quartolaw17_small:List Hint:=[H [1],H [1,3,4],H [1,3,15],H [0,1,2],H [1,3,4,5],⟨[0,1,2],[],[],[],[(6,(.hide [(.s 1)])),(10,(.plain (.s 1)))],[]⟩]
def p_quartolaw17_small_0:PC :=
 (.reg [1] [I 0 (.mv (.v .nilptr)),I 1 (.box (.v ZR)),I 2 (.mv (.v (.bool false)))])
def p_quartolaw17_small_1:PC :=
 (.reg [1,3,4] [I 7 (C F_arena_New [(V 8),(.v (.int .u64 4))]),I 6 (.mv (.s 7)),I 8 (.ext (.s 6) 0),I 9 (.ext (.s 6) 1),I 3 (.mv (.s 8)),I 4 (.mv (.s 9))])
def p_quartolaw17_small_2:PC :=
 (.reg [1,3,15] [I 10 (.mv (.s 3)),I 11 (.eqs false 3 [] (.s 10) (.v .nilptr)),I 12 (.mv (.s 11)),G 13 12 false (.mv (.s 4)),G 14 12 false (.bin .neq (.s 13) (V 0)),I 15 (.pick (.s 12) (.v (.bool true)) (.s 14))])
def p_quartolaw17_small_3:PC :=
 (.reg [0,1,2] [I 16 (.build [(.int .u64 0),(.int .i64 0),(.int .i64 0),(.int .i64 0),(.int .i64 0)] []),I 0 (.mv (.v .nilptr)),J (.st 5 (.s 1) (.s 16)),I 2 (.mv (.v (.bool false)))])
def p_quartolaw17_small_4:PC :=
 (.reg [1,3,4,5] [I 18 (.mv (.s 3)),I 19 (C F_rope_New [(.s 18),(.v (.str [97,195,177,10,98,99,100,101,102,103,104,105,106,107,108,109,110]))]),I 17 (.mv (.s 19)),I 20 (.ext (.s 17) 0),I 21 (.ext (.s 17) 1),I 5 (.box (.v ZR)),J (.st 5 (.s 5) (.s 20)),I 4 (.mv (.s 21))])
def p_quartolaw17_small_5:PC :=
 (.reg [0,1,2] [I 22 (.mv (.s 3)),I 23 (.ld true 5 (.s 5)),I 24 (.mv (.s 4)),I 25 (.bin .eql (.s 24) (V 0)),I 26 (.mv (.s 25)),G 27 26 true (.fadr 0 (.s 5)),G 28 26 true (.w (.hide [(.s 1)]) (.ld false 1 (.s 27))),G 29 26 true (.bin .eql (.s 28) (.v (.int .u64 65538))),I 30 (.pick (.s 26) (.s 29) (.v (.bool false))),I 0 (.mv (.s 22)),J (.w (.plain (.s 1)) (.st 5 (.s 1) (.s 23))),I 2 (.mv (.s 30))])
def p_quartolaw17_small:PF:=⟨true,
 (.seq p_quartolaw17_small_0
 (.seq p_quartolaw17_small_1
 (.seq (.seq p_quartolaw17_small_2
 (.ite (.s 15)
 (.seq p_quartolaw17_small_3
 .ret)
 .skip))
 (.seq p_quartolaw17_small_4
 (.seq p_quartolaw17_small_5
 .ret))))),
 [.s 0,.c 1 true 5,.s 2]⟩
theorem c_quartolaw17_small:compF Go.Proofs.Tryz.prog true h_quartolaw17_small Go.Proofs.Tryz.f120=some p_quartolaw17_small:=by kernel_rfl
def h_quartolaw16_pick:List Hint:=[H [0,1],H [4]]
def p_quartolaw16_pick_0:PC :=
 (.reg [0,1] [I 4 (.mv (V 0))])
def p_quartolaw16_pick_1:PC :=
 (.reg [4] [I 5 (.mv (.s 0)),I 6 (.cint .u64 (.s 5)),I 7 (.mv (.s 1)),I 8 (.bin .add (.s 7) (V 1)),I 9 (.cint .u64 (.s 8)),I 10 (.bin .rem (.s 6) (.s 9)),I 11 (.cint .i64 (.s 10)),I 4 (.mv (.s 11))])
def p_quartolaw16_pick:PF:=⟨false,
 (.seq p_quartolaw16_pick_0
 (.seq p_quartolaw16_pick_1
 .ret)),
 [.s 4]⟩
theorem c_quartolaw16_pick:compF Go.Proofs.Tryz.prog false h_quartolaw16_pick Go.Proofs.Tryz.f121=some p_quartolaw16_pick:=by kernel_rfl
def h_rope_Write:List Hint:=[⟨[0,3,4,5],[2],[],[],[],[]⟩,H [4,5,6,7],H [4,5,6,7,18],⟨[4,5,6],[3],[],[],[],[]⟩,H [4,5,7,26],H [4,5,7,8,10],H [4,5,7,8,10,34],⟨[4,5,6],[3],[],[],[],[]⟩,H [4,5,7],H [4,5,6],H [4,5,6]]
def p_rope_Write_0:PC :=
 (.reg [0,3,4,5] [I 3 (.box (.s 1)),I 4 (.box (.v ZR)),I 5 (.onil 1),I 6 (.mv (V 0))])
def p_rope_Write_1:PC :=
 (.reg [4,5,6,7] [I 12 (.mv (.s 0)),I 13 (.ld true 7 (.s 3)),I 14 (C F_rope_Begin [(.s 12),(.s 13)]),I 11 (.mv (.s 14)),I 15 (.ext (.s 11) 0),I 16 (.ext (.s 11) 1),I 7 (.mv (.s 15)),I 6 (.mv (.s 16))])
def p_rope_Write_2:PC :=
 (.reg [4,5,6,7,18] [I 17 (.mv (.s 6)),I 18 (.bin .neq (.s 17) (V 0))])
def p_rope_Write_3:PC :=
 (.reg [4,5,6] [I 19 (.build [(.int .u64 0),(.int .i64 0),(.int .i64 0),(.int .i64 0),(.int .i64 0)] []),I 20 (.mv (.s 6)),J (.st 5 (.s 4) (.s 19)),I 5 (.onil 1),I 6 (.mv (.s 20))])
def p_rope_Write_4:PC :=
 (.reg [4,5,7,26] [I 21 (.mv (.s 7)),I 22 (.nilck (.s 21)),I 23 (.fadr 1 (.s 22)),I 24 (.ld false 1 (.s 23)),I 25 (.len 1 (.s 24)),I 26 (.bin .gtr (.s 25) (V 0))])
def p_rope_Write_5:PC :=
 (.reg [4,5,7,8,10] [I 28 (.mv (.s 7)),I 29 (C F_rope_Pen_Step [(.s 28)]),I 27 (.mv (.s 29)),I 30 (.ext (.s 27) 0),I 31 (.ext (.s 27) 1),I 32 (.ext (.s 27) 2),I 8 (.mv (.s 30)),I 9 (.mv (.s 31)),I 10 (.mv (.s 32))])
def p_rope_Write_6:PC :=
 (.reg [4,5,7,8,10,34] [I 33 (.mv (.s 10)),I 34 (.bin .neq (.s 33) (V 0))])
def p_rope_Write_7:PC :=
 (.reg [4,5,6] [I 35 (.build [(.int .u64 0),(.int .i64 0),(.int .i64 0),(.int .i64 0),(.int .i64 0)] []),I 36 (.mv (.s 10)),J (.st 5 (.s 4) (.s 35)),I 5 (.onil 1),I 6 (.mv (.s 36))])
def p_rope_Write_8:PC :=
 (.reg [4,5,7] [I 37 (.mv (.s 5)),I 38 (.mv (.s 8)),I 39 (.bslice false 1 [(.int .u64 0)] [(0,(.s 38))]),I 40 (.app 1 8 (.s 37) (.s 39)),I 5 (.mv (.s 40))])
def p_rope_Write_9:PC :=
 (.seq (.seq p_rope_Write_4
 (.ite (.s 26)
 .skip
 (.exit 0)))
 (.block 1
 (.seq p_rope_Write_5
 (.seq (.seq p_rope_Write_6
 (.ite (.s 34)
 (.seq p_rope_Write_7
 .ret)
 .skip))
 p_rope_Write_8))))
def p_rope_Write_10:PC :=
 (.reg [4,5,6] [I 42 (.mv (.s 7)),I 43 (C F_rope_Pen_Root [(.s 42)]),I 41 (.mv (.s 43)),I 44 (.ext (.s 41) 0),I 45 (.ext (.s 41) 1),J (.st 5 (.s 4) (.s 44)),I 6 (.mv (.s 45))])
def p_rope_Write_11:PC :=
 (.reg [4,5,6] [I 46 (.ld true 5 (.s 4)),I 47 (.mv (.s 5)),I 48 (.mv (.s 6)),J (.st 5 (.s 4) (.s 46)),I 5 (.mv (.s 47)),I 6 (.mv (.s 48))])
def p_rope_Write:PF:=⟨false,
 (.seq p_rope_Write_0
 (.seq p_rope_Write_1
 (.seq (.seq p_rope_Write_2
 (.ite (.s 18)
 (.seq p_rope_Write_3
 .ret)
 .skip))
 (.seq (.block 0
 (.loop p_rope_Write_9))
 (.seq p_rope_Write_10
 (.seq p_rope_Write_11
 .ret)))))),
 [.c 4 true 5,.s 5,.s 6]⟩
theorem c_rope_Write:compF Go.Proofs.Tryz.prog false h_rope_Write Go.Proofs.Tryz.f122=some p_rope_Write:=by kernel_rfl
def h_seek_check:List Hint:=[H [0,3],H [0,3,9],H [4],H [0,3,12],H [4],H [0,3,15],H [4],H [3,5,6],H [3,5,6,24],H [4],H [3,5,6,7],H [45],H [4],H [4]]
def p_seek_check_0:PC :=
 (.reg [0,3] [I 3 (.box (.s 1)),I 4 (.mv (V 0))])
def p_seek_check_1:PC :=
 (.reg [0,3,9] [I 8 (.mv (.s 0)),I 9 (.eqs false 3 [] (.s 8) (.v .nilptr))])
def p_seek_check_2:PC :=
 (.reg [4] [I 4 (.mv (V 1))])
def p_seek_check_3:PC :=
 (.reg [0,3,12] [I 10 (.ld true 5 (.s 3)),I 11 (.build [(.int .u64 0),(.int .i64 0),(.int .i64 0),(.int .i64 0),(.int .i64 0)] []),I 12 (.eqs false 0 [(0,0),(1,0),(2,0),(3,0),(4,0)] (.s 10) (.s 11))])
def p_seek_check_4:PC :=
 (.reg [4] [I 4 (.mv (V 0))])
def p_seek_check_5:PC :=
 (.reg [0,3,15] [I 13 (.fadr 0 (.s 3)),I 14 (.ld false 1 (.s 13)),I 15 (.bin .eql (.s 14) (.v (.int .u64 0)))])
def p_seek_check_6:PC :=
 (.reg [4] [I 4 (.mv (V 2))])
def p_seek_check_7:PC :=
 (.reg [3,5,6] [I 17 (.mv (.s 0)),I 18 (.fadr 0 (.s 3)),I 19 (.ld false 1 (.s 18)),I 20 (C F_arena_Arena_Get [(.s 17),(.s 19)]),I 16 (.mv (.s 20)),I 21 (.ext (.s 16) 0),I 22 (.ext (.s 16) 1),I 5 (.box (.v ZN)),J (.st 3 (.s 5) (.s 21)),I 6 (.mv (.s 22))])
def p_seek_check_8:PC :=
 (.reg [3,5,6,24] [I 23 (.mv (.s 6)),I 24 (.bin .neq (.s 23) (V 0))])
def p_seek_check_9:PC :=
 (.reg [4] [I 25 (.mv (.s 6)),I 4 (.mv (.s 25))])
def p_seek_check_10:PC :=
 (.reg [3,5,6,7] [I 27 (.ld true 3 (.s 5)),I 28 (C F_node_Measure [(.s 27)]),I 26 (.mv (.s 28)),I 29 (.ext (.s 26) 0),I 30 (.ext (.s 26) 1),I 7 (.box (.v ZM)),J (.st 3 (.s 7) (.s 29)),I 6 (.mv (.s 30))])
def p_seek_check_11:PC :=
 (.reg [45] [I 31 (.mv (.s 6)),I 32 (.bin .neq (.s 31) (V 0)),I 33 (.mv (.s 32)),G 34 33 false (.fadr 0 (.s 5)),G 35 33 false (.ld false 1 (.s 34)),G 36 33 false (.fadr 1 (.s 3)),G 37 33 false (.ld false 1 (.s 36)),G 38 33 false (.bin .neq (.s 35) (.s 37)),I 39 (.pick (.s 33) (.v (.bool true)) (.s 38)),I 40 (.mv (.s 39)),G 41 40 false (.ld true 3 (.s 7)),G 42 40 false (.fadr 2 (.s 3)),G 43 40 false (.ld true 3 (.s 42)),G 44 40 false (.eqs true 0 [(0,0),(1,0),(2,0)] (.s 41) (.s 43)),I 45 (.pick (.s 40) (.v (.bool true)) (.s 44))])
def p_seek_check_12:PC :=
 (.reg [4] [I 4 (.mv (V 23))])
def p_seek_check_13:PC :=
 (.reg [4] [I 4 (.mv (V 0))])
def p_seek_check:PF:=⟨false,
 (.seq p_seek_check_0
 (.seq (.seq p_seek_check_1
 (.ite (.s 9)
 (.seq p_seek_check_2
 .ret)
 .skip))
 (.seq (.seq p_seek_check_3
 (.ite (.s 12)
 (.seq p_seek_check_4
 .ret)
 .skip))
 (.seq (.seq p_seek_check_5
 (.ite (.s 15)
 (.seq p_seek_check_6
 .ret)
 .skip))
 (.seq p_seek_check_7
 (.seq (.seq p_seek_check_8
 (.ite (.s 24)
 (.seq p_seek_check_9
 .ret)
 .skip))
 (.seq p_seek_check_10
 (.seq (.seq p_seek_check_11
 (.ite (.s 45)
 (.seq p_seek_check_12
 .ret)
 .skip))
 (.seq p_seek_check_13
 .ret))))))))),
 [.s 4]⟩
theorem c_seek_check:compF Go.Proofs.Tryz.prog false h_seek_check Go.Proofs.Tryz.f124=some p_seek_check:=by kernel_rfl
def h_seek_walk:List Hint:=[H [0,2,3,4,6,10],H [0,3,4,6,10,12],H [0,3,4,10,12,13],H [0,3,4,10,12,13,14,15],H [0,3,4,10,12,13,14,15,31],H [10,11],H [0,3,4,10,12,14],H [0,3,4,10,12,14,42],H [10,12],H [10,11],H [0,3,4,10,12,14,15,16,17],H [0,3,4,10,12,14,15,16,17,57],H [10,11],H [0,3,4,10,12,14,16,17,63,64,65],H [0,3,4,10,12,14,16,17,63,64,65,66],H [0,3,4,10,12,14,16,17,19,63,64,65],H [0,3,4,10,12,14,16,17,63,64,65],H [0,3,4,10,12,14,16,17,63,64,65],⟨[0,3,4,10,12,13],[],[],[],[(6,(.hide [(.s 12)])),(8,(.plain (.s 12))),(4,(.hide [(.s 12)])),(2,(.hide [(.s 12)]))],[]⟩]
def p_seek_walk_0:PC :=
 (.reg [0,2,3,4,6,10] [I 6 (.box (.s 1)),I 10 (.box (.v (.agg [(.str []),(.int .i64 0),.nils]))),I 11 (.mv (V 0))])
def p_seek_walk_1:PC :=
 (.reg [0,3,4,6,10,12] [I 20 (.mv (.s 2)),I 21 (.build [(.str []),(.int .i64 0),.nils] [(1,1,(.s 20))]),I 12 (.box (.v (.agg [(.str []),(.int .i64 0),.nils]))),J (.st 3 (.s 12) (.s 21))])
def p_seek_walk_2:PC :=
 (.reg [0,3,4,10,12,13] [I 22 (.fadr 0 (.s 6)),I 23 (.ld false 1 (.s 22)),I 13 (.mv (.s 23))])
def p_seek_walk_3:PC :=
 (.reg [0,3,4,10,12,13,14,15] [I 25 (.mv (.s 0)),I 26 (.mv (.s 13)),I 27 (C F_arena_Arena_Get [(.s 25),(.s 26)]),I 24 (.mv (.s 27)),I 28 (.ext (.s 24) 0),I 29 (.ext (.s 24) 1),I 14 (.box (.v ZN)),J (.st 3 (.s 14) (.s 28)),I 15 (.mv (.s 29))])
def p_seek_walk_4:PC :=
 (.reg [0,3,4,10,12,13,14,15,31] [I 30 (.mv (.s 15)),I 31 (.bin .neq (.s 30) (V 0))])
def p_seek_walk_5:PC :=
 (.reg [10,11] [I 32 (.build [(.str []),(.int .i64 0),.nils] []),I 33 (.mv (.s 15)),J (.st 3 (.s 10) (.s 32)),I 11 (.mv (.s 33))])
def p_seek_walk_6:PC :=
 (.reg [0,3,4,10,12,14] [I 34 (.fadr 2 (.s 12)),I 35 (.ld false 1 (.s 34)),I 36 (.mv (.s 13)),I 37 (.bslice false 1 [(.int .u64 0)] [(0,(.s 36))]),I 38 (.app 1 8 (.s 35) (.s 37)),I 39 (.fadr 2 (.s 12)),J (.st 1 (.s 39) (.s 38))])
def p_seek_walk_7:PC :=
 (.reg [0,3,4,10,12,14,42] [I 40 (.fadr 0 (.s 14)),I 41 (.ld false 1 (.s 40)),I 42 (.bin .eql (.s 41) (V 0))])
def p_seek_walk_8:PC :=
 (.reg [10,12] [I 43 (.fadr 1 (.s 14)),I 44 (.ld false 1 (.s 43)),I 45 (.fadr 0 (.s 12)),J (.st 1 (.s 45) (.s 44))])
def p_seek_walk_9:PC :=
 (.reg [10,11] [I 46 (.ld true 3 (.s 12)),J (.st 3 (.s 10) (.s 46)),I 11 (.mv (V 0))])
def p_seek_walk_10:PC :=
 (.reg [0,3,4,10,12,14,15,16,17] [I 48 (.mv (.s 3)),I 49 (.ld true 3 (.s 14)),I 50 (.fadr 1 (.s 12)),I 51 (.ld false 1 (.s 50)),I 52 (.call .norm (.s 48) [(.s 49),(.s 51)]),I 47 (.mv (.s 52)),I 53 (.ext (.s 47) 0),I 54 (.ext (.s 47) 1),I 55 (.ext (.s 47) 2),I 16 (.mv (.s 53)),I 17 (.mv (.s 54)),I 15 (.mv (.s 55))])
def p_seek_walk_11:PC :=
 (.reg [0,3,4,10,12,14,15,16,17,57] [I 56 (.mv (.s 15)),I 57 (.bin .neq (.s 56) (V 0))])
def p_seek_walk_12:PC :=
 (.reg [10,11] [I 58 (.build [(.str []),(.int .i64 0),.nils] []),I 59 (.mv (.s 15)),J (.st 3 (.s 10) (.s 58)),I 11 (.mv (.s 59))])
def p_seek_walk_13:PC :=
 (.reg [0,3,4,10,12,14,16,17,63,64,65] [I 60 (.fadr 2 (.s 14)),I 61 (.ld false 1 (.s 60)),I 62 (.mv (.s 16)),I 63 (.slc 4 (.s 61) none (some (.s 62))),I 64 (.len 1 (.s 63)),I 65 (.mv (V 0))])
def p_seek_walk_14:PC :=
 (.reg [0,3,4,10,12,14,16,17,63,64,65,66] [I 66 (.bin .lss (.s 65) (.s 64))])
def p_seek_walk_15:PC :=
 (.reg [0,3,4,10,12,14,16,17,19,63,64,65] [I 67 (.ixS 4 (.s 63) (.s 65)),I 68 (.ld true 4 (.s 67)),I 19 (.box (.v ZK)),J (.st 4 (.s 19) (.s 68))])
def p_seek_walk_16:PC :=
 (.reg [0,3,4,10,12,14,16,17,63,64,65] [I 69 (.mv (.s 4)),I 70 (.fadr 1 (.s 19)),I 71 (.ld true 3 (.s 70)),I 72 (.call .norm (.s 69) [(.s 71)])])
def p_seek_walk_17:PC :=
 (.reg [0,3,4,10,12,14,16,17,63,64,65] [I 73 (.bin .add (.s 65) (V 1)),I 65 (.mv (.s 73))])
def p_seek_walk_18:PC :=
 (.seq p_seek_walk_14
 (.seq (.ite (.s 66)
 .skip
 (.exit 2))
 (.seq (.block 3
 (.seq p_seek_walk_15
 p_seek_walk_16))
 p_seek_walk_17)))
def p_seek_walk_19:PC :=
 (.reg [0,3,4,10,12,13] [I 74 (.mv (.s 17)),I 75 (.fadr 2 (.s 14)),I 76 (.w (.hide [(.s 12)]) (.ld false 1 (.s 75))),I 77 (.mv (.s 16)),I 78 (.w (.hide [(.s 12)]) (.ixS 4 (.s 76) (.s 77))),I 79 (.fadr 0 (.s 78)),I 80 (.w (.hide [(.s 12)]) (.ld false 1 (.s 79))),I 81 (.fadr 1 (.s 12)),J (.w (.plain (.s 12)) (.st 1 (.s 81) (.s 74))),I 13 (.mv (.s 80))])
def p_seek_walk_20:PC :=
 (.block 1
 (.seq p_seek_walk_3
 (.seq (.seq p_seek_walk_4
 (.ite (.s 31)
 (.seq p_seek_walk_5
 .ret)
 .skip))
 (.seq p_seek_walk_6
 (.seq (.seq p_seek_walk_7
 (.ite (.s 42)
 (.seq p_seek_walk_8
 (.seq p_seek_walk_9
 .ret))
 .skip))
 (.seq p_seek_walk_10
 (.seq (.seq p_seek_walk_11
 (.ite (.s 57)
 (.seq p_seek_walk_12
 .ret)
 .skip))
 (.seq (.seq p_seek_walk_13
 (.block 2
 (.loop p_seek_walk_18)))
 p_seek_walk_19))))))))
def p_seek_walk:PF:=⟨false,
 (.seq p_seek_walk_0
 (.seq p_seek_walk_1
 (.seq p_seek_walk_2
 (.block 0
 (.loop p_seek_walk_20))))),
 [.c 10 true 3,.s 11]⟩
theorem c_seek_walk:compF Go.Proofs.Tryz.prog false h_seek_walk Go.Proofs.Tryz.f125=some p_seek_walk:=by kernel_rfl
def h_node_Child:List Hint:=[H [1,2],H [4,5,6]]
def p_node_Child_0:PC :=
 (.reg [1,2] [I 2 (.box (.s 0)),I 4 (.mv (V 0)),I 5 (.mv (V 0)),I 6 (.mv (V 0))])
def p_node_Child_1:PC :=
 (.reg [4,5,6] [I 7 (.ld true 3 (.s 2)),I 8 (.mv (.s 1)),I 9 (C F_node_choose [(.s 7),(.s 8),(.v (.func (.func F_node_ChildC1) [] []))]),I 10 (.ext (.s 9) 0),I 11 (.ext (.s 9) 1),I 12 (.ext (.s 9) 2),I 4 (.mv (.s 10)),I 5 (.mv (.s 11)),I 6 (.mv (.s 12))])
def p_node_Child:PF:=⟨false,
 (.seq p_node_Child_0
 (.seq p_node_Child_1
 .ret)),
 [.s 4,.s 5,.s 6]⟩
theorem c_node_Child:compF Go.Proofs.Tryz.prog false h_node_Child Go.Proofs.Tryz.f126=some p_node_Child:=by kernel_rfl
def h_seek_LeafC1:List Hint:=[H []]
def p_seek_LeafC1_0:PC :=
 (.reg [] [I 1 (.box (.s 0))])
def p_seek_LeafC1:PF:=⟨false,
 p_seek_LeafC1_0,
 []⟩
theorem c_seek_LeafC1:compF Go.Proofs.Tryz.prog false h_seek_LeafC1 Go.Proofs.Tryz.f127=some p_seek_LeafC1:=by kernel_rfl
def h_seek_offset:List Hint:=[H [0,2,3,4,6],H [0,2,3,4,6,12],H [4,12,13,14],H [4,12,13,14,26],H [10,11],H [12,14,15],H [12,14,15,38],H [10,11],H [10,11]]
def p_seek_offset_0:PC :=
 (.reg [0,2,3,4,6] [I 6 (.box (.s 1)),I 10 (.mv (V 0)),I 11 (.mv (V 0))])
def p_seek_offset_1:PC :=
 (.reg [0,2,3,4,6,12] [I 12 (.box (V 0)),J (.st 1 (.s 12) (V 0))])
def p_seek_offset_2:PC :=
 (.reg [4,12,13,14] [I 17 (.mv (.s 0)),I 18 (.ld true 5 (.s 6)),I 19 (.mv (.s 2)),I 20 (.mv (.s 3)),I 21 (.mkf (.func F_seek_offsetC1) [] [(.s 12)]),I 22 (C F_seek_walk [(.s 17),(.s 18),(.s 19),(.s 20),(.s 21)]),I 16 (.mv (.s 22)),I 23 (.ext (.s 16) 0),I 24 (.ext (.s 16) 1),I 13 (.box (.v (.agg [(.str []),(.int .i64 0),.nils]))),J (.st 3 (.s 13) (.s 23)),I 14 (.mv (.s 24))])
def p_seek_offset_3:PC :=
 (.reg [4,12,13,14,26] [I 25 (.mv (.s 14)),I 26 (.bin .neq (.s 25) (V 0))])
def p_seek_offset_4:PC :=
 (.reg [10,11] [I 27 (.mv (.s 14)),I 10 (.mv (V 0)),I 11 (.mv (.s 27))])
def p_seek_offset_5:PC :=
 (.reg [12,14,15] [I 29 (.mv (.s 4)),I 30 (.fadr 0 (.s 13)),I 31 (.ld false 1 (.s 30)),I 32 (.fadr 1 (.s 13)),I 33 (.ld false 1 (.s 32)),I 34 (.call .norm (.s 29) [(.s 31),(.s 33)]),I 28 (.mv (.s 34)),I 35 (.ext (.s 28) 0),I 36 (.ext (.s 28) 1),I 15 (.mv (.s 35)),I 14 (.mv (.s 36))])
def p_seek_offset_6:PC :=
 (.reg [12,14,15,38] [I 37 (.mv (.s 14)),I 38 (.bin .neq (.s 37) (V 0))])
def p_seek_offset_7:PC :=
 (.reg [10,11] [I 39 (.mv (.s 14)),I 10 (.mv (V 0)),I 11 (.mv (.s 39))])
def p_seek_offset_8:PC :=
 (.reg [10,11] [I 40 (.ld false 1 (.s 12)),I 41 (.mv (.s 15)),I 42 (.bin .add (.s 40) (.s 41)),I 10 (.mv (.s 42)),I 11 (.mv (V 0))])
def p_seek_offset:PF:=⟨false,
 (.seq p_seek_offset_0
 (.seq p_seek_offset_1
 (.seq p_seek_offset_2
 (.seq (.seq p_seek_offset_3
 (.ite (.s 26)
 (.seq p_seek_offset_4
 .ret)
 .skip))
 (.seq p_seek_offset_5
 (.seq (.seq p_seek_offset_6
 (.ite (.s 38)
 (.seq p_seek_offset_7
 .ret)
 .skip))
 (.seq p_seek_offset_8
 .ret))))))),
 [.s 10,.s 11]⟩
theorem c_seek_offset:compF Go.Proofs.Tryz.prog false h_seek_offset Go.Proofs.Tryz.f129=some p_seek_offset:=by kernel_rfl
def h_node_Rune:List Hint:=[H [1,2],H [4,5,6]]
def p_node_Rune_0:PC :=
 (.reg [1,2] [I 2 (.box (.s 0)),I 4 (.mv (V 0)),I 5 (.mv (V 0)),I 6 (.mv (V 0))])
def p_node_Rune_1:PC :=
 (.reg [4,5,6] [I 7 (.ld true 3 (.s 2)),I 8 (.mv (.s 1)),I 9 (C F_node_choose [(.s 7),(.s 8),(.v (.func (.func F_node_RuneC1) [] []))]),I 10 (.ext (.s 9) 0),I 11 (.ext (.s 9) 1),I 12 (.ext (.s 9) 2),I 4 (.mv (.s 10)),I 5 (.mv (.s 11)),I 6 (.mv (.s 12))])
def p_node_Rune:PF:=⟨false,
 (.seq p_node_Rune_0
 (.seq p_node_Rune_1
 .ret)),
 [.s 4,.s 5,.s 6]⟩
theorem c_node_Rune:compF Go.Proofs.Tryz.prog false h_node_Rune Go.Proofs.Tryz.f130=some p_node_Rune:=by kernel_rfl
def h_measure_Rune:List Hint:=[H [0,1],H [0,1,9],H [4,5],H [0,1,6,7],H [0,1,6,16],H [4,5],H [0,21],H [4,5],H [4,5]]
def p_measure_Rune_0:PC :=
 (.reg [0,1] [I 4 (.mv (V 0)),I 5 (.mv (V 0))])
def p_measure_Rune_1:PC :=
 (.reg [0,1,9] [I 8 (.mv (.s 1)),I 9 (.bin .lss (.s 8) (V 0))])
def p_measure_Rune_2:PC :=
 (.reg [4,5] [I 4 (.mv (V 0)),I 5 (.mv (V 3))])
def p_measure_Rune_3:PC :=
 (.reg [0,1,6,7] [I 11 (.mv (.s 0)),I 12 (.mv (.s 1)),I 13 (C F_measure_find [(.s 11),(.v (.func (.func F_measure_begins) [] [])),(.s 12)]),I 10 (.mv (.s 13)),I 14 (.ext (.s 10) 0),I 15 (.ext (.s 10) 1),I 6 (.mv (.s 14)),I 7 (.mv (.s 15))])
def p_measure_Rune_4:PC :=
 (.reg [0,1,6,16] [I 16 (.mv (.s 7))])
def p_measure_Rune_5:PC :=
 (.reg [4,5] [I 17 (.mv (.s 6)),I 4 (.mv (.s 17)),I 5 (.mv (V 0))])
def p_measure_Rune_6:PC :=
 (.reg [0,21] [I 18 (.mv (.s 1)),I 19 (.mv (.s 0)),I 20 (C F_measure_count [(.s 19),(.v (.func (.func F_measure_begins) [] []))]),I 21 (.bin .eql (.s 18) (.s 20))])
def p_measure_Rune_7:PC :=
 (.reg [4,5] [I 22 (.mv (.s 0)),I 23 (.len 0 (.s 22)),I 4 (.mv (.s 23)),I 5 (.mv (V 0))])
def p_measure_Rune_8:PC :=
 (.reg [4,5] [I 4 (.mv (V 0)),I 5 (.mv (V 3))])
def p_measure_Rune:PF:=⟨false,
 (.seq p_measure_Rune_0
 (.seq (.seq p_measure_Rune_1
 (.ite (.s 9)
 (.seq p_measure_Rune_2
 .ret)
 .skip))
 (.seq (.seq p_measure_Rune_3
 (.seq p_measure_Rune_4
 (.ite (.s 16)
 (.seq p_measure_Rune_5
 .ret)
 .skip)))
 (.seq (.seq p_measure_Rune_6
 (.ite (.s 21)
 (.seq p_measure_Rune_7
 .ret)
 .skip))
 (.seq p_measure_Rune_8
 .ret))))),
 [.s 4,.s 5]⟩
theorem c_measure_Rune:compF Go.Proofs.Tryz.prog false h_measure_Rune Go.Proofs.Tryz.f131=some p_measure_Rune:=by kernel_rfl
def h_seek_before:List Hint:=[H [0,2,4,6,8],H [0,2,4,6,8,12],H [0,2,4,6,8,12,21],H [10,11],H [0,2,4,6,8,31],H [10,11],H [0,2,4,6,8,36],H [10,11],H [0,2,4,6,8,13],H [4,13,14,15],H [4,13,14,15,50],H [10,11],H [13,15,16],H [13,15,16,62],H [10,11],H [10,11]]
def p_seek_before_0:PC :=
 (.reg [0,2,4,6,8] [I 6 (.box (.s 1)),I 8 (.box (.s 3)),I 10 (.mv (V 0)),I 11 (.mv (V 0))])
def p_seek_before_1:PC :=
 (.reg [0,2,4,6,8,12] [I 17 (.mv (.s 0)),I 18 (.ld true 5 (.s 6)),I 19 (C F_seek_check [(.s 17),(.s 18)]),I 12 (.mv (.s 19))])
def p_seek_before_2:PC :=
 (.reg [0,2,4,6,8,12,21] [I 20 (.mv (.s 12)),I 21 (.bin .neq (.s 20) (V 0))])
def p_seek_before_3:PC :=
 (.reg [10,11] [I 22 (.mv (.s 12)),I 10 (.mv (V 0)),I 11 (.mv (.s 22))])
def p_seek_before_4:PC :=
 (.reg [0,2,4,6,8,31] [I 23 (.mv (.s 2)),I 24 (.bin .lss (.s 23) (V 0)),I 25 (.mv (.s 24)),G 26 25 false (.mv (.s 2)),G 27 25 false (.fadr 2 (.s 6)),G 28 25 false (.fadr 0 (.s 27)),G 29 25 false (.ld false 1 (.s 28)),G 30 25 false (.bin .gtr (.s 26) (.s 29)),I 31 (.pick (.s 25) (.v (.bool true)) (.s 30))])
def p_seek_before_5:PC :=
 (.reg [10,11] [I 10 (.mv (V 0)),I 11 (.mv (V 3))])
def p_seek_before_6:PC :=
 (.reg [0,2,4,6,8,36] [I 32 (.mv (.s 2)),I 33 (.fadr 2 (.s 6)),I 34 (.fadr 0 (.s 33)),I 35 (.ld false 1 (.s 34)),I 36 (.bin .eql (.s 32) (.s 35))])
def p_seek_before_7:PC :=
 (.reg [10,11] [I 37 (.ld false 1 (.s 8)),I 38 (.fadr 2 (.s 6)),I 39 (.ld true 3 (.s 38)),I 40 (.call .norm (.s 37) [(.s 39)]),I 10 (.mv (.s 40)),I 11 (.mv (V 0))])
def p_seek_before_8:PC :=
 (.reg [0,2,4,6,8,13] [I 13 (.box (V 0)),J (.st 1 (.s 13) (V 0))])
def p_seek_before_9:PC :=
 (.reg [4,13,14,15] [I 42 (.mv (.s 0)),I 43 (.ld true 5 (.s 6)),I 44 (.mv (.s 2)),I 45 (.mkf (.func F_seek_beforeC1) [] [(.s 13),(.s 8)]),I 46 (C F_seek_walk [(.s 42),(.s 43),(.s 44),(.v (.func (.func F_node_Child) [] [])),(.s 45)]),I 41 (.mv (.s 46)),I 47 (.ext (.s 41) 0),I 48 (.ext (.s 41) 1),I 14 (.box (.v (.agg [(.str []),(.int .i64 0),.nils]))),J (.st 3 (.s 14) (.s 47)),I 15 (.mv (.s 48))])
def p_seek_before_10:PC :=
 (.reg [4,13,14,15,50] [I 49 (.mv (.s 15)),I 50 (.bin .neq (.s 49) (V 0))])
def p_seek_before_11:PC :=
 (.reg [10,11] [I 51 (.mv (.s 15)),I 10 (.mv (V 0)),I 11 (.mv (.s 51))])
def p_seek_before_12:PC :=
 (.reg [13,15,16] [I 53 (.mv (.s 4)),I 54 (.fadr 0 (.s 14)),I 55 (.ld false 1 (.s 54)),I 56 (.fadr 1 (.s 14)),I 57 (.ld false 1 (.s 56)),I 58 (.call .norm (.s 53) [(.s 55),(.s 57)]),I 52 (.mv (.s 58)),I 59 (.ext (.s 52) 0),I 60 (.ext (.s 52) 1),I 16 (.mv (.s 59)),I 15 (.mv (.s 60))])
def p_seek_before_13:PC :=
 (.reg [13,15,16,62] [I 61 (.mv (.s 15)),I 62 (.bin .neq (.s 61) (V 0))])
def p_seek_before_14:PC :=
 (.reg [10,11] [I 63 (.mv (.s 15)),I 10 (.mv (V 0)),I 11 (.mv (.s 63))])
def p_seek_before_15:PC :=
 (.reg [10,11] [I 64 (.ld false 1 (.s 13)),I 65 (.mv (.s 16)),I 66 (.bin .add (.s 64) (.s 65)),I 10 (.mv (.s 66)),I 11 (.mv (V 0))])
def p_seek_before:PF:=⟨false,
 (.seq p_seek_before_0
 (.seq (.seq p_seek_before_1
 (.seq p_seek_before_2
 (.ite (.s 21)
 (.seq p_seek_before_3
 .ret)
 .skip)))
 (.seq (.seq p_seek_before_4
 (.ite (.s 31)
 (.seq p_seek_before_5
 .ret)
 .skip))
 (.seq (.seq p_seek_before_6
 (.ite (.s 36)
 (.seq p_seek_before_7
 .ret)
 .skip))
 (.seq p_seek_before_8
 (.seq p_seek_before_9
 (.seq (.seq p_seek_before_10
 (.ite (.s 50)
 (.seq p_seek_before_11
 .ret)
 .skip))
 (.seq p_seek_before_12
 (.seq (.seq p_seek_before_13
 (.ite (.s 62)
 (.seq p_seek_before_14
 .ret)
 .skip))
 (.seq p_seek_before_15
 .ret)))))))))),
 [.s 10,.s 11]⟩
theorem c_seek_before:compF Go.Proofs.Tryz.prog false h_seek_before Go.Proofs.Tryz.f133=some p_seek_before:=by kernel_rfl
def h_seek_RunesBeforeC1:List Hint:=[H [1],H [2]]
def p_seek_RunesBeforeC1_0:PC :=
 (.reg [1] [I 1 (.box (.s 0)),I 2 (.mv (V 0))])
def p_seek_RunesBeforeC1_1:PC :=
 (.reg [2] [I 3 (.fadr 1 (.s 1)),I 4 (.ld false 1 (.s 3)),I 2 (.mv (.s 4))])
def p_seek_RunesBeforeC1:PF:=⟨false,
 (.seq p_seek_RunesBeforeC1_0
 (.seq p_seek_RunesBeforeC1_1
 .ret)),
 [.s 2]⟩
theorem c_seek_RunesBeforeC1:compF Go.Proofs.Tryz.prog false h_seek_RunesBeforeC1 Go.Proofs.Tryz.f134=some p_seek_RunesBeforeC1:=by kernel_rfl
def h_measure_RunesBefore:List Hint:=[H [0,1],H [4,5]]
def p_measure_RunesBefore_0:PC :=
 (.reg [0,1] [I 4 (.mv (V 0)),I 5 (.mv (V 0))])
def p_measure_RunesBefore_1:PC :=
 (.reg [4,5] [I 6 (.mv (.s 0)),I 7 (.mv (.s 1)),I 8 (C F_measure_before [(.s 6),(.s 7),(.v (.func (.func F_measure_begins) [] []))]),I 9 (.ext (.s 8) 0),I 10 (.ext (.s 8) 1),I 4 (.mv (.s 9)),I 5 (.mv (.s 10))])
def p_measure_RunesBefore:PF:=⟨false,
 (.seq p_measure_RunesBefore_0
 (.seq p_measure_RunesBefore_1
 .ret)),
 [.s 4,.s 5]⟩
theorem c_measure_RunesBefore:compF Go.Proofs.Tryz.prog false h_measure_RunesBefore Go.Proofs.Tryz.f135=some p_measure_RunesBefore:=by kernel_rfl
def h_node_Line:List Hint:=[H [1,2],H [1,2,11],H [9],H [9,19],H [4,5,6],H [4,5,6],H [4,5,6],H [4,5,6,30],H [4,5,6],H [4,5,6]]
def p_node_Line_0:PC :=
 (.reg [1,2] [I 2 (.box (.s 0)),I 4 (.mv (V 0)),I 5 (.mv (V 0)),I 6 (.mv (V 0))])
def p_node_Line_1:PC :=
 (.reg [1,2,11] [I 10 (.mv (.s 1)),I 11 (.bin .lss (.s 10) (V 1))])
def p_node_Line_2:PC :=
 (.reg [9] [I 13 (.ld true 3 (.s 2)),I 14 (C F_node_choose [(.s 13),(V 0),(.v (.func (.func F_node_LineC1) [] []))]),I 12 (.mv (.s 14)),I 15 (.ext (.s 12) 0),I 16 (.ext (.s 12) 1),I 17 (.ext (.s 12) 2),I 7 (.mv (.s 15)),I 8 (.mv (.s 16)),I 9 (.mv (.s 17))])
def p_node_Line_3:PC :=
 (.reg [9,19] [I 18 (.mv (.s 9)),I 19 (.bin .neq (.s 18) (V 0))])
def p_node_Line_4:PC :=
 (.reg [4,5,6] [I 20 (.mv (.s 9)),I 4 (.mv (V 0)),I 5 (.mv (V 0)),I 6 (.mv (.s 20))])
def p_node_Line_5:PC :=
 (.reg [4,5,6] [I 4 (.mv (V 0)),I 5 (.mv (V 0)),I 6 (.mv (V 3))])
def p_node_Line_6:PC :=
 (.reg [4,5,6] [I 22 (.ld true 3 (.s 2)),I 23 (.mv (.s 1)),I 24 (.bin .sub (.s 23) (V 1)),I 25 (C F_node_choose [(.s 22),(.s 24),(.v (.func (.func F_node_LineC2) [] []))]),I 21 (.mv (.s 25)),I 26 (.ext (.s 21) 0),I 27 (.ext (.s 21) 1),I 28 (.ext (.s 21) 2),I 4 (.mv (.s 26)),I 5 (.mv (.s 27)),I 6 (.mv (.s 28))])
def p_node_Line_7:PC :=
 (.reg [4,5,6,30] [I 29 (.mv (.s 6)),I 30 (.bin .neq (.s 29) (V 0))])
def p_node_Line_8:PC :=
 (.reg [4,5,6] [I 31 (.mv (.s 6)),I 4 (.mv (V 0)),I 5 (.mv (V 0)),I 6 (.mv (.s 31))])
def p_node_Line_9:PC :=
 (.reg [4,5,6] [I 32 (.mv (.s 4)),I 33 (.mv (.s 5)),I 34 (.bin .add (.s 33) (V 1)),I 4 (.mv (.s 32)),I 5 (.mv (.s 34)),I 6 (.mv (V 0))])
def p_node_Line:PF:=⟨false,
 (.seq p_node_Line_0
 (.seq (.seq p_node_Line_1
 (.ite (.s 11)
 (.seq (.seq p_node_Line_2
 (.seq p_node_Line_3
 (.ite (.s 19)
 (.seq p_node_Line_4
 .ret)
 .skip)))
 (.seq p_node_Line_5
 .ret))
 .skip))
 (.seq p_node_Line_6
 (.seq (.seq p_node_Line_7
 (.ite (.s 30)
 (.seq p_node_Line_8
 .ret)
 .skip))
 (.seq p_node_Line_9
 .ret))))),
 [.s 4,.s 5,.s 6]⟩
theorem c_node_Line:compF Go.Proofs.Tryz.prog false h_node_Line Go.Proofs.Tryz.f137=some p_node_Line:=by kernel_rfl
def h_measure_Line:List Hint:=[H [0,1],H [0,1,9],H [4,5],H [0,1,11],H [6,7],H [6,19],H [4,5],H [4,5]]
def p_measure_Line_0:PC :=
 (.reg [0,1] [I 4 (.mv (V 0)),I 5 (.mv (V 0))])
def p_measure_Line_1:PC :=
 (.reg [0,1,9] [I 8 (.mv (.s 1)),I 9 (.bin .eql (.s 8) (V 0))])
def p_measure_Line_2:PC :=
 (.reg [4,5] [I 4 (.mv (V 0)),I 5 (.mv (V 0))])
def p_measure_Line_3:PC :=
 (.reg [0,1,11] [I 10 (.mv (.s 1)),I 11 (.bin .gtr (.s 10) (V 0))])
def p_measure_Line_4:PC :=
 (.reg [6,7] [I 13 (.mv (.s 0)),I 14 (.mv (.s 1)),I 15 (.bin .sub (.s 14) (V 1)),I 16 (C F_measure_find [(.s 13),(.v (.func (.func F_measure_feeds) [] [])),(.s 15)]),I 12 (.mv (.s 16)),I 17 (.ext (.s 12) 0),I 18 (.ext (.s 12) 1),I 6 (.mv (.s 17)),I 7 (.mv (.s 18))])
def p_measure_Line_5:PC :=
 (.reg [6,19] [I 19 (.mv (.s 7))])
def p_measure_Line_6:PC :=
 (.reg [4,5] [I 20 (.mv (.s 6)),I 21 (.bin .add (.s 20) (V 1)),I 4 (.mv (.s 21)),I 5 (.mv (V 0))])
def p_measure_Line_7:PC :=
 (.reg [4,5] [I 4 (.mv (V 0)),I 5 (.mv (V 3))])
def p_measure_Line:PF:=⟨false,
 (.seq p_measure_Line_0
 (.seq (.seq p_measure_Line_1
 (.ite (.s 9)
 (.seq p_measure_Line_2
 .ret)
 .skip))
 (.seq (.seq p_measure_Line_3
 (.ite (.s 11)
 (.seq p_measure_Line_4
 (.seq p_measure_Line_5
 (.ite (.s 19)
 (.seq p_measure_Line_6
 .ret)
 .skip)))
 .skip))
 (.seq p_measure_Line_7
 .ret)))),
 [.s 4,.s 5]⟩
theorem c_measure_Line:compF Go.Proofs.Tryz.prog false h_measure_Line Go.Proofs.Tryz.f138=some p_measure_Line:=by kernel_rfl
def h_seek_LineOfC1:List Hint:=[H [1],H [2]]
def p_seek_LineOfC1_0:PC :=
 (.reg [1] [I 1 (.box (.s 0)),I 2 (.mv (V 0))])
def p_seek_LineOfC1_1:PC :=
 (.reg [2] [I 3 (.fadr 2 (.s 1)),I 4 (.ld false 1 (.s 3)),I 2 (.mv (.s 4))])
def p_seek_LineOfC1:PF:=⟨false,
 (.seq p_seek_LineOfC1_0
 (.seq p_seek_LineOfC1_1
 .ret)),
 [.s 2]⟩
theorem c_seek_LineOfC1:compF Go.Proofs.Tryz.prog false h_seek_LineOfC1 Go.Proofs.Tryz.f140=some p_seek_LineOfC1:=by kernel_rfl
def h_measure_LineOf:List Hint:=[H [0,1],H [4,5]]
def p_measure_LineOf_0:PC :=
 (.reg [0,1] [I 4 (.mv (V 0)),I 5 (.mv (V 0))])
def p_measure_LineOf_1:PC :=
 (.reg [4,5] [I 6 (.mv (.s 0)),I 7 (.mv (.s 1)),I 8 (C F_measure_before [(.s 6),(.s 7),(.v (.func (.func F_measure_feeds) [] []))]),I 9 (.ext (.s 8) 0),I 10 (.ext (.s 8) 1),I 4 (.mv (.s 9)),I 5 (.mv (.s 10))])
def p_measure_LineOf:PF:=⟨false,
 (.seq p_measure_LineOf_0
 (.seq p_measure_LineOf_1
 .ret)),
 [.s 4,.s 5]⟩
theorem c_measure_LineOf:compF Go.Proofs.Tryz.prog false h_measure_LineOf Go.Proofs.Tryz.f141=some p_measure_LineOf:=by kernel_rfl
def h_quartolaw16_laid:List Hint:=[H [0],H [0,5,6],H [0,5,20],H [2,3,4],⟨[0,5,7],[0],[],[],[],[]⟩,H [0,5,7,8],H [0,5,7,8,24],H [0,5,7,8,9,10],H [0,5,7,8,9,37],H [2,3,4],H [0,5,7,8],H [0,5,7,8],H [2,3,4]]
def p_quartolaw16_laid_0:PC :=
 (.reg [0] [I 2 (.mv (.v .nilptr)),I 3 (.mv (.v .nils)),I 4 (.mv (.v (.bool false)))])
def p_quartolaw16_laid_1:PC :=
 (.reg [0,5,6] [I 12 (C F_arena_New [(V 1500),(.v (.int .u64 3))]),I 11 (.mv (.s 12)),I 13 (.ext (.s 11) 0),I 14 (.ext (.s 11) 1),I 5 (.mv (.s 13)),I 6 (.mv (.s 14))])
def p_quartolaw16_laid_2:PC :=
 (.reg [0,5,20] [I 15 (.mv (.s 5)),I 16 (.eqs false 3 [] (.s 15) (.v .nilptr)),I 17 (.mv (.s 16)),G 18 17 false (.mv (.s 6)),G 19 17 false (.bin .neq (.s 18) (V 0)),I 20 (.pick (.s 17) (.v (.bool true)) (.s 19))])
def p_quartolaw16_laid_3:PC :=
 (.reg [2,3,4] [I 2 (.mv (.v .nilptr)),I 3 (.mv (.v .nils)),I 4 (.mv (.v (.bool false)))])
def p_quartolaw16_laid_4:PC :=
 (.reg [0,5,7] [I 7 (.onil 5)])
def p_quartolaw16_laid_5:PC :=
 (.reg [0,5,7,8] [I 8 (.mv (V 0))])
def p_quartolaw16_laid_6:PC :=
 (.reg [0,5,7,8,24] [I 21 (.mv (.s 8)),I 22 (.mv (.s 0)),I 23 (.len 1 (.s 22)),I 24 (.bin .lss (.s 21) (.s 23))])
def p_quartolaw16_laid_7:PC :=
 (.reg [0,5,7,8,9,10] [I 28 (.mv (.s 5)),I 29 (.mv (.s 0)),I 30 (.mv (.s 8)),I 31 (.ixS 1 (.s 29) (.s 30)),I 32 (.ld false 1 (.s 31)),I 33 (C F_rope_New [(.s 28),(.s 32)]),I 27 (.mv (.s 33)),I 34 (.ext (.s 27) 0),I 35 (.ext (.s 27) 1),I 9 (.box (.v ZR)),J (.st 5 (.s 9) (.s 34)),I 10 (.mv (.s 35))])
def p_quartolaw16_laid_8:PC :=
 (.reg [0,5,7,8,9,37] [I 36 (.mv (.s 10)),I 37 (.bin .neq (.s 36) (V 0))])
def p_quartolaw16_laid_9:PC :=
 (.reg [2,3,4] [I 2 (.mv (.v .nilptr)),I 3 (.mv (.v .nils)),I 4 (.mv (.v (.bool false)))])
def p_quartolaw16_laid_10:PC :=
 (.reg [0,5,7,8] [I 38 (.mv (.s 7)),I 39 (.ld true 5 (.s 9)),I 40 (.bslice false 5 [ZR] [(0,(.s 39))]),I 41 (.app 5 40 (.s 38) (.s 40)),I 7 (.mv (.s 41))])
def p_quartolaw16_laid_11:PC :=
 (.reg [0,5,7,8] [I 25 (.mv (.s 8)),I 26 (.bin .add (.s 25) (V 1)),I 8 (.mv (.s 26))])
def p_quartolaw16_laid_12:PC :=
 (.seq (.seq p_quartolaw16_laid_6
 (.ite (.s 24)
 .skip
 (.exit 0)))
 (.seq (.block 1
 (.seq p_quartolaw16_laid_7
 (.seq (.seq p_quartolaw16_laid_8
 (.ite (.s 37)
 (.seq p_quartolaw16_laid_9
 .ret)
 .skip))
 p_quartolaw16_laid_10)))
 p_quartolaw16_laid_11))
def p_quartolaw16_laid_13:PC :=
 (.reg [2,3,4] [I 42 (.mv (.s 5)),I 43 (.mv (.s 7)),I 2 (.mv (.s 42)),I 3 (.mv (.s 43)),I 4 (.mv (.v (.bool true)))])
def p_quartolaw16_laid:PF:=⟨true,
 (.seq p_quartolaw16_laid_0
 (.seq p_quartolaw16_laid_1
 (.seq (.seq p_quartolaw16_laid_2
 (.ite (.s 20)
 (.seq p_quartolaw16_laid_3
 .ret)
 .skip))
 (.seq p_quartolaw16_laid_4
 (.seq (.seq p_quartolaw16_laid_5
 (.block 0
 (.loop p_quartolaw16_laid_12)))
 (.seq p_quartolaw16_laid_13
 .ret)))))),
 [.s 2,.s 3,.s 4]⟩
theorem c_quartolaw16_laid:compF Go.Proofs.Tryz.prog true h_quartolaw16_laid Go.Proofs.Tryz.f145=some p_quartolaw16_laid:=by kernel_rfl
def h_quartolaw16_plans:List Hint:=[H [0,1,2],⟨[0,1,2,8],[0],[],[],[],[]⟩,H [0,1,2,8,9],H [0,1,2,8,9,19],H [0,1,2,8,9,24],H [0,1,2,8,9,10,11],H [0,1,2,8,9,10,35],H [6,7],H [0,1,2,8,9],H [0,1,2,8,9,12],H [0,1,2,8,9,12,13,14],H [0,1,2,8,9,12,13,59],H [6,7],H [0,1,2,8,9,12,13,15],⟨[0,1,2,8,9,13,14],[],[(13,.pure)],[],[],[]⟩,H [0,1,2,8,9,13,93],H [6,7],H [0,1,2,8,9],H [0,1,2,8,9],H [6,7]]
def p_quartolaw16_plans_0:PC :=
 (.reg [0,1,2] [I 6 (.mv (.v .nils)),I 7 (.mv (.v (.bool false)))])
def p_quartolaw16_plans_1:PC :=
 (.reg [0,1,2,8] [I 8 (.onil 7)])
def p_quartolaw16_plans_2:PC :=
 (.reg [0,1,2,8,9] [I 9 (.mv (V 0))])
def p_quartolaw16_plans_3:PC :=
 (.reg [0,1,2,8,9,19] [I 16 (.mv (.s 9)),I 17 (.mv (.s 2)),I 18 (.len 1 (.s 17)),I 19 (.bin .lss (.s 16) (.s 18))])
def p_quartolaw16_plans_4:PC :=
 (.reg [0,1,2,8,9,24] [I 22 (.mv (.s 1)),I 23 (.len 1 (.s 22)),I 24 (.bin .eql (.s 23) (V 0))])
def p_quartolaw16_plans_5:PC :=
 (.reg [0,1,2,8,9,10,11] [I 26 (.mv (.s 2)),I 27 (.mv (.s 9)),I 28 (.ixS 5 (.s 26) (.s 27)),I 29 (.fadr 4 (.s 28)),I 30 (.ld false 1 (.s 29)),I 31 (C F_plan_Build [(.s 30)]),I 25 (.mv (.s 31)),I 32 (.ext (.s 25) 0),I 33 (.ext (.s 25) 1),I 10 (.box (.v ZT)),J (.st 7 (.s 10) (.s 32)),I 11 (.mv (.s 33))])
def p_quartolaw16_plans_6:PC :=
 (.reg [0,1,2,8,9,10,35] [I 34 (.mv (.s 11)),I 35 (.bin .neq (.s 34) (V 0))])
def p_quartolaw16_plans_7:PC :=
 (.reg [6,7] [I 6 (.mv (.v .nils)),I 7 (.mv (.v (.bool false)))])
def p_quartolaw16_plans_8:PC :=
 (.reg [0,1,2,8,9] [I 36 (.mv (.s 8)),I 37 (.ld true 7 (.s 10)),I 38 (.bslice false 7 [ZT] [(0,(.s 37))]),I 39 (.app 7 80 (.s 36) (.s 38)),I 8 (.mv (.s 39))])
def p_quartolaw16_plans_9:PC :=
 (.reg [0,1,2,8,9,12] [I 40 (.mv (.s 1)),I 41 (.mv (.s 2)),I 42 (.mv (.s 9)),I 43 (.ixS 5 (.s 41) (.s 42)),I 44 (.fadr 1 (.s 43)),I 45 (.ld false 1 (.s 44)),I 46 (.mv (.s 1)),I 47 (.len 1 (.s 46)),I 48 (.bin .sub (.s 47) (V 1)),I 49 (C F_quartolaw16_pick [(.s 45),(.s 48)]),I 50 (.ixS 5 (.s 40) (.s 49)),I 51 (.ld true 5 (.s 50)),I 12 (.box (.v ZR)),J (.st 5 (.s 12) (.s 51))])
def p_quartolaw16_plans_10:PC :=
 (.reg [0,1,2,8,9,12,13,14] [I 53 (.mv (.s 0)),I 54 (.ld true 5 (.s 12)),I 55 (C F_plan_Keep [(.s 53),(.s 54)]),I 52 (.mv (.s 55)),I 56 (.ext (.s 52) 0),I 57 (.ext (.s 52) 1),I 13 (.box (.v ZT)),J (.st 7 (.s 13) (.s 56)),I 14 (.mv (.s 57))])
def p_quartolaw16_plans_11:PC :=
 (.reg [0,1,2,8,9,12,13,59] [I 58 (.mv (.s 14)),I 59 (.bin .neq (.s 58) (V 0))])
def p_quartolaw16_plans_12:PC :=
 (.reg [6,7] [I 6 (.mv (.v .nils)),I 7 (.mv (.v (.bool false)))])
def p_quartolaw16_plans_13:PC :=
 (.reg [0,1,2,8,9,12,13,15] [I 60 (.mv (.s 2)),I 61 (.mv (.s 9)),I 62 (.ixS 5 (.s 60) (.s 61)),I 63 (.fadr 2 (.s 62)),I 64 (.ld false 1 (.s 63)),I 65 (.fadr 2 (.s 12)),I 66 (.fadr 0 (.s 65)),I 67 (.ld false 1 (.s 66)),I 68 (C F_quartolaw16_pick [(.s 64),(.s 67)]),I 15 (.mv (.s 68))])
def p_quartolaw16_plans_14:PC :=
 (.reg [0,1,2,8,9,13,14] [I 70 (.mv (.s 0)),I 71 (.ld true 7 (.s 13)),I 72 (.mv (.s 15)),I 73 (.mv (.s 2)),I 74 (.mv (.s 9)),I 75 (.ixS 5 (.s 73) (.s 74)),I 76 (.fadr 3 (.s 75)),I 77 (.ld false 1 (.s 76)),I 78 (.fadr 2 (.s 12)),I 79 (.fadr 0 (.s 78)),I 80 (.ld false 1 (.s 79)),I 81 (.mv (.s 15)),I 82 (.bin .sub (.s 80) (.s 81)),I 83 (.call .pure (.v (.func (.func F_quartolaw16_pick) [] [])) [(.s 77),(.s 82)]),I 84 (.mv (.s 2)),I 85 (.mv (.s 9)),I 86 (.ixS 5 (.s 84) (.s 85)),I 87 (.fadr 4 (.s 86)),I 88 (.ld false 1 (.s 87)),I 89 (C F_plan_Replace [(.s 70),(.s 71),(.s 72),(.s 83),(.s 88)]),I 69 (.mv (.s 89)),I 90 (.ext (.s 69) 0),I 91 (.ext (.s 69) 1),J (.st 7 (.s 13) (.s 90)),I 14 (.mv (.s 91))])
def p_quartolaw16_plans_15:PC :=
 (.reg [0,1,2,8,9,13,93] [I 92 (.mv (.s 14)),I 93 (.bin .neq (.s 92) (V 0))])
def p_quartolaw16_plans_16:PC :=
 (.reg [6,7] [I 6 (.mv (.v .nils)),I 7 (.mv (.v (.bool false)))])
def p_quartolaw16_plans_17:PC :=
 (.reg [0,1,2,8,9] [I 94 (.mv (.s 8)),I 95 (.ld true 7 (.s 13)),I 96 (.bslice false 7 [ZT] [(0,(.s 95))]),I 97 (.app 7 80 (.s 94) (.s 96)),I 8 (.mv (.s 97))])
def p_quartolaw16_plans_18:PC :=
 (.reg [0,1,2,8,9] [I 20 (.mv (.s 9)),I 21 (.bin .add (.s 20) (V 1)),I 9 (.mv (.s 21))])
def p_quartolaw16_plans_19:PC :=
 (.seq (.seq p_quartolaw16_plans_3
 (.ite (.s 19)
 .skip
 (.exit 0)))
 (.seq (.block 1
 (.seq (.seq p_quartolaw16_plans_4
 (.ite (.s 24)
 (.seq p_quartolaw16_plans_5
 (.seq (.seq p_quartolaw16_plans_6
 (.ite (.s 35)
 (.seq p_quartolaw16_plans_7
 .ret)
 .skip))
 (.seq p_quartolaw16_plans_8
 (.exit 1))))
 .skip))
 (.seq p_quartolaw16_plans_9
 (.seq p_quartolaw16_plans_10
 (.seq (.seq p_quartolaw16_plans_11
 (.ite (.s 59)
 (.seq p_quartolaw16_plans_12
 .ret)
 .skip))
 (.seq p_quartolaw16_plans_13
 (.seq p_quartolaw16_plans_14
 (.seq (.seq p_quartolaw16_plans_15
 (.ite (.s 93)
 (.seq p_quartolaw16_plans_16
 .ret)
 .skip))
 p_quartolaw16_plans_17))))))))
 p_quartolaw16_plans_18))
def p_quartolaw16_plans_20:PC :=
 (.reg [6,7] [I 98 (.mv (.s 8)),I 6 (.mv (.s 98)),I 7 (.mv (.v (.bool true)))])
def p_quartolaw16_plans:PF:=⟨false,
 (.seq p_quartolaw16_plans_0
 (.seq p_quartolaw16_plans_1
 (.seq (.seq p_quartolaw16_plans_2
 (.block 0
 (.loop p_quartolaw16_plans_19)))
 (.seq p_quartolaw16_plans_20
 .ret)))),
 [.s 6,.s 7]⟩
theorem c_quartolaw16_plans:compF Go.Proofs.Tryz.prog false h_quartolaw16_plans Go.Proofs.Tryz.f146=some p_quartolaw16_plans:=by kernel_rfl
def h_freelist_New:List Hint:=[H [0,1],H [0,1,21],H [4,5],⟨[0,6],[],[],[],[(1,(.here 1)),(5,(.here 5)),(3,(.here 3))],[3,1,5]⟩,H [0,6,31,32],H [0,6,31,32,33],H [0,6,7,31,32],H [0,6,7,31,32],H [0,6,31,32],H [0,6,31,32],H [4,5]]
def p_freelist_New_0:PC :=
 (.reg [0,1] [I 4 (.mv (.v .nilptr)),I 5 (.mv (V 0))])
def p_freelist_New_1:PC :=
 (.reg [0,1,21] [I 8 (.mv (.s 0)),I 9 (.bin .lss (.s 8) (V 1)),I 10 (.mv (.s 9)),G 11 10 false (.mv (.s 0)),G 12 10 false (.bin .gtr (.s 11) (V 16384)),I 13 (.pick (.s 10) (.v (.bool true)) (.s 12)),I 14 (.mv (.s 13)),G 15 14 false (.mv (.s 1)),G 16 14 false (.bin .lss (.s 15) (.v (.int .u64 1))),I 17 (.pick (.s 14) (.v (.bool true)) (.s 16)),I 18 (.mv (.s 17)),G 19 18 false (.mv (.s 1)),G 20 18 false (.bin .gtr (.s 19) (.v (.int .u64 4294967295))),I 21 (.pick (.s 18) (.v (.bool true)) (.s 20))])
def p_freelist_New_2:PC :=
 (.reg [4,5] [I 4 (.mv (.v .nilptr)),I 5 (.mv (V 3))])
def p_freelist_New_3:PC :=
 (.regH [3,1,5] [0,6] [I 22 (.mv (.s 0)),I 23 (.w (.here 1) (.mkslice 1 8 (.int .i64 0) (.s 22) (.s 22))),I 24 (.mv (.s 0)),I 25 (.w (.here 3) (.mkslice 1 1 (.int .u8 0) (.s 24) (.s 24))),I 26 (.mv (.s 0)),I 27 (.w (.here 5) (.mkslice 1 8 (.int .u64 0) (.s 26) (.s 26))),I 28 (.mv (.s 1)),I 29 (.build [.nils,.nils,.nils,(.int .u64 0)] [(0,1,(.s 23)),(1,1,(.s 25)),(2,1,(.s 27)),(3,1,(.s 28))]),I 30 (.box (.s 29)),I 6 (.mv (.s 30))])
def p_freelist_New_4:PC :=
 (.reg [0,6,31,32] [I 31 (.mv (.s 0)),I 32 (.mv (V 0))])
def p_freelist_New_5:PC :=
 (.reg [0,6,31,32,33] [I 33 (.bin .lss (.s 32) (.s 31))])
def p_freelist_New_6:PC :=
 (.reg [0,6,7,31,32] [I 34 (.mv (.s 32)),I 7 (.mv (.s 34))])
def p_freelist_New_7:PC :=
 (.reg [0,6,7,31,32] [I 35 (.mv (.s 6)),I 36 (.nilck (.s 35)),I 37 (.fadr 0 (.s 36)),I 38 (.ld false 1 (.s 37)),I 39 (.mv (.s 7)),I 40 (.mv (.s 0)),I 41 (.bin .sub (.s 40) (V 1)),I 42 (.mv (.s 7)),I 43 (.bin .sub (.s 41) (.s 42)),I 44 (.ixS 1 (.s 38) (.s 39)),J (.st 1 (.s 44) (.s 43))])
def p_freelist_New_8:PC :=
 (.reg [0,6,31,32] [I 45 (.mv (.s 6)),I 46 (.nilck (.s 45)),I 47 (.fadr 2 (.s 46)),I 48 (.ld false 1 (.s 47)),I 49 (.mv (.s 7)),I 50 (.ixS 1 (.s 48) (.s 49)),J (.st 1 (.s 50) (.v (.int .u64 1)))])
def p_freelist_New_9:PC :=
 (.reg [0,6,31,32] [I 51 (.bin .add (.s 32) (V 1)),I 32 (.mv (.s 51))])
def p_freelist_New_10:PC :=
 (.seq p_freelist_New_5
 (.seq (.ite (.s 33)
 .skip
 (.exit 0))
 (.seq (.block 1
 (.seq p_freelist_New_6
 (.seq p_freelist_New_7
 p_freelist_New_8)))
 p_freelist_New_9)))
def p_freelist_New_11:PC :=
 (.reg [4,5] [I 52 (.mv (.s 6)),I 4 (.mv (.s 52)),I 5 (.mv (V 0))])
def p_freelist_New:PF:=⟨true,
 (.seq p_freelist_New_0
 (.seq (.seq p_freelist_New_1
 (.ite (.s 21)
 (.seq p_freelist_New_2
 .ret)
 .skip))
 (.seq p_freelist_New_3
 (.seq (.seq p_freelist_New_4
 (.block 0
 (.loop p_freelist_New_10)))
 (.seq p_freelist_New_11
 .ret))))),
 [.s 4,.s 5]⟩
theorem c_freelist_New:compF Go.Proofs.Tryz.prog true h_freelist_New Go.Proofs.Tryz.f147=some p_freelist_New:=by kernel_rfl
def h_quartolaw17_sameC1:List Hint:=[H [0,1,2,3],H [6]]
def p_quartolaw17_sameC1_0:PC :=
 (.reg [0,1,2,3] [I 6 (.mv (.v (.bool false)))])
def p_quartolaw17_sameC1_1:PC :=
 (.reg [6] [I 7 (.ld false 1 (.s 2)),I 8 (.mv (.s 0)),I 9 (.bin .eql (.s 7) (.s 8)),I 10 (.mv (.s 9)),G 11 10 true (.ld false 1 (.s 3)),G 12 10 true (.mv (.s 1)),G 13 10 true (.bin .eql (.s 11) (.s 12)),I 14 (.pick (.s 10) (.s 13) (.v (.bool false))),I 6 (.mv (.s 14))])
def p_quartolaw17_sameC1:PF:=⟨false,
 (.seq p_quartolaw17_sameC1_0
 (.seq p_quartolaw17_sameC1_1
 .ret)),
 [.s 6]⟩
theorem c_quartolaw17_sameC1:compF Go.Proofs.Tryz.prog false h_quartolaw17_sameC1 Go.Proofs.Tryz.f148=some p_quartolaw17_sameC1:=by kernel_rfl
def h_chunk_Chunks:List Hint:=[H [0],⟨[0,3],[0],[],[],[],[]⟩,H [0,3,8,9,10],H [0,3,8,9,10,11],H [0,3,5,8,9,10],H [0,3,5,8,9,10],H [0,3,8,9,10],H [0,3,8,9,10],H [2]]
def p_chunk_Chunks_0:PC :=
 (.reg [0] [I 2 (.mv (.v .nils))])
def p_chunk_Chunks_1:PC :=
 (.reg [0,3] [I 3 (.onil 1)])
def p_chunk_Chunks_2:PC :=
 (.reg [0,3,8,9,10] [I 6 (.mv (.s 0)),I 7 (.len 0 (.s 6)),I 8 (C F_chunk_sizes [(.s 7),(V 16)]),I 9 (.len 1 (.s 8)),I 10 (.mv (V 0))])
def p_chunk_Chunks_3:PC :=
 (.reg [0,3,8,9,10,11] [I 11 (.bin .lss (.s 10) (.s 9))])
def p_chunk_Chunks_4:PC :=
 (.reg [0,3,5,8,9,10] [I 12 (.ixS 1 (.s 8) (.s 10)),I 13 (.ld false 1 (.s 12)),I 5 (.mv (.s 13))])
def p_chunk_Chunks_5:PC :=
 (.reg [0,3,5,8,9,10] [I 14 (.mv (.s 3)),I 15 (.mv (.s 0)),I 16 (.mv (.s 5)),I 17 (.slcS (.s 15) none (some (.s 16))),I 18 (.bslice false 1 [(.str [])] [(0,(.s 17))]),I 19 (.app 1 16 (.s 14) (.s 18)),I 3 (.mv (.s 19))])
def p_chunk_Chunks_6:PC :=
 (.reg [0,3,8,9,10] [I 20 (.mv (.s 0)),I 21 (.mv (.s 5)),I 22 (.slcS (.s 20) (some (.s 21)) none),I 0 (.mv (.s 22))])
def p_chunk_Chunks_7:PC :=
 (.reg [0,3,8,9,10] [I 23 (.bin .add (.s 10) (V 1)),I 10 (.mv (.s 23))])
def p_chunk_Chunks_8:PC :=
 (.seq p_chunk_Chunks_3
 (.seq (.ite (.s 11)
 .skip
 (.exit 0))
 (.seq (.block 1
 (.seq p_chunk_Chunks_4
 (.seq p_chunk_Chunks_5
 p_chunk_Chunks_6)))
 p_chunk_Chunks_7)))
def p_chunk_Chunks_9:PC :=
 (.reg [2] [I 24 (.mv (.s 3)),I 2 (.mv (.s 24))])
def p_chunk_Chunks:PF:=⟨false,
 (.seq p_chunk_Chunks_0
 (.seq p_chunk_Chunks_1
 (.seq (.seq p_chunk_Chunks_2
 (.block 0
 (.loop p_chunk_Chunks_8)))
 (.seq p_chunk_Chunks_9
 .ret)))),
 [.s 2]⟩
theorem c_chunk_Chunks:compF Go.Proofs.Tryz.prog false h_chunk_Chunks Go.Proofs.Tryz.f166=some p_chunk_Chunks:=by kernel_rfl
def h_chunk_Even:List Hint:=[H [0,1],H [0,1,11],H [4,5],H [0,1,13],H [4,5],H [4,5]]
def p_chunk_Even_0:PC :=
 (.reg [0,1] [I 4 (.mv (.v .nils)),I 5 (.mv (V 0))])
def p_chunk_Even_1:PC :=
 (.reg [0,1,11] [I 6 (.mv (.s 0)),I 7 (.bin .lss (.s 6) (V 0)),I 8 (.mv (.s 7)),G 9 8 false (.mv (.s 1)),G 10 8 false (.bin .lss (.s 9) (V 1)),I 11 (.pick (.s 8) (.v (.bool true)) (.s 10))])
def p_chunk_Even_2:PC :=
 (.reg [4,5] [I 4 (.mv (.v .nils)),I 5 (.mv (V 2))])
def p_chunk_Even_3:PC :=
 (.reg [0,1,13] [I 12 (.mv (.s 0)),I 13 (.bin .gtr (.s 12) (V 65536))])
def p_chunk_Even_4:PC :=
 (.reg [4,5] [I 4 (.mv (.v .nils)),I 5 (.mv (V 5))])
def p_chunk_Even_5:PC :=
 (.reg [4,5] [I 14 (.mv (.s 0)),I 15 (.mv (.s 1)),I 16 (C F_chunk_sizes [(.s 14),(.s 15)]),I 4 (.mv (.s 16)),I 5 (.mv (V 0))])
def p_chunk_Even:PF:=⟨false,
 (.seq p_chunk_Even_0
 (.seq (.seq p_chunk_Even_1
 (.ite (.s 11)
 (.seq p_chunk_Even_2
 .ret)
 .skip))
 (.seq (.seq p_chunk_Even_3
 (.ite (.s 13)
 (.seq p_chunk_Even_4
 .ret)
 .skip))
 (.seq p_chunk_Even_5
 .ret)))),
 [.s 4,.s 5]⟩
theorem c_chunk_Even:compF Go.Proofs.Tryz.prog false h_chunk_Even Go.Proofs.Tryz.f167=some p_chunk_Even:=by kernel_rfl
def h_plan_group:List Hint:=[H [0,2],H [0,2,3],H [2],H [0,2,8],H [2],⟨[2],[],[],[],[(7,.app0),(5,.imm)],[]⟩]
def p_plan_group_0:PC :=
 (.reg [0,2] [I 2 (.box (.v ZT))])
def p_plan_group_1:PC :=
 (.reg [0,2,3] [I 4 (.mv (.s 0)),I 5 (.len 1 (.s 4)),I 6 (.bin .eql (.s 5) (V 0)),I 3 (.mv (.s 6))])
def p_plan_group_2:PC :=
 (.reg [2] [I 7 (.build [(.int .u64 0),(.int .i64 0),(.int .i64 0),(.int .i64 0),(.int .i64 0),(.str []),.nils] []),J (.st 7 (.s 2) (.s 7))])
def p_plan_group_3:PC :=
 (.reg [0,2,8] [I 9 (.mv (.s 0)),I 10 (.len 1 (.s 9)),I 11 (.bin .eql (.s 10) (V 1)),I 8 (.mv (.s 11))])
def p_plan_group_4:PC :=
 (.reg [2] [I 12 (.mv (.s 0)),I 13 (.ixS 7 (.s 12) (V 0)),I 14 (.ld true 7 (.s 13)),J (.st 7 (.s 2) (.s 14))])
def p_plan_group_5:PC :=
 (.reg [2] [I 15 (.mv (.s 0)),I 16 (.ixS 7 (.s 15) (V 0)),I 17 (.fadr 1 (.s 16)),I 18 (.ld false 1 (.s 17)),I 19 (.bin .add (.s 18) (V 1)),I 20 (.w .imm (.bslice false 7 [] [])),I 21 (.mv (.s 0)),I 22 (.w .app0 (.app 7 80 (.s 20) (.s 21))),I 23 (.build [(.int .u64 0),(.int .i64 0),(.int .i64 0),(.int .i64 0),(.int .i64 0),(.str []),.nils] [(1,1,(.s 19)),(6,1,(.s 22))]),J (.st 7 (.s 2) (.s 23))])
def p_plan_group:PF:=⟨false,
 (.seq p_plan_group_0
 (.seq (.block 0
 (.seq p_plan_group_1
 (.ite (.s 3)
 (.seq p_plan_group_2
 .ret)
 (.seq p_plan_group_3
 (.ite (.s 8)
 (.seq p_plan_group_4
 .ret)
 .skip)))))
 (.seq p_plan_group_5
 .ret))),
 [.c 2 true 7]⟩
theorem c_plan_group:compF Go.Proofs.Tryz.prog false h_plan_group Go.Proofs.Tryz.f168=some p_plan_group:=by kernel_rfl
def h_node_Check:List Hint:=[H [1],H [1,5],H [2],H [9],H [2],H [2]]
def p_node_Check_0:PC :=
 (.reg [1] [I 1 (.box (.s 0)),I 2 (.mv (V 0))])
def p_node_Check_1:PC :=
 (.reg [1,5] [I 3 (.ld true 3 (.s 1)),I 4 (C F_node_formed [(.s 3)]),I 5 (.un .not (.s 4))])
def p_node_Check_2:PC :=
 (.reg [2] [I 2 (.mv (V 23))])
def p_node_Check_3:PC :=
 (.reg [9] [I 6 (.ld true 3 (.s 1)),I 7 (C F_node_sum [(.s 6)]),I 8 (.fld false 0 1 (.s 7)),I 9 (.bin .gtr (.s 8) (V 65536))])
def p_node_Check_4:PC :=
 (.reg [2] [I 2 (.mv (V 5))])
def p_node_Check_5:PC :=
 (.reg [2] [I 2 (.mv (V 0))])
def p_node_Check:PF:=⟨false,
 (.seq p_node_Check_0
 (.seq (.seq p_node_Check_1
 (.ite (.s 5)
 (.seq p_node_Check_2
 .ret)
 .skip))
 (.seq (.seq p_node_Check_3
 (.ite (.s 9)
 (.seq p_node_Check_4
 .ret)
 .skip))
 (.seq p_node_Check_5
 .ret)))),
 [.s 2]⟩
theorem c_node_Check:compF Go.Proofs.Tryz.prog false h_node_Check Go.Proofs.Tryz.f176=some p_node_Check:=by kernel_rfl
def h_node_Measure:List Hint:=[H [1,2],H [1,2,4],H [1,2,4,8],H [2,3],H [2,3]]
def p_node_Measure_0:PC :=
 (.reg [1,2] [I 1 (.box (.s 0)),I 2 (.box (.v ZM)),I 3 (.mv (V 0))])
def p_node_Measure_1:PC :=
 (.reg [1,2,4] [I 5 (.ld true 3 (.s 1)),I 6 (C F_node_Check [(.s 5)]),I 4 (.mv (.s 6))])
def p_node_Measure_2:PC :=
 (.reg [1,2,4,8] [I 7 (.mv (.s 4)),I 8 (.bin .neq (.s 7) (V 0))])
def p_node_Measure_3:PC :=
 (.reg [2,3] [I 9 (.build [(.int .i64 0),(.int .i64 0),(.int .i64 0)] []),I 10 (.mv (.s 4)),J (.st 3 (.s 2) (.s 9)),I 3 (.mv (.s 10))])
def p_node_Measure_4:PC :=
 (.reg [2,3] [I 11 (.ld true 3 (.s 1)),I 12 (C F_node_sum [(.s 11)]),J (.st 3 (.s 2) (.s 12)),I 3 (.mv (V 0))])
def p_node_Measure:PF:=⟨false,
 (.seq p_node_Measure_0
 (.seq (.seq p_node_Measure_1
 (.seq p_node_Measure_2
 (.ite (.s 8)
 (.seq p_node_Measure_3
 .ret)
 .skip)))
 (.seq p_node_Measure_4
 .ret))),
 [.c 2 true 3,.s 3]⟩
theorem c_node_Measure:compF Go.Proofs.Tryz.prog false h_node_Measure Go.Proofs.Tryz.f177=some p_node_Measure:=by kernel_rfl
def h_freelist_List_Take:List Hint:=[H [0],H [0,6],H [2,3],H [0,12],H [2,3],H [0,4],H [0,4],H [0,4],H [2,3]]
def p_freelist_List_Take_0:PC :=
 (.reg [0] [I 2 (.mv (.v (.int .u64 0))),I 3 (.mv (V 0))])
def p_freelist_List_Take_1:PC :=
 (.reg [0,6] [I 5 (.mv (.s 0)),I 6 (.eqs false 3 [] (.s 5) (.v .nilptr))])
def p_freelist_List_Take_2:PC :=
 (.reg [2,3] [I 2 (.mv (.v (.int .u64 0))),I 3 (.mv (V 1))])
def p_freelist_List_Take_3:PC :=
 (.reg [0,12] [I 7 (.mv (.s 0)),I 8 (.nilck (.s 7)),I 9 (.fadr 0 (.s 8)),I 10 (.ld false 1 (.s 9)),I 11 (.len 1 (.s 10)),I 12 (.bin .eql (.s 11) (V 0))])
def p_freelist_List_Take_4:PC :=
 (.reg [2,3] [I 2 (.mv (.v (.int .u64 0))),I 3 (.mv (V 6))])
def p_freelist_List_Take_5:PC :=
 (.reg [0,4] [I 13 (.mv (.s 0)),I 14 (.nilck (.s 13)),I 15 (.fadr 0 (.s 14)),I 16 (.ld false 1 (.s 15)),I 17 (.mv (.s 0)),I 18 (.nilck (.s 17)),I 19 (.fadr 0 (.s 18)),I 20 (.ld false 1 (.s 19)),I 21 (.len 1 (.s 20)),I 22 (.bin .sub (.s 21) (V 1)),I 23 (.ixS 1 (.s 16) (.s 22)),I 24 (.ld false 1 (.s 23)),I 4 (.mv (.s 24))])
def p_freelist_List_Take_6:PC :=
 (.reg [0,4] [I 25 (.mv (.s 0)),I 26 (.mv (.s 0)),I 27 (.nilck (.s 26)),I 28 (.fadr 0 (.s 27)),I 29 (.ld false 1 (.s 28)),I 30 (.mv (.s 0)),I 31 (.nilck (.s 30)),I 32 (.fadr 0 (.s 31)),I 33 (.ld false 1 (.s 32)),I 34 (.len 1 (.s 33)),I 35 (.bin .sub (.s 34) (V 1)),I 36 (.slc 1 (.s 29) none (some (.s 35))),I 37 (.nilck (.s 25)),I 38 (.fadr 0 (.s 37)),J (.st 1 (.s 38) (.s 36))])
def p_freelist_List_Take_7:PC :=
 (.reg [0,4] [I 39 (.mv (.s 0)),I 40 (.nilck (.s 39)),I 41 (.fadr 1 (.s 40)),I 42 (.ld false 1 (.s 41)),I 43 (.mv (.s 4)),I 44 (.ixS 1 (.s 42) (.s 43)),J (.st 1 (.s 44) (.v (.int .u8 1)))])
def p_freelist_List_Take_8:PC :=
 (.reg [2,3] [I 45 (.mv (.s 4)),I 46 (.mv (.s 0)),I 47 (.nilck (.s 46)),I 48 (.fadr 2 (.s 47)),I 49 (.ld false 1 (.s 48)),I 50 (.mv (.s 4)),I 51 (.ixS 1 (.s 49) (.s 50)),I 52 (.ld false 1 (.s 51)),I 53 (C F_handle_Make [(.s 45),(.s 52)]),I 54 (.ext (.s 53) 0),I 55 (.ext (.s 53) 1),I 2 (.mv (.s 54)),I 3 (.mv (.s 55))])
def p_freelist_List_Take:PF:=⟨false,
 (.seq p_freelist_List_Take_0
 (.seq (.seq p_freelist_List_Take_1
 (.ite (.s 6)
 (.seq p_freelist_List_Take_2
 .ret)
 .skip))
 (.seq (.seq p_freelist_List_Take_3
 (.ite (.s 12)
 (.seq p_freelist_List_Take_4
 .ret)
 .skip))
 (.seq p_freelist_List_Take_5
 (.seq p_freelist_List_Take_6
 (.seq p_freelist_List_Take_7
 (.seq p_freelist_List_Take_8
 .ret))))))),
 [.s 2,.s 3]⟩
theorem c_freelist_List_Take:compF Go.Proofs.Tryz.prog false h_freelist_List_Take Go.Proofs.Tryz.f178=some p_freelist_List_Take:=by kernel_rfl
def h_plan_same:List Hint:=[H [0,1,2,7],H [2,7,9,10],H [2,7,9,10,19],H [8],H [2,7,9,10,11],H [38],H [8],H [8]]
def p_plan_same_0:PC :=
 (.reg [0,1,2,7] [I 7 (.box (.s 3)),I 8 (.mv (V 0))])
def p_plan_same_1:PC :=
 (.reg [2,7,9,10] [I 13 (.mv (.s 0)),I 14 (.mv (.s 1)),I 15 (C F_arena_Arena_Get [(.s 13),(.s 14)]),I 12 (.mv (.s 15)),I 16 (.ext (.s 12) 0),I 17 (.ext (.s 12) 1),I 9 (.box (.v ZN)),J (.st 3 (.s 9) (.s 16)),I 10 (.mv (.s 17))])
def p_plan_same_2:PC :=
 (.reg [2,7,9,10,19] [I 18 (.mv (.s 10)),I 19 (.bin .neq (.s 18) (V 0))])
def p_plan_same_3:PC :=
 (.reg [8] [I 20 (.mv (.s 10)),I 8 (.mv (.s 20))])
def p_plan_same_4:PC :=
 (.reg [2,7,9,10,11] [I 22 (.ld true 3 (.s 9)),I 23 (C F_node_Measure [(.s 22)]),I 21 (.mv (.s 23)),I 24 (.ext (.s 21) 0),I 25 (.ext (.s 21) 1),I 11 (.box (.v ZM)),J (.st 3 (.s 11) (.s 24)),I 10 (.mv (.s 25))])
def p_plan_same_5:PC :=
 (.reg [38] [I 26 (.mv (.s 10)),I 27 (.bin .neq (.s 26) (V 0)),I 28 (.mv (.s 27)),G 29 28 false (.fadr 0 (.s 9)),G 30 28 false (.ld false 1 (.s 29)),G 31 28 false (.mv (.s 2)),G 32 28 false (.bin .neq (.s 30) (.s 31)),I 33 (.pick (.s 28) (.v (.bool true)) (.s 32)),I 34 (.mv (.s 33)),G 35 34 false (.ld true 3 (.s 11)),G 36 34 false (.ld true 3 (.s 7)),G 37 34 false (.eqs true 0 [(0,0),(1,0),(2,0)] (.s 35) (.s 36)),I 38 (.pick (.s 34) (.v (.bool true)) (.s 37))])
def p_plan_same_6:PC :=
 (.reg [8] [I 8 (.mv (V 23))])
def p_plan_same_7:PC :=
 (.reg [8] [I 8 (.mv (V 0))])
def p_plan_same:PF:=⟨false,
 (.seq p_plan_same_0
 (.seq p_plan_same_1
 (.seq (.seq p_plan_same_2
 (.ite (.s 19)
 (.seq p_plan_same_3
 .ret)
 .skip))
 (.seq p_plan_same_4
 (.seq (.seq p_plan_same_5
 (.ite (.s 38)
 (.seq p_plan_same_6
 .ret)
 .skip))
 (.seq p_plan_same_7
 .ret)))))),
 [.s 8]⟩
theorem c_plan_same:compF Go.Proofs.Tryz.prog false h_plan_same Go.Proofs.Tryz.f184=some p_plan_same:=by kernel_rfl
def h_plan_concat:List Hint:=[H [0,4,5,6],H [0,4,5,6,12],H [6,7],H [0,4,5,6,16],H [6,7],H [6,8,9],H [6,8,9,26],H [6,7],H [6,7]]
def p_plan_concat_0:PC :=
 (.reg [0,4,5,6] [I 4 (.box (.s 1)),I 5 (.box (.s 2)),I 6 (.box (.v ZT)),I 7 (.mv (V 0))])
def p_plan_concat_1:PC :=
 (.reg [0,4,5,6,12] [I 10 (.ld true 7 (.s 4)),I 11 (C F_plan_kind [(.s 10)]),I 12 (.bin .eql (.s 11) (V 1))])
def p_plan_concat_2:PC :=
 (.reg [6,7] [I 13 (.ld true 7 (.s 5)),J (.st 7 (.s 6) (.s 13)),I 7 (.mv (V 0))])
def p_plan_concat_3:PC :=
 (.reg [0,4,5,6,16] [I 14 (.ld true 7 (.s 5)),I 15 (C F_plan_kind [(.s 14)]),I 16 (.bin .eql (.s 15) (V 1))])
def p_plan_concat_4:PC :=
 (.reg [6,7] [I 17 (.ld true 7 (.s 4)),J (.st 7 (.s 6) (.s 17)),I 7 (.mv (V 0))])
def p_plan_concat_5:PC :=
 (.reg [6,8,9] [I 19 (.mv (.s 0)),I 20 (.ld true 7 (.s 4)),I 21 (.ld true 7 (.s 5)),I 22 (C F_plan_merge [(.s 19),(.s 20),(.s 21)]),I 18 (.mv (.s 22)),I 23 (.ext (.s 18) 0),I 24 (.ext (.s 18) 1),I 8 (.mv (.s 23)),I 9 (.mv (.s 24))])
def p_plan_concat_6:PC :=
 (.reg [6,8,9,26] [I 25 (.mv (.s 9)),I 26 (.bin .neq (.s 25) (V 0))])
def p_plan_concat_7:PC :=
 (.reg [6,7] [I 27 (.build [(.int .u64 0),(.int .i64 0),(.int .i64 0),(.int .i64 0),(.int .i64 0),(.str []),.nils] []),I 28 (.mv (.s 9)),J (.st 7 (.s 6) (.s 27)),I 7 (.mv (.s 28))])
def p_plan_concat_8:PC :=
 (.reg [6,7] [I 29 (.mv (.s 8)),I 30 (C F_plan_group [(.s 29)]),J (.st 7 (.s 6) (.s 30)),I 7 (.mv (V 0))])
def p_plan_concat:PF:=⟨false,
 (.seq p_plan_concat_0
 (.seq (.seq p_plan_concat_1
 (.ite (.s 12)
 (.seq p_plan_concat_2
 .ret)
 .skip))
 (.seq (.seq p_plan_concat_3
 (.ite (.s 16)
 (.seq p_plan_concat_4
 .ret)
 .skip))
 (.seq p_plan_concat_5
 (.seq (.seq p_plan_concat_6
 (.ite (.s 26)
 (.seq p_plan_concat_7
 .ret)
 .skip))
 (.seq p_plan_concat_8
 .ret)))))),
 [.c 6 true 7,.s 7]⟩
theorem c_plan_concat:compF Go.Proofs.Tryz.prog false h_plan_concat Go.Proofs.Tryz.f186=some p_plan_concat:=by kernel_rfl
def h_plan_own:List Hint:=[H [1,2],H [1,2,9],H [1,2],H [2],H [1,2,3],H [1,2,3,17,18,19],H [1,2,3,17,18,19,20],H [1,2,3,4,5,17,18,19],H [1,2,3,17,18,19],H [1,2,3,17,18,19],H [1,2],H [2]]
def p_plan_own_0:PC :=
 (.reg [1,2] [I 1 (.box (.s 0)),I 2 (.box (.v ZT))])
def p_plan_own_1:PC :=
 (.reg [1,2,9] [I 6 (.fadr 6 (.s 1)),I 7 (.ld false 1 (.s 6)),I 8 (.len 1 (.s 7)),I 9 (.bin .eql (.s 8) (V 0))])
def p_plan_own_2:PC :=
 (.reg [1,2] [I 10 (.fadr 6 (.s 1)),J (.st 1 (.s 10) (.v .nils))])
def p_plan_own_3:PC :=
 (.reg [2] [I 11 (.ld true 7 (.s 1)),J (.st 7 (.s 2) (.s 11))])
def p_plan_own_4:PC :=
 (.reg [1,2,3] [I 12 (.fadr 6 (.s 1)),I 13 (.ld false 1 (.s 12)),I 14 (.len 1 (.s 13)),I 15 (.mkslice 7 80 ZT (.s 14) (.s 14)),I 3 (.mv (.s 15))])
def p_plan_own_5:PC :=
 (.reg [1,2,3,17,18,19] [I 16 (.fadr 6 (.s 1)),I 17 (.ld false 1 (.s 16)),I 18 (.len 1 (.s 17)),I 19 (.mv (V 0))])
def p_plan_own_6:PC :=
 (.reg [1,2,3,17,18,19,20] [I 20 (.bin .lss (.s 19) (.s 18))])
def p_plan_own_7:PC :=
 (.reg [1,2,3,4,5,17,18,19] [I 21 (.mv (.s 19)),I 22 (.ixS 7 (.s 17) (.s 19)),I 23 (.ld true 7 (.s 22)),I 5 (.box (.v ZT)),I 4 (.mv (.s 21)),J (.st 7 (.s 5) (.s 23))])
def p_plan_own_8:PC :=
 (.reg [1,2,3,17,18,19] [I 24 (.mv (.s 3)),I 25 (.mv (.s 4)),I 26 (.ld true 7 (.s 5)),I 27 (C F_plan_own [(.s 26)]),I 28 (.ixS 7 (.s 24) (.s 25)),J (.st 7 (.s 28) (.s 27))])
def p_plan_own_9:PC :=
 (.reg [1,2,3,17,18,19] [I 29 (.bin .add (.s 19) (V 1)),I 19 (.mv (.s 29))])
def p_plan_own_10:PC :=
 (.seq p_plan_own_6
 (.seq (.ite (.s 20)
 .skip
 (.exit 0))
 (.seq (.block 1
 (.seq p_plan_own_7
 p_plan_own_8))
 p_plan_own_9)))
def p_plan_own_11:PC :=
 (.reg [1,2] [I 30 (.mv (.s 3)),I 31 (.fadr 6 (.s 1)),J (.st 1 (.s 31) (.s 30))])
def p_plan_own_12:PC :=
 (.reg [2] [I 32 (.ld true 7 (.s 1)),J (.st 7 (.s 2) (.s 32))])
def p_plan_own:PF:=⟨false,
 (.seq p_plan_own_0
 (.seq (.seq p_plan_own_1
 (.ite (.s 9)
 (.seq p_plan_own_2
 (.seq p_plan_own_3
 .ret))
 .skip))
 (.seq p_plan_own_4
 (.seq (.seq p_plan_own_5
 (.block 0
 (.loop p_plan_own_10)))
 (.seq p_plan_own_11
 (.seq p_plan_own_12
 .ret)))))),
 [.c 2 true 7]⟩
theorem c_plan_own:compF Go.Proofs.Tryz.prog false h_plan_own Go.Proofs.Tryz.f187=some p_plan_own:=by kernel_rfl
def h_plan_merge:List Hint:=[H [0,4,5],H [0,4,5,22],H [6,7],H [0,4,5,8,9],H [0,4,5,8,9],H [0,4,5,8,9,33],H [0,4,5,8,9,10],H [0,4,5,8,9,10,41],H [6,7],H [0,4,5,8,9,47],H [0,4,5,8,9,10],H [0,4,5,8,9,10,55],H [6,7],H [0,4,5,8,9,57],H [6,7],H [0,4,5,8,9,78],H [6,7],H [0,4,5,8,9,87],H [0,5,8,11],H [8,11,12,13],H [8,11,12,13,107],H [6,7],H [6,7],H [9,10,14],H [9,10,14,127],H [6,7],⟨[6,7],[],[],[],[(4,.blind),(2,.app0),(0,.imm)],[]⟩]
def p_plan_merge_0:PC :=
 (.reg [0,4,5] [I 4 (.box (.s 1)),I 5 (.box (.s 2)),I 6 (.mv (.v .nils)),I 7 (.mv (V 0))])
def p_plan_merge_1:PC :=
 (.reg [0,4,5,22] [I 15 (.fadr 1 (.s 4)),I 16 (.ld false 1 (.s 15)),I 17 (.bin .eql (.s 16) (V 0)),I 18 (.mv (.s 17)),G 19 18 true (.fadr 1 (.s 5)),G 20 18 true (.ld false 1 (.s 19)),G 21 18 true (.bin .eql (.s 20) (V 0)),I 22 (.pick (.s 18) (.s 21) (.v (.bool false)))])
def p_plan_merge_2:PC :=
 (.reg [6,7] [I 23 (.mv (.s 0)),I 24 (.ld true 7 (.s 4)),I 25 (.ld true 7 (.s 5)),I 26 (C F_plan_leaves [(.s 23),(.s 24),(.s 25)]),I 27 (.ext (.s 26) 0),I 28 (.ext (.s 26) 1),I 6 (.mv (.s 27)),I 7 (.mv (.s 28))])
def p_plan_merge_3:PC :=
 (.reg [0,4,5,8,9] [I 8 (.mv (.v .nils)),I 9 (.mv (.v .nils))])
def p_plan_merge_4:PC :=
 (.reg [0,4,5,8,9] [I 10 (.mv (V 0))])
def p_plan_merge_5:PC :=
 (.reg [0,4,5,8,9,33] [I 29 (.fadr 1 (.s 4)),I 30 (.ld false 1 (.s 29)),I 31 (.fadr 1 (.s 5)),I 32 (.ld false 1 (.s 31)),I 33 (.bin .geq (.s 30) (.s 32))])
def p_plan_merge_6:PC :=
 (.reg [0,4,5,8,9,10] [I 35 (.mv (.s 0)),I 36 (.ld true 7 (.s 4)),I 37 (C F_plan_children [(.s 35),(.s 36)]),I 34 (.mv (.s 37)),I 38 (.ext (.s 34) 0),I 39 (.ext (.s 34) 1),I 8 (.mv (.s 38)),I 10 (.mv (.s 39))])
def p_plan_merge_7:PC :=
 (.reg [0,4,5,8,9,10,41] [I 40 (.mv (.s 10)),I 41 (.bin .neq (.s 40) (V 0))])
def p_plan_merge_8:PC :=
 (.reg [6,7] [I 42 (.mv (.s 10)),I 6 (.mv (.v .nils)),I 7 (.mv (.s 42))])
def p_plan_merge_9:PC :=
 (.reg [0,4,5,8,9,47] [I 43 (.fadr 1 (.s 5)),I 44 (.ld false 1 (.s 43)),I 45 (.fadr 1 (.s 4)),I 46 (.ld false 1 (.s 45)),I 47 (.bin .geq (.s 44) (.s 46))])
def p_plan_merge_10:PC :=
 (.reg [0,4,5,8,9,10] [I 49 (.mv (.s 0)),I 50 (.ld true 7 (.s 5)),I 51 (C F_plan_children [(.s 49),(.s 50)]),I 48 (.mv (.s 51)),I 52 (.ext (.s 48) 0),I 53 (.ext (.s 48) 1),I 9 (.mv (.s 52)),I 10 (.mv (.s 53))])
def p_plan_merge_11:PC :=
 (.reg [0,4,5,8,9,10,55] [I 54 (.mv (.s 10)),I 55 (.bin .neq (.s 54) (V 0))])
def p_plan_merge_12:PC :=
 (.reg [6,7] [I 56 (.mv (.s 10)),I 6 (.mv (.v .nils)),I 7 (.mv (.s 56))])
def p_plan_merge_13:PC :=
 (.reg [0,4,5,8,9,57] [I 58 (.fadr 1 (.s 4)),I 59 (.ld false 1 (.s 58)),I 60 (.fadr 1 (.s 5)),I 61 (.ld false 1 (.s 60)),I 62 (.bin .eql (.s 59) (.s 61)),I 63 (.mv (.s 62)),G 64 63 true (.mv (.s 8)),G 65 63 true (.len 1 (.s 64)),G 66 63 true (.mv (.s 9)),G 67 63 true (.len 1 (.s 66)),G 68 63 true (.bin .add (.s 65) (.s 67)),G 69 63 true (.bin .leq (.s 68) (V 4)),I 70 (.pick (.s 63) (.s 69) (.v (.bool false))),I 57 (.mv (.s 70))])
def p_plan_merge_14:PC :=
 (.reg [6,7] [I 71 (.bslice false 7 [] []),I 72 (.mv (.s 8)),I 73 (.app 7 80 (.s 71) (.s 72)),I 74 (.mv (.s 9)),I 75 (.app 7 80 (.s 73) (.s 74)),I 76 (C F_plan_group [(.s 75)]),I 77 (.bslice false 7 [ZT] [(0,(.s 76))]),I 6 (.mv (.s 77)),I 7 (.mv (V 0))])
def p_plan_merge_15:PC :=
 (.reg [0,4,5,8,9,78] [I 79 (.fadr 1 (.s 4)),I 80 (.ld false 1 (.s 79)),I 81 (.fadr 1 (.s 5)),I 82 (.ld false 1 (.s 81)),I 83 (.bin .eql (.s 80) (.s 82)),I 78 (.mv (.s 83))])
def p_plan_merge_16:PC :=
 (.reg [6,7] [I 84 (.ld true 7 (.s 4)),I 85 (.ld true 7 (.s 5)),I 86 (.bslice false 7 [ZT,ZT] [(0,(.s 84)),(1,(.s 85))]),I 6 (.mv (.s 86)),I 7 (.mv (V 0))])
def p_plan_merge_17:PC :=
 (.reg [0,4,5,8,9,87] [I 88 (.fadr 1 (.s 4)),I 89 (.ld false 1 (.s 88)),I 90 (.fadr 1 (.s 5)),I 91 (.ld false 1 (.s 90)),I 92 (.bin .gtr (.s 89) (.s 91)),I 87 (.mv (.s 92))])
def p_plan_merge_18:PC :=
 (.reg [0,5,8,11] [I 93 (.mv (.s 8)),I 94 (.len 1 (.s 93)),I 95 (.bin .sub (.s 94) (V 1)),I 11 (.mv (.s 95))])
def p_plan_merge_19:PC :=
 (.reg [8,11,12,13] [I 97 (.mv (.s 0)),I 98 (.mv (.s 8)),I 99 (.mv (.s 11)),I 100 (.ixS 7 (.s 98) (.s 99)),I 101 (.ld true 7 (.s 100)),I 102 (.ld true 7 (.s 5)),I 103 (C F_plan_merge [(.s 97),(.s 101),(.s 102)]),I 96 (.mv (.s 103)),I 104 (.ext (.s 96) 0),I 105 (.ext (.s 96) 1),I 12 (.mv (.s 104)),I 13 (.mv (.s 105))])
def p_plan_merge_20:PC :=
 (.reg [8,11,12,13,107] [I 106 (.mv (.s 13)),I 107 (.bin .neq (.s 106) (V 0))])
def p_plan_merge_21:PC :=
 (.reg [6,7] [I 108 (.mv (.s 13)),I 6 (.mv (.v .nils)),I 7 (.mv (.s 108))])
def p_plan_merge_22:PC :=
 (.reg [6,7] [I 109 (.bslice false 7 [] []),I 110 (.mv (.s 8)),I 111 (.mv (.s 11)),I 112 (.slc 7 (.s 110) none (some (.s 111))),I 113 (.app 7 80 (.s 109) (.s 112)),I 114 (.mv (.s 12)),I 115 (.app 7 80 (.s 113) (.s 114)),I 116 (C F_plan_fold [(.s 115)]),I 6 (.mv (.s 116)),I 7 (.mv (V 0))])
def p_plan_merge_23:PC :=
 (.reg [9,10,14] [I 118 (.mv (.s 0)),I 119 (.ld true 7 (.s 4)),I 120 (.mv (.s 9)),I 121 (.ixS 7 (.s 120) (V 0)),I 122 (.ld true 7 (.s 121)),I 123 (C F_plan_merge [(.s 118),(.s 119),(.s 122)]),I 117 (.mv (.s 123)),I 124 (.ext (.s 117) 0),I 125 (.ext (.s 117) 1),I 14 (.mv (.s 124)),I 10 (.mv (.s 125))])
def p_plan_merge_24:PC :=
 (.reg [9,10,14,127] [I 126 (.mv (.s 10)),I 127 (.bin .neq (.s 126) (V 0))])
def p_plan_merge_25:PC :=
 (.reg [6,7] [I 128 (.mv (.s 10)),I 6 (.mv (.v .nils)),I 7 (.mv (.s 128))])
def p_plan_merge_26:PC :=
 (.reg [6,7] [I 129 (.w .imm (.bslice false 7 [] [])),I 130 (.mv (.s 14)),I 131 (.w .app0 (.app 7 80 (.s 129) (.s 130))),I 132 (.mv (.s 9)),I 133 (.w .blind (.slc 7 (.s 132) (some (V 1)) none)),I 134 (.app 7 80 (.s 131) (.s 133)),I 135 (C F_plan_fold [(.s 134)]),I 6 (.mv (.s 135)),I 7 (.mv (V 0))])
def p_plan_merge:PF:=⟨false,
 (.seq p_plan_merge_0
 (.seq (.seq p_plan_merge_1
 (.ite (.s 22)
 (.seq p_plan_merge_2
 .ret)
 .skip))
 (.seq p_plan_merge_3
 (.seq p_plan_merge_4
 (.seq (.seq p_plan_merge_5
 (.ite (.s 33)
 (.seq p_plan_merge_6
 (.seq p_plan_merge_7
 (.ite (.s 41)
 (.seq p_plan_merge_8
 .ret)
 .skip)))
 .skip))
 (.seq (.seq p_plan_merge_9
 (.ite (.s 47)
 (.seq p_plan_merge_10
 (.seq p_plan_merge_11
 (.ite (.s 55)
 (.seq p_plan_merge_12
 .ret)
 .skip)))
 .skip))
 (.seq (.block 0
 (.seq p_plan_merge_13
 (.ite (.s 57)
 (.seq p_plan_merge_14
 .ret)
 (.seq p_plan_merge_15
 (.ite (.s 78)
 (.seq p_plan_merge_16
 .ret)
 (.seq p_plan_merge_17
 (.ite (.s 87)
 (.seq p_plan_merge_18
 (.seq p_plan_merge_19
 (.seq (.seq p_plan_merge_20
 (.ite (.s 107)
 (.seq p_plan_merge_21
 .ret)
 .skip))
 (.seq p_plan_merge_22
 .ret))))
 .skip)))))))
 (.seq p_plan_merge_23
 (.seq (.seq p_plan_merge_24
 (.ite (.s 127)
 (.seq p_plan_merge_25
 .ret)
 .skip))
 (.seq p_plan_merge_26
 .ret)))))))))),
 [.s 6,.s 7]⟩
theorem c_plan_merge:compF Go.Proofs.Tryz.prog false h_plan_merge Go.Proofs.Tryz.f190=some p_plan_merge:=by kernel_rfl
def h_plan_bytes:List Hint:=[H [1],H [1,3],H [3,14,15,16],H [3,14,15,16,17],H [3,5,14,15,16],H [3,14,15,16],H [3,14,15,16],H [2]]
def p_plan_bytes_0:PC :=
 (.reg [1] [I 1 (.box (.s 0)),I 2 (.mv (V 0))])
def p_plan_bytes_1:PC :=
 (.reg [1,3] [I 6 (.fadr 2 (.s 1)),I 7 (.fadr 0 (.s 6)),I 8 (.ld false 1 (.s 7)),I 9 (.fadr 5 (.s 1)),I 10 (.ld false 1 (.s 9)),I 11 (.len 0 (.s 10)),I 12 (.bin .add (.s 8) (.s 11)),I 3 (.mv (.s 12))])
def p_plan_bytes_2:PC :=
 (.reg [3,14,15,16] [I 13 (.fadr 6 (.s 1)),I 14 (.ld false 1 (.s 13)),I 15 (.len 1 (.s 14)),I 16 (.mv (V 0))])
def p_plan_bytes_3:PC :=
 (.reg [3,14,15,16,17] [I 17 (.bin .lss (.s 16) (.s 15))])
def p_plan_bytes_4:PC :=
 (.reg [3,5,14,15,16] [I 18 (.ixS 7 (.s 14) (.s 16)),I 19 (.ld true 7 (.s 18)),I 5 (.box (.v ZT)),J (.st 7 (.s 5) (.s 19))])
def p_plan_bytes_5:PC :=
 (.reg [3,14,15,16] [I 20 (.mv (.s 3)),I 21 (.ld true 7 (.s 5)),I 22 (C F_plan_bytes [(.s 21)]),I 23 (.bin .add (.s 20) (.s 22)),I 3 (.mv (.s 23))])
def p_plan_bytes_6:PC :=
 (.reg [3,14,15,16] [I 24 (.bin .add (.s 16) (V 1)),I 16 (.mv (.s 24))])
def p_plan_bytes_7:PC :=
 (.seq p_plan_bytes_3
 (.seq (.ite (.s 17)
 .skip
 (.exit 0))
 (.seq (.block 1
 (.seq p_plan_bytes_4
 p_plan_bytes_5))
 p_plan_bytes_6)))
def p_plan_bytes_8:PC :=
 (.reg [2] [I 25 (.mv (.s 3)),I 2 (.mv (.s 25))])
def p_plan_bytes:PF:=⟨false,
 (.seq p_plan_bytes_0
 (.seq p_plan_bytes_1
 (.seq (.seq p_plan_bytes_2
 (.block 0
 (.loop p_plan_bytes_7)))
 (.seq p_plan_bytes_8
 .ret)))),
 [.s 2]⟩
theorem c_plan_bytes:compF Go.Proofs.Tryz.prog false h_plan_bytes Go.Proofs.Tryz.f193=some p_plan_bytes:=by kernel_rfl
def h_plan_cut:List Hint:=[H [0,2,4,6,7],H [0,2,4,6,7,18],⟨[6,7,8],[],[],[],[(1,(.hide [(.s 6)])),(2,(.plain (.s 6)))],[]⟩,H [0,2,4,6,7,24],H [6,7,8],H [0,2,4,6,7,29],H [2,6,7,9,10],H [2,6,7,9,10,37],H [6,7,8],H [6,7,10,11,12],H [6,7,8],H [0,2,6,7,8,13],H [0,2,6,7,8,13,60],H [6,7,8],H [0,2,6,7,13,14],H [0,2,6,7,13,14,77],H [0,2,6,7,13,14],H [0,2,6,7,13,14],H [0,2,6,7,13,14,88],⟨[6,7,8],[],[(3,.pure)],[],[],[]⟩,H [0,6,7,8,13,14,15,16],H [0,6,7,8,13,14,15,16,109],H [6,7,8],⟨[0,6,7,8,13,14,16],[],[(4,.pure)],[],[],[]⟩,H [0,6,7,8,13,14,16,124],H [6,7,8],⟨[6,7,8],[],[(6,.pure)],[],[],[]⟩,H [6,7,8,140],H [6,7,8],⟨[6,7,8],[],[],[],[(1,(.hide [(.s 6)])),(2,(.plain (.s 6)))],[]⟩]
def p_plan_cut_0:PC :=
 (.reg [0,2,4,6,7] [I 4 (.box (.s 1)),I 6 (.box (.v ZT)),I 7 (.box (.v ZT)),I 8 (.mv (V 0))])
def p_plan_cut_1:PC :=
 (.reg [0,2,4,6,7,18] [I 17 (.mv (.s 2)),I 18 (.bin .eql (.s 17) (V 0))])
def p_plan_cut_2:PC :=
 (.reg [6,7,8] [I 19 (.build [(.int .u64 0),(.int .i64 0),(.int .i64 0),(.int .i64 0),(.int .i64 0),(.str []),.nils] []),I 20 (.w (.hide [(.s 6)]) (.ld true 7 (.s 4))),J (.w (.plain (.s 6)) (.st 7 (.s 6) (.s 19))),J (.st 7 (.s 7) (.s 20)),I 8 (.mv (V 0))])
def p_plan_cut_3:PC :=
 (.reg [0,2,4,6,7,24] [I 21 (.mv (.s 2)),I 22 (.ld true 7 (.s 4)),I 23 (C F_plan_bytes [(.s 22)]),I 24 (.bin .eql (.s 21) (.s 23))])
def p_plan_cut_4:PC :=
 (.reg [6,7,8] [I 25 (.ld true 7 (.s 4)),I 26 (.build [(.int .u64 0),(.int .i64 0),(.int .i64 0),(.int .i64 0),(.int .i64 0),(.str []),.nils] []),J (.st 7 (.s 6) (.s 25)),J (.st 7 (.s 7) (.s 26)),I 8 (.mv (V 0))])
def p_plan_cut_5:PC :=
 (.reg [0,2,4,6,7,29] [I 27 (.fadr 1 (.s 4)),I 28 (.ld false 1 (.s 27)),I 29 (.bin .eql (.s 28) (V 0))])
def p_plan_cut_6:PC :=
 (.reg [2,6,7,9,10] [I 31 (.mv (.s 0)),I 32 (.ld true 7 (.s 4)),I 33 (C F_plan_line [(.s 31),(.s 32)]),I 30 (.mv (.s 33)),I 34 (.ext (.s 30) 0),I 35 (.ext (.s 30) 1),I 9 (.mv (.s 34)),I 10 (.mv (.s 35))])
def p_plan_cut_7:PC :=
 (.reg [2,6,7,9,10,37] [I 36 (.mv (.s 10)),I 37 (.bin .neq (.s 36) (V 0))])
def p_plan_cut_8:PC :=
 (.reg [6,7,8] [I 38 (.build [(.int .u64 0),(.int .i64 0),(.int .i64 0),(.int .i64 0),(.int .i64 0),(.str []),.nils] []),I 39 (.build [(.int .u64 0),(.int .i64 0),(.int .i64 0),(.int .i64 0),(.int .i64 0),(.str []),.nils] []),I 40 (.mv (.s 10)),J (.st 7 (.s 6) (.s 38)),J (.st 7 (.s 7) (.s 39)),I 8 (.mv (.s 40))])
def p_plan_cut_9:PC :=
 (.reg [6,7,10,11,12] [I 42 (.mv (.s 9)),I 43 (.mv (.s 2)),I 44 (C F_chunk_Cut [(.s 42),(.s 43)]),I 41 (.mv (.s 44)),I 45 (.ext (.s 41) 0),I 46 (.ext (.s 41) 1),I 47 (.ext (.s 41) 2),I 11 (.mv (.s 45)),I 12 (.mv (.s 46)),I 10 (.mv (.s 47))])
def p_plan_cut_10:PC :=
 (.reg [6,7,8] [I 48 (.mv (.s 11)),I 49 (.build [(.int .u64 0),(.int .i64 0),(.int .i64 0),(.int .i64 0),(.int .i64 0),(.str []),.nils] [(5,1,(.s 48))]),I 50 (.mv (.s 12)),I 51 (.build [(.int .u64 0),(.int .i64 0),(.int .i64 0),(.int .i64 0),(.int .i64 0),(.str []),.nils] [(5,1,(.s 50))]),I 52 (.mv (.s 10)),J (.st 7 (.s 6) (.s 49)),J (.st 7 (.s 7) (.s 51)),I 8 (.mv (.s 52))])
def p_plan_cut_11:PC :=
 (.reg [0,2,6,7,8,13] [I 54 (.mv (.s 0)),I 55 (.ld true 7 (.s 4)),I 56 (C F_plan_children [(.s 54),(.s 55)]),I 53 (.mv (.s 56)),I 57 (.ext (.s 53) 0),I 58 (.ext (.s 53) 1),I 13 (.mv (.s 57)),I 8 (.mv (.s 58))])
def p_plan_cut_12:PC :=
 (.reg [0,2,6,7,8,13,60] [I 59 (.mv (.s 8)),I 60 (.bin .neq (.s 59) (V 0))])
def p_plan_cut_13:PC :=
 (.reg [6,7,8] [I 61 (.build [(.int .u64 0),(.int .i64 0),(.int .i64 0),(.int .i64 0),(.int .i64 0),(.str []),.nils] []),I 62 (.build [(.int .u64 0),(.int .i64 0),(.int .i64 0),(.int .i64 0),(.int .i64 0),(.str []),.nils] []),I 63 (.mv (.s 8)),J (.st 7 (.s 6) (.s 61)),J (.st 7 (.s 7) (.s 62)),I 8 (.mv (.s 63))])
def p_plan_cut_14:PC :=
 (.reg [0,2,6,7,13,14] [I 14 (.mv (V 0))])
def p_plan_cut_15:PC :=
 (.reg [0,2,6,7,13,14,77] [I 64 (.mv (.s 14)),I 65 (.bin .add (.s 64) (V 1)),I 66 (.mv (.s 13)),I 67 (.len 1 (.s 66)),I 68 (.bin .lss (.s 65) (.s 67)),I 69 (.mv (.s 68)),G 70 69 true (.mv (.s 2)),G 71 69 true (.mv (.s 13)),G 72 69 true (.mv (.s 14)),G 73 69 true (.ixS 7 (.s 71) (.s 72)),G 74 69 true (.ld true 7 (.s 73)),G 75 69 true (C F_plan_bytes [(.s 74)]),G 76 69 true (.bin .geq (.s 70) (.s 75)),I 77 (.pick (.s 69) (.s 76) (.v (.bool false)))])
def p_plan_cut_16:PC :=
 (.reg [0,2,6,7,13,14] [I 78 (.mv (.s 2)),I 79 (.mv (.s 13)),I 80 (.mv (.s 14)),I 81 (.ixS 7 (.s 79) (.s 80)),I 82 (.ld true 7 (.s 81)),I 83 (C F_plan_bytes [(.s 82)]),I 84 (.bin .sub (.s 78) (.s 83)),I 2 (.mv (.s 84))])
def p_plan_cut_17:PC :=
 (.reg [0,2,6,7,13,14] [I 85 (.mv (.s 14)),I 86 (.bin .add (.s 85) (V 1)),I 14 (.mv (.s 86))])
def p_plan_cut_18:PC :=
 (.seq (.seq p_plan_cut_15
 (.ite (.s 77)
 .skip
 (.exit 0)))
 (.block 1
 (.seq p_plan_cut_16
 p_plan_cut_17)))
def p_plan_cut_19:PC :=
 (.reg [0,2,6,7,13,14,88] [I 87 (.mv (.s 2)),I 88 (.bin .eql (.s 87) (V 0))])
def p_plan_cut_20:PC :=
 (.reg [6,7,8] [I 89 (.mv (.s 13)),I 90 (.mv (.s 14)),I 91 (.slc 7 (.s 89) none (some (.s 90))),I 92 (.call .pure (.v (.func (.func F_plan_group) [] [])) [(.s 91)]),I 93 (.mv (.s 13)),I 94 (.mv (.s 14)),I 95 (.slc 7 (.s 93) (some (.s 94)) none),I 96 (C F_plan_group [(.s 95)]),J (.st 7 (.s 6) (.s 92)),J (.st 7 (.s 7) (.s 96)),I 8 (.mv (V 0))])
def p_plan_cut_21:PC :=
 (.reg [0,6,7,8,13,14,15,16] [I 98 (.mv (.s 0)),I 99 (.mv (.s 13)),I 100 (.mv (.s 14)),I 101 (.ixS 7 (.s 99) (.s 100)),I 102 (.ld true 7 (.s 101)),I 103 (.mv (.s 2)),I 104 (C F_plan_cut [(.s 98),(.s 102),(.s 103)]),I 97 (.mv (.s 104)),I 105 (.ext (.s 97) 0),I 106 (.ext (.s 97) 1),I 107 (.ext (.s 97) 2),I 15 (.box (.v ZT)),I 16 (.box (.v ZT)),J (.st 7 (.s 15) (.s 105)),J (.st 7 (.s 16) (.s 106)),I 8 (.mv (.s 107))])
def p_plan_cut_22:PC :=
 (.reg [0,6,7,8,13,14,15,16,109] [I 108 (.mv (.s 8)),I 109 (.bin .neq (.s 108) (V 0))])
def p_plan_cut_23:PC :=
 (.reg [6,7,8] [I 110 (.build [(.int .u64 0),(.int .i64 0),(.int .i64 0),(.int .i64 0),(.int .i64 0),(.str []),.nils] []),I 111 (.build [(.int .u64 0),(.int .i64 0),(.int .i64 0),(.int .i64 0),(.int .i64 0),(.str []),.nils] []),I 112 (.mv (.s 8)),J (.st 7 (.s 6) (.s 110)),J (.st 7 (.s 7) (.s 111)),I 8 (.mv (.s 112))])
def p_plan_cut_24:PC :=
 (.reg [0,6,7,8,13,14,16] [I 114 (.mv (.s 0)),I 115 (.mv (.s 13)),I 116 (.mv (.s 14)),I 117 (.slc 7 (.s 115) none (some (.s 116))),I 118 (.call .pure (.v (.func (.func F_plan_group) [] [])) [(.s 117)]),I 119 (.ld true 7 (.s 15)),I 120 (C F_plan_concat [(.s 114),(.s 118),(.s 119)]),I 113 (.mv (.s 120)),I 121 (.ext (.s 113) 0),I 122 (.ext (.s 113) 1),J (.st 7 (.s 6) (.s 121)),I 8 (.mv (.s 122))])
def p_plan_cut_25:PC :=
 (.reg [0,6,7,8,13,14,16,124] [I 123 (.mv (.s 8)),I 124 (.bin .neq (.s 123) (V 0))])
def p_plan_cut_26:PC :=
 (.reg [6,7,8] [I 125 (.build [(.int .u64 0),(.int .i64 0),(.int .i64 0),(.int .i64 0),(.int .i64 0),(.str []),.nils] []),I 126 (.build [(.int .u64 0),(.int .i64 0),(.int .i64 0),(.int .i64 0),(.int .i64 0),(.str []),.nils] []),I 127 (.mv (.s 8)),J (.st 7 (.s 6) (.s 125)),J (.st 7 (.s 7) (.s 126)),I 8 (.mv (.s 127))])
def p_plan_cut_27:PC :=
 (.reg [6,7,8] [I 129 (.mv (.s 0)),I 130 (.ld true 7 (.s 16)),I 131 (.mv (.s 13)),I 132 (.mv (.s 14)),I 133 (.bin .add (.s 132) (V 1)),I 134 (.slc 7 (.s 131) (some (.s 133)) none),I 135 (.call .pure (.v (.func (.func F_plan_group) [] [])) [(.s 134)]),I 136 (C F_plan_concat [(.s 129),(.s 130),(.s 135)]),I 128 (.mv (.s 136)),I 137 (.ext (.s 128) 0),I 138 (.ext (.s 128) 1),J (.st 7 (.s 7) (.s 137)),I 8 (.mv (.s 138))])
def p_plan_cut_28:PC :=
 (.reg [6,7,8,140] [I 139 (.mv (.s 8)),I 140 (.bin .neq (.s 139) (V 0))])
def p_plan_cut_29:PC :=
 (.reg [6,7,8] [I 141 (.build [(.int .u64 0),(.int .i64 0),(.int .i64 0),(.int .i64 0),(.int .i64 0),(.str []),.nils] []),I 142 (.build [(.int .u64 0),(.int .i64 0),(.int .i64 0),(.int .i64 0),(.int .i64 0),(.str []),.nils] []),I 143 (.mv (.s 8)),J (.st 7 (.s 6) (.s 141)),J (.st 7 (.s 7) (.s 142)),I 8 (.mv (.s 143))])
def p_plan_cut_30:PC :=
 (.reg [6,7,8] [I 144 (.ld true 7 (.s 6)),I 145 (.w (.hide [(.s 6)]) (.ld true 7 (.s 7))),J (.w (.plain (.s 6)) (.st 7 (.s 6) (.s 144))),J (.st 7 (.s 7) (.s 145)),I 8 (.mv (V 0))])
def p_plan_cut:PF:=⟨false,
 (.seq p_plan_cut_0
 (.seq (.seq p_plan_cut_1
 (.ite (.s 18)
 (.seq p_plan_cut_2
 .ret)
 .skip))
 (.seq (.seq p_plan_cut_3
 (.ite (.s 24)
 (.seq p_plan_cut_4
 .ret)
 .skip))
 (.seq (.seq p_plan_cut_5
 (.ite (.s 29)
 (.seq p_plan_cut_6
 (.seq (.seq p_plan_cut_7
 (.ite (.s 37)
 (.seq p_plan_cut_8
 .ret)
 .skip))
 (.seq p_plan_cut_9
 (.seq p_plan_cut_10
 .ret))))
 .skip))
 (.seq p_plan_cut_11
 (.seq (.seq p_plan_cut_12
 (.ite (.s 60)
 (.seq p_plan_cut_13
 .ret)
 .skip))
 (.seq p_plan_cut_14
 (.seq (.block 0
 (.loop p_plan_cut_18))
 (.seq (.seq p_plan_cut_19
 (.ite (.s 88)
 (.seq p_plan_cut_20
 .ret)
 .skip))
 (.seq p_plan_cut_21
 (.seq (.seq p_plan_cut_22
 (.ite (.s 109)
 (.seq p_plan_cut_23
 .ret)
 .skip))
 (.seq (.seq p_plan_cut_24
 (.seq p_plan_cut_25
 (.ite (.s 124)
 (.seq p_plan_cut_26
 .ret)
 .skip)))
 (.seq (.seq p_plan_cut_27
 (.seq p_plan_cut_28
 (.ite (.s 140)
 (.seq p_plan_cut_29
 .ret)
 .skip)))
 (.seq p_plan_cut_30
 .ret)))))))))))))),
 [.c 6 true 7,.c 7 true 7,.s 8]⟩
theorem c_plan_cut:compF Go.Proofs.Tryz.prog false h_plan_cut Go.Proofs.Tryz.f194=some p_plan_cut:=by kernel_rfl
def h_plan_check:List Hint:=[H [0,2,3,5],H [0,2,3,5,9],H [0,2,5,9,30],H [8],H [0,2,5,32],H [0,2,5,10],H [0,2,5,10,42],H [8],H [0,5,54],H [8],H [0,5,56,57,58],H [0,5,56,57,58,59],H [0,5,12,56,57,58],H [0,5,13,56,57,58],H [0,5,13,56,57,58,69],H [8],H [0,5,56,57,58],H [8]]
def p_plan_check_0:PC :=
 (.reg [0,2,3,5] [I 5 (.box (.s 1)),I 8 (.mv (V 0))])
def p_plan_check_1:PC :=
 (.reg [0,2,3,5,9] [I 14 (.ld true 7 (.s 5)),I 15 (C F_plan_kind [(.s 14)]),I 9 (.mv (.s 15))])
def p_plan_check_2:PC :=
 (.reg [0,2,5,9,30] [I 16 (.mv (.s 9)),I 17 (.bin .eql (.s 16) (V 0)),I 18 (.mv (.s 17)),G 19 18 false (.mv (.s 9)),G 20 18 false (.bin .eql (.s 19) (V 1)),I 21 (.pick (.s 18) (.v (.bool true)) (.s 20)),I 22 (.mv (.s 21)),G 23 22 false (.mv (.s 2)),G 24 22 false (.mv (.s 23)),G 25 24 true (.fadr 1 (.s 5)),G 26 24 true (.ld false 1 (.s 25)),G 27 24 true (.mv (.s 3)),G 28 24 true (.bin .neq (.s 26) (.s 27)),G 29 22 false (.pick (.s 24) (.s 28) (.v (.bool false))),I 30 (.pick (.s 22) (.v (.bool true)) (.s 29))])
def p_plan_check_3:PC :=
 (.reg [8] [I 8 (.mv (V 23))])
def p_plan_check_4:PC :=
 (.reg [0,2,5,32] [I 31 (.mv (.s 9)),I 32 (.bin .eql (.s 31) (V 2))])
def p_plan_check_5:PC :=
 (.reg [0,2,5,10] [I 33 (.mv (.s 0)),I 34 (.fadr 0 (.s 5)),I 35 (.ld false 1 (.s 34)),I 36 (.fadr 1 (.s 5)),I 37 (.ld false 1 (.s 36)),I 38 (.fadr 2 (.s 5)),I 39 (.ld true 3 (.s 38)),I 40 (C F_plan_same [(.s 33),(.s 35),(.s 37),(.s 39)]),I 10 (.mv (.s 40))])
def p_plan_check_6:PC :=
 (.reg [0,2,5,10,42] [I 41 (.mv (.s 10)),I 42 (.bin .neq (.s 41) (V 0))])
def p_plan_check_7:PC :=
 (.reg [8] [I 43 (.mv (.s 10)),I 8 (.mv (.s 43))])
def p_plan_check_8:PC :=
 (.reg [0,5,54] [I 44 (.mv (.s 2)),I 45 (.mv (.s 44)),G 46 45 true (.fadr 1 (.s 5)),G 47 45 true (.ld false 1 (.s 46)),G 48 45 true (.bin .eql (.s 47) (V 0)),I 49 (.pick (.s 45) (.s 48) (.v (.bool false))),I 50 (.mv (.s 49)),G 51 50 true (.ld true 7 (.s 5)),G 52 50 true (C F_plan_bytes [(.s 51)]),G 53 50 true (.bin .lss (.s 52) (V 8)),I 54 (.pick (.s 50) (.s 53) (.v (.bool false)))])
def p_plan_check_9:PC :=
 (.reg [8] [I 8 (.mv (V 23))])
def p_plan_check_10:PC :=
 (.reg [0,5,56,57,58] [I 55 (.fadr 6 (.s 5)),I 56 (.ld false 1 (.s 55)),I 57 (.len 1 (.s 56)),I 58 (.mv (V 0))])
def p_plan_check_11:PC :=
 (.reg [0,5,56,57,58,59] [I 59 (.bin .lss (.s 58) (.s 57))])
def p_plan_check_12:PC :=
 (.reg [0,5,12,56,57,58] [I 60 (.ixS 7 (.s 56) (.s 58)),I 61 (.ld true 7 (.s 60)),I 12 (.box (.v ZT)),J (.st 7 (.s 12) (.s 61))])
def p_plan_check_13:PC :=
 (.reg [0,5,13,56,57,58] [I 62 (.mv (.s 0)),I 63 (.ld true 7 (.s 12)),I 64 (.fadr 1 (.s 5)),I 65 (.ld false 1 (.s 64)),I 66 (.bin .sub (.s 65) (V 1)),I 67 (C F_plan_check [(.s 62),(.s 63),(.v (.bool true)),(.s 66)]),I 13 (.mv (.s 67))])
def p_plan_check_14:PC :=
 (.reg [0,5,13,56,57,58,69] [I 68 (.mv (.s 13)),I 69 (.bin .neq (.s 68) (V 0))])
def p_plan_check_15:PC :=
 (.reg [8] [I 70 (.mv (.s 13)),I 8 (.mv (.s 70))])
def p_plan_check_16:PC :=
 (.reg [0,5,56,57,58] [I 71 (.bin .add (.s 58) (V 1)),I 58 (.mv (.s 71))])
def p_plan_check_17:PC :=
 (.seq p_plan_check_11
 (.seq (.ite (.s 59)
 .skip
 (.exit 0))
 (.seq (.block 1
 (.seq p_plan_check_12
 (.seq p_plan_check_13
 (.seq p_plan_check_14
 (.ite (.s 69)
 (.seq p_plan_check_15
 .ret)
 .skip)))))
 p_plan_check_16)))
def p_plan_check_18:PC :=
 (.reg [8] [I 8 (.mv (V 0))])
def p_plan_check:PF:=⟨false,
 (.seq p_plan_check_0
 (.seq p_plan_check_1
 (.seq (.seq p_plan_check_2
 (.ite (.s 30)
 (.seq p_plan_check_3
 .ret)
 .skip))
 (.seq (.seq p_plan_check_4
 (.ite (.s 32)
 (.seq p_plan_check_5
 (.seq p_plan_check_6
 (.ite (.s 42)
 (.seq p_plan_check_7
 .ret)
 .skip)))
 .skip))
 (.seq (.seq p_plan_check_8
 (.ite (.s 54)
 (.seq p_plan_check_9
 .ret)
 .skip))
 (.seq (.seq p_plan_check_10
 (.block 0
 (.loop p_plan_check_17)))
 (.seq p_plan_check_18
 .ret))))))),
 [.s 8]⟩
theorem c_plan_check:compF Go.Proofs.Tryz.prog false h_plan_check Go.Proofs.Tryz.f195=some p_plan_check:=by kernel_rfl
def h_arena_Arena_Get:List Hint:=[H [0,1,4],H [0,1,4,9],H [4,5],H [0,4,6,7],H [0,4,6,21],H [4],H [4,5],H [4,6],H [4,5]]
def p_arena_Arena_Get_0:PC :=
 (.reg [0,1,4] [I 4 (.box (.v ZN)),I 5 (.mv (V 0))])
def p_arena_Arena_Get_1:PC :=
 (.reg [0,1,4,9] [I 8 (.mv (.s 0)),I 9 (.eqs false 3 [] (.s 8) (.v .nilptr))])
def p_arena_Arena_Get_2:PC :=
 (.reg [4,5] [I 10 (.build [(.int .i64 0),(.str []),.nils] []),J (.st 3 (.s 4) (.s 10)),I 5 (.mv (V 1))])
def p_arena_Arena_Get_3:PC :=
 (.reg [0,4,6,7] [I 12 (.mv (.s 0)),I 13 (.nilck (.s 12)),I 14 (.fadr 2 (.s 13)),I 15 (.ld false 1 (.s 14)),I 16 (.mv (.s 1)),I 17 (.look 0 ZN true (.s 15) (.s 16)),I 11 (.mv (.s 17)),I 18 (.ext (.s 11) 0),I 19 (.ext (.s 11) 1),I 6 (.box (.v ZN)),J (.st 3 (.s 6) (.s 18)),I 7 (.mv (.s 19))])
def p_arena_Arena_Get_4:PC :=
 (.reg [0,4,6,21] [I 20 (.mv (.s 7)),I 21 (.un .not (.s 20))])
def p_arena_Arena_Get_5:PC :=
 (.reg [4] [I 22 (.mv (.s 0)),I 23 (.nilck (.s 22)),I 24 (.fadr 5 (.s 23)),I 25 (.ld false 1 (.s 24)),I 26 (.bin .add (.s 25) (V 1)),I 27 (.nilck (.s 22)),I 28 (.fadr 5 (.s 27)),J (.st 1 (.s 28) (.s 26))])
def p_arena_Arena_Get_6:PC :=
 (.reg [4,5] [I 29 (.build [(.int .i64 0),(.str []),.nils] []),J (.st 3 (.s 4) (.s 29)),I 5 (.mv (V 10))])
def p_arena_Arena_Get_7:PC :=
 (.reg [4,6] [I 30 (.fadr 2 (.s 6)),I 31 (.ld false 1 (.s 30)),I 32 (C F_slices_Clone_api_Kid_api_Kid [(.s 31)]),I 33 (.fadr 2 (.s 6)),J (.st 1 (.s 33) (.s 32))])
def p_arena_Arena_Get_8:PC :=
 (.reg [4,5] [I 34 (.ld true 3 (.s 6)),J (.st 3 (.s 4) (.s 34)),I 5 (.mv (V 0))])
def p_arena_Arena_Get:PF:=⟨false,
 (.seq p_arena_Arena_Get_0
 (.seq (.seq p_arena_Arena_Get_1
 (.ite (.s 9)
 (.seq p_arena_Arena_Get_2
 .ret)
 .skip))
 (.seq p_arena_Arena_Get_3
 (.seq (.seq p_arena_Arena_Get_4
 (.ite (.s 21)
 (.seq p_arena_Arena_Get_5
 (.seq p_arena_Arena_Get_6
 .ret))
 .skip))
 (.seq p_arena_Arena_Get_7
 (.seq p_arena_Arena_Get_8
 .ret)))))),
 [.c 4 true 3,.s 5]⟩
theorem c_arena_Arena_Get:compF Go.Proofs.Tryz.prog false h_arena_Arena_Get Go.Proofs.Tryz.f196=some p_arena_Arena_Get:=by kernel_rfl
def h_freelist_List_slots:List Hint:=[H [0,1],⟨[0,1,5],[0],[],[],[],[]⟩,H [0,1,5,9],H [4],H [1,5,14,15,16],H [1,5,14,15,16,17],H [1,5,6,7,14,15,16],H [1,5,6,14,15,16,23],H [1,5,14,15,16],H [1,5,14,15,16],H [4]]
def p_freelist_List_slots_0:PC :=
 (.reg [0,1] [I 4 (.mv (.v .nils))])
def p_freelist_List_slots_1:PC :=
 (.reg [0,1,5] [I 5 (.onil 1)])
def p_freelist_List_slots_2:PC :=
 (.reg [0,1,5,9] [I 8 (.mv (.s 0)),I 9 (.eqs false 3 [] (.s 8) (.v .nilptr))])
def p_freelist_List_slots_3:PC :=
 (.reg [4] [I 10 (.mv (.s 5)),I 4 (.mv (.s 10))])
def p_freelist_List_slots_4:PC :=
 (.reg [1,5,14,15,16] [I 11 (.mv (.s 0)),I 12 (.nilck (.s 11)),I 13 (.fadr 1 (.s 12)),I 14 (.ld false 1 (.s 13)),I 15 (.len 1 (.s 14)),I 16 (.mv (V 0))])
def p_freelist_List_slots_5:PC :=
 (.reg [1,5,14,15,16,17] [I 17 (.bin .lss (.s 16) (.s 15))])
def p_freelist_List_slots_6:PC :=
 (.reg [1,5,6,7,14,15,16] [I 18 (.mv (.s 16)),I 19 (.ixS 1 (.s 14) (.s 16)),I 20 (.ld false 1 (.s 19)),I 6 (.mv (.s 18)),I 7 (.mv (.s 20))])
def p_freelist_List_slots_7:PC :=
 (.reg [1,5,6,14,15,16,23] [I 21 (.mv (.s 7)),I 22 (.mv (.s 1)),I 23 (.bin .eql (.s 21) (.s 22))])
def p_freelist_List_slots_8:PC :=
 (.reg [1,5,14,15,16] [I 24 (.mv (.s 5)),I 25 (.mv (.s 6)),I 26 (.bslice false 1 [(.int .i64 0)] [(0,(.s 25))]),I 27 (.app 1 8 (.s 24) (.s 26)),I 5 (.mv (.s 27))])
def p_freelist_List_slots_9:PC :=
 (.reg [1,5,14,15,16] [I 28 (.bin .add (.s 16) (V 1)),I 16 (.mv (.s 28))])
def p_freelist_List_slots_10:PC :=
 (.seq p_freelist_List_slots_5
 (.seq (.ite (.s 17)
 .skip
 (.exit 0))
 (.seq (.block 1
 (.seq p_freelist_List_slots_6
 (.seq p_freelist_List_slots_7
 (.ite (.s 23)
 p_freelist_List_slots_8
 .skip))))
 p_freelist_List_slots_9)))
def p_freelist_List_slots_11:PC :=
 (.reg [4] [I 29 (.mv (.s 5)),I 4 (.mv (.s 29))])
def p_freelist_List_slots:PF:=⟨false,
 (.seq p_freelist_List_slots_0
 (.seq p_freelist_List_slots_1
 (.seq (.seq p_freelist_List_slots_2
 (.ite (.s 9)
 (.seq p_freelist_List_slots_3
 .ret)
 .skip))
 (.seq (.seq p_freelist_List_slots_4
 (.block 0
 (.loop p_freelist_List_slots_10)))
 (.seq p_freelist_List_slots_11
 .ret))))),
 [.s 4]⟩
theorem c_freelist_List_slots:compF Go.Proofs.Tryz.prog false h_freelist_List_slots Go.Proofs.Tryz.f200=some p_freelist_List_slots:=by kernel_rfl
def h_rope_Begin:List Hint:=[H [0,3],H [0,3,6],H [0,3,6,12],H [4,5],H [0,3,19],H [4,5],H [3,7],H [7],H [4,5]]
def p_rope_Begin_0:PC :=
 (.reg [0,3] [I 3 (.box (.s 1)),I 4 (.mv (.v .nilptr)),I 5 (.mv (V 0))])
def p_rope_Begin_1:PC :=
 (.reg [0,3,6] [I 8 (.mv (.s 0)),I 9 (.ld true 7 (.s 3)),I 10 (C F_plan_Check [(.s 8),(.s 9)]),I 6 (.mv (.s 10))])
def p_rope_Begin_2:PC :=
 (.reg [0,3,6,12] [I 11 (.mv (.s 6)),I 12 (.bin .neq (.s 11) (V 0))])
def p_rope_Begin_3:PC :=
 (.reg [4,5] [I 13 (.mv (.s 6)),I 4 (.mv (.v .nilptr)),I 5 (.mv (.s 13))])
def p_rope_Begin_4:PC :=
 (.reg [0,3,19] [I 14 (.ld true 7 (.s 3)),I 15 (C F_plan_New [(.s 14)]),I 16 (.mv (.s 0)),I 17 (C F_arena_Arena_Stats [(.s 16)]),I 18 (.fld false 1 1 (.s 17)),I 19 (.bin .gtr (.s 15) (.s 18))])
def p_rope_Begin_5:PC :=
 (.reg [4,5] [I 4 (.mv (.v .nilptr)),I 5 (.mv (V 6))])
def p_rope_Begin_6:PC :=
 (.reg [3,7] [I 20 (.mv (.s 0)),I 21 (.build [.nilptr,.nils,.nilptr] [(0,1,(.s 20))]),I 22 (.box (.s 21)),I 7 (.mv (.s 22))])
def p_rope_Begin_7:PC :=
 (.reg [7] [I 23 (.mv (.s 7)),I 24 (.mv (.s 7)),I 25 (.ld true 7 (.s 3)),I 26 (C F_rope_Pen_add [(.s 24),(.s 25)]),I 27 (.nilck (.s 23)),I 28 (.fadr 2 (.s 27)),J (.st 1 (.s 28) (.s 26))])
def p_rope_Begin_8:PC :=
 (.reg [4,5] [I 29 (.mv (.s 7)),I 4 (.mv (.s 29)),I 5 (.mv (V 0))])
def p_rope_Begin:PF:=⟨true,
 (.seq p_rope_Begin_0
 (.seq (.seq p_rope_Begin_1
 (.seq p_rope_Begin_2
 (.ite (.s 12)
 (.seq p_rope_Begin_3
 .ret)
 .skip)))
 (.seq (.seq p_rope_Begin_4
 (.ite (.s 19)
 (.seq p_rope_Begin_5
 .ret)
 .skip))
 (.seq p_rope_Begin_6
 (.seq p_rope_Begin_7
 (.seq p_rope_Begin_8
 .ret)))))),
 [.s 4,.s 5]⟩
theorem c_rope_Begin:compF Go.Proofs.Tryz.prog true h_rope_Begin Go.Proofs.Tryz.f201=some p_rope_Begin:=by kernel_rfl
def h_rope_Pen_Step:List Hint:=[H [0],H [0,6],H [2,3,4],H [0,12],H [2,3,4],H [0,2,4],H [0,2,4,24],H [2,3,4],H [0,2],H [2,3,4]]
def p_rope_Pen_Step_0:PC :=
 (.reg [0] [I 2 (.mv (.v (.int .u64 0))),I 3 (.mv (.v (.bool false))),I 4 (.mv (V 0))])
def p_rope_Pen_Step_1:PC :=
 (.reg [0,6] [I 5 (.mv (.s 0)),I 6 (.eqs false 3 [] (.s 5) (.v .nilptr))])
def p_rope_Pen_Step_2:PC :=
 (.reg [2,3,4] [I 2 (.mv (.v (.int .u64 0))),I 3 (.mv (.v (.bool false))),I 4 (.mv (V 1))])
def p_rope_Pen_Step_3:PC :=
 (.reg [0,12] [I 7 (.mv (.s 0)),I 8 (.nilck (.s 7)),I 9 (.fadr 1 (.s 8)),I 10 (.ld false 1 (.s 9)),I 11 (.len 1 (.s 10)),I 12 (.bin .eql (.s 11) (V 0))])
def p_rope_Pen_Step_4:PC :=
 (.reg [2,3,4] [I 2 (.mv (.v (.int .u64 0))),I 3 (.mv (.v (.bool true))),I 4 (.mv (V 0))])
def p_rope_Pen_Step_5:PC :=
 (.reg [0,2,4] [I 14 (.mv (.s 0)),I 15 (.nilck (.s 14)),I 16 (.fadr 1 (.s 15)),I 17 (.ld false 1 (.s 16)),I 18 (.ixS 1 (.s 17) (V 0)),I 19 (.ld false 1 (.s 18)),I 20 (.call .norm (.s 19) []),I 13 (.mv (.s 20)),I 21 (.ext (.s 13) 0),I 22 (.ext (.s 13) 1),I 2 (.mv (.s 21)),I 4 (.mv (.s 22))])
def p_rope_Pen_Step_6:PC :=
 (.reg [0,2,4,24] [I 23 (.mv (.s 4)),I 24 (.bin .neq (.s 23) (V 0))])
def p_rope_Pen_Step_7:PC :=
 (.reg [2,3,4] [I 25 (.mv (.s 4)),I 2 (.mv (.v (.int .u64 0))),I 3 (.mv (.v (.bool false))),I 4 (.mv (.s 25))])
def p_rope_Pen_Step_8:PC :=
 (.reg [0,2] [I 26 (.mv (.s 0)),I 27 (.mv (.s 0)),I 28 (.nilck (.s 27)),I 29 (.fadr 1 (.s 28)),I 30 (.ld false 1 (.s 29)),I 31 (.slc 1 (.s 30) (some (V 1)) none),I 32 (.nilck (.s 26)),I 33 (.fadr 1 (.s 32)),J (.st 1 (.s 33) (.s 31))])
def p_rope_Pen_Step_9:PC :=
 (.reg [2,3,4] [I 34 (.mv (.s 2)),I 35 (.mv (.s 0)),I 36 (.nilck (.s 35)),I 37 (.fadr 1 (.s 36)),I 38 (.ld false 1 (.s 37)),I 39 (.len 1 (.s 38)),I 40 (.bin .eql (.s 39) (V 0)),I 2 (.mv (.s 34)),I 3 (.mv (.s 40)),I 4 (.mv (V 0))])
def p_rope_Pen_Step:PF:=⟨false,
 (.seq p_rope_Pen_Step_0
 (.seq (.seq p_rope_Pen_Step_1
 (.ite (.s 6)
 (.seq p_rope_Pen_Step_2
 .ret)
 .skip))
 (.seq (.seq p_rope_Pen_Step_3
 (.ite (.s 12)
 (.seq p_rope_Pen_Step_4
 .ret)
 .skip))
 (.seq p_rope_Pen_Step_5
 (.seq (.seq p_rope_Pen_Step_6
 (.ite (.s 24)
 (.seq p_rope_Pen_Step_7
 .ret)
 .skip))
 (.seq p_rope_Pen_Step_8
 (.seq p_rope_Pen_Step_9
 .ret))))))),
 [.s 2,.s 3,.s 4]⟩
theorem c_rope_Pen_Step:compF Go.Proofs.Tryz.prog false h_rope_Pen_Step Go.Proofs.Tryz.f202=some p_rope_Pen_Step:=by kernel_rfl
def h_rope_Pen_Root:List Hint:=[H [0,2],H [0,2,5],H [2,3],H [0,2,12],H [2,3],H [2,3]]
def p_rope_Pen_Root_0:PC :=
 (.reg [0,2] [I 2 (.box (.v ZR)),I 3 (.mv (V 0))])
def p_rope_Pen_Root_1:PC :=
 (.reg [0,2,5] [I 4 (.mv (.s 0)),I 5 (.eqs false 3 [] (.s 4) (.v .nilptr))])
def p_rope_Pen_Root_2:PC :=
 (.reg [2,3] [I 6 (.build [(.int .u64 0),(.int .i64 0),(.int .i64 0),(.int .i64 0),(.int .i64 0)] []),J (.st 5 (.s 2) (.s 6)),I 3 (.mv (V 1))])
def p_rope_Pen_Root_3:PC :=
 (.reg [0,2,12] [I 7 (.mv (.s 0)),I 8 (.nilck (.s 7)),I 9 (.fadr 1 (.s 8)),I 10 (.ld false 1 (.s 9)),I 11 (.len 1 (.s 10)),I 12 (.bin .gtr (.s 11) (V 0))])
def p_rope_Pen_Root_4:PC :=
 (.reg [2,3] [I 13 (.build [(.int .u64 0),(.int .i64 0),(.int .i64 0),(.int .i64 0),(.int .i64 0)] []),J (.st 5 (.s 2) (.s 13)),I 3 (.mv (V 8))])
def p_rope_Pen_Root_5:PC :=
 (.reg [2,3] [I 14 (.mv (.s 0)),I 15 (.nilck (.s 14)),I 16 (.fadr 2 (.s 15)),I 17 (.ld false 1 (.s 16)),I 18 (.nilck (.s 17)),I 19 (.ld true 5 (.s 18)),J (.st 5 (.s 2) (.s 19)),I 3 (.mv (V 0))])
def p_rope_Pen_Root:PF:=⟨false,
 (.seq p_rope_Pen_Root_0
 (.seq (.seq p_rope_Pen_Root_1
 (.ite (.s 5)
 (.seq p_rope_Pen_Root_2
 .ret)
 .skip))
 (.seq (.seq p_rope_Pen_Root_3
 (.ite (.s 12)
 (.seq p_rope_Pen_Root_4
 .ret)
 .skip))
 (.seq p_rope_Pen_Root_5
 .ret)))),
 [.c 2 true 5,.s 3]⟩
theorem c_rope_Pen_Root:compF Go.Proofs.Tryz.prog false h_rope_Pen_Root Go.Proofs.Tryz.f203=some p_rope_Pen_Root:=by kernel_rfl
def h_node_choose:List Hint:=[H [1,2,3],H [1,2,3,9],H [1,2,3,9,15],H [6,7,8],H [1,2,3,19],H [6,7,8],H [1,2,3,21],H [6,7,8],H [1,2,23,24,25],H [1,2,23,24,25,26],H [1,2,10,11,23,24,25],H [1,2,10,11,23,24,25,35],H [6,7,8],H [1,2,23,24,25],H [1,2,23,24,25],H [6,7,8]]
def p_node_choose_0:PC :=
 (.reg [1,2,3] [I 3 (.box (.s 0)),I 6 (.mv (V 0)),I 7 (.mv (V 0)),I 8 (.mv (V 0))])
def p_node_choose_1:PC :=
 (.reg [1,2,3,9] [I 12 (.ld true 3 (.s 3)),I 13 (C F_node_Check [(.s 12)]),I 9 (.mv (.s 13))])
def p_node_choose_2:PC :=
 (.reg [1,2,3,9,15] [I 14 (.mv (.s 9)),I 15 (.bin .neq (.s 14) (V 0))])
def p_node_choose_3:PC :=
 (.reg [6,7,8] [I 16 (.mv (.s 9)),I 6 (.mv (V 0)),I 7 (.mv (V 0)),I 8 (.mv (.s 16))])
def p_node_choose_4:PC :=
 (.reg [1,2,3,19] [I 17 (.fadr 0 (.s 3)),I 18 (.ld false 1 (.s 17)),I 19 (.bin .eql (.s 18) (V 0))])
def p_node_choose_5:PC :=
 (.reg [6,7,8] [I 6 (.mv (V 0)),I 7 (.mv (V 0)),I 8 (.mv (V 8))])
def p_node_choose_6:PC :=
 (.reg [1,2,3,21] [I 20 (.mv (.s 1)),I 21 (.bin .lss (.s 20) (V 0))])
def p_node_choose_7:PC :=
 (.reg [6,7,8] [I 6 (.mv (V 0)),I 7 (.mv (V 0)),I 8 (.mv (V 3))])
def p_node_choose_8:PC :=
 (.reg [1,2,23,24,25] [I 22 (.fadr 2 (.s 3)),I 23 (.ld false 1 (.s 22)),I 24 (.len 1 (.s 23)),I 25 (.mv (V 0))])
def p_node_choose_9:PC :=
 (.reg [1,2,23,24,25,26] [I 26 (.bin .lss (.s 25) (.s 24))])
def p_node_choose_10:PC :=
 (.reg [1,2,10,11,23,24,25] [I 27 (.mv (.s 25)),I 28 (.ixS 4 (.s 23) (.s 25)),I 29 (.ld true 4 (.s 28)),I 11 (.box (.v ZK)),I 10 (.mv (.s 27)),J (.st 4 (.s 11) (.s 29))])
def p_node_choose_11:PC :=
 (.reg [1,2,10,11,23,24,25,35] [I 30 (.mv (.s 1)),I 31 (.mv (.s 2)),I 32 (.fadr 1 (.s 11)),I 33 (.ld true 3 (.s 32)),I 34 (.call .norm (.s 31) [(.s 33)]),I 35 (.bin .lss (.s 30) (.s 34))])
def p_node_choose_12:PC :=
 (.reg [6,7,8] [I 36 (.mv (.s 10)),I 37 (.mv (.s 1)),I 6 (.mv (.s 36)),I 7 (.mv (.s 37)),I 8 (.mv (V 0))])
def p_node_choose_13:PC :=
 (.reg [1,2,23,24,25] [I 38 (.mv (.s 1)),I 39 (.mv (.s 2)),I 40 (.fadr 1 (.s 11)),I 41 (.ld true 3 (.s 40)),I 42 (.call .norm (.s 39) [(.s 41)]),I 43 (.bin .sub (.s 38) (.s 42)),I 1 (.mv (.s 43))])
def p_node_choose_14:PC :=
 (.reg [1,2,23,24,25] [I 44 (.bin .add (.s 25) (V 1)),I 25 (.mv (.s 44))])
def p_node_choose_15:PC :=
 (.seq p_node_choose_9
 (.seq (.ite (.s 26)
 .skip
 (.exit 0))
 (.seq (.block 1
 (.seq p_node_choose_10
 (.seq (.seq p_node_choose_11
 (.ite (.s 35)
 (.seq p_node_choose_12
 .ret)
 .skip))
 p_node_choose_13)))
 p_node_choose_14)))
def p_node_choose_16:PC :=
 (.reg [6,7,8] [I 6 (.mv (V 0)),I 7 (.mv (V 0)),I 8 (.mv (V 3))])
def p_node_choose:PF:=⟨false,
 (.seq p_node_choose_0
 (.seq (.seq p_node_choose_1
 (.seq p_node_choose_2
 (.ite (.s 15)
 (.seq p_node_choose_3
 .ret)
 .skip)))
 (.seq (.seq p_node_choose_4
 (.ite (.s 19)
 (.seq p_node_choose_5
 .ret)
 .skip))
 (.seq (.seq p_node_choose_6
 (.ite (.s 21)
 (.seq p_node_choose_7
 .ret)
 .skip))
 (.seq (.seq p_node_choose_8
 (.block 0
 (.loop p_node_choose_15)))
 (.seq p_node_choose_16
 .ret)))))),
 [.s 6,.s 7,.s 8]⟩
theorem c_node_choose:compF Go.Proofs.Tryz.prog false h_node_choose Go.Proofs.Tryz.f207=some p_node_choose:=by kernel_rfl
def h_node_ChildC1:List Hint:=[H [1],H [2]]
def p_node_ChildC1_0:PC :=
 (.reg [1] [I 1 (.box (.s 0)),I 2 (.mv (V 0))])
def p_node_ChildC1_1:PC :=
 (.reg [2] [I 3 (.fadr 0 (.s 1)),I 4 (.ld false 1 (.s 3)),I 2 (.mv (.s 4))])
def p_node_ChildC1:PF:=⟨false,
 (.seq p_node_ChildC1_0
 (.seq p_node_ChildC1_1
 .ret)),
 [.s 2]⟩
theorem c_node_ChildC1:compF Go.Proofs.Tryz.prog false h_node_ChildC1 Go.Proofs.Tryz.f208=some p_node_ChildC1:=by kernel_rfl
def h_seek_offsetC1:List Hint:=[H [1,2],H []]
def p_seek_offsetC1_0:PC :=
 (.reg [1,2] [I 2 (.box (.s 0))])
def p_seek_offsetC1_1:PC :=
 (.reg [] [I 3 (.ld false 1 (.s 1)),I 4 (.fadr 0 (.s 2)),I 5 (.ld false 1 (.s 4)),I 6 (.bin .add (.s 3) (.s 5)),J (.st 1 (.s 1) (.s 6))])
def p_seek_offsetC1:PF:=⟨false,
 (.seq p_seek_offsetC1_0
 p_seek_offsetC1_1),
 []⟩
theorem c_seek_offsetC1:compF Go.Proofs.Tryz.prog false h_seek_offsetC1 Go.Proofs.Tryz.f210=some p_seek_offsetC1:=by kernel_rfl
def h_node_RuneC1:List Hint:=[H [1],H [2]]
def p_node_RuneC1_0:PC :=
 (.reg [1] [I 1 (.box (.s 0)),I 2 (.mv (V 0))])
def p_node_RuneC1_1:PC :=
 (.reg [2] [I 3 (.fadr 1 (.s 1)),I 4 (.ld false 1 (.s 3)),I 2 (.mv (.s 4))])
def p_node_RuneC1:PF:=⟨false,
 (.seq p_node_RuneC1_0
 (.seq p_node_RuneC1_1
 .ret)),
 [.s 2]⟩
theorem c_node_RuneC1:compF Go.Proofs.Tryz.prog false h_node_RuneC1 Go.Proofs.Tryz.f211=some p_node_RuneC1:=by kernel_rfl
def h_measure_find:List Hint:=[H [0,1,2],H [0,1,2,10,11],H [0,1,2,10,11,12],H [0,1,2,8,10,11],H [0,1,2,8,10,11,19],H [0,1,2,8,10,11,21],H [6,7],H [0,1,2,10,11],H [0,1,2,10,11],H [6,7]]
def p_measure_find_0:PC :=
 (.reg [0,1,2] [I 6 (.mv (V 0)),I 7 (.mv (.v (.bool false)))])
def p_measure_find_1:PC :=
 (.reg [0,1,2,10,11] [I 9 (.mv (.s 0)),I 10 (.len 0 (.s 9)),I 11 (.mv (V 0))])
def p_measure_find_2:PC :=
 (.reg [0,1,2,10,11,12] [I 12 (.bin .lss (.s 11) (.s 10))])
def p_measure_find_3:PC :=
 (.reg [0,1,2,8,10,11] [I 13 (.mv (.s 11)),I 8 (.mv (.s 13))])
def p_measure_find_4:PC :=
 (.reg [0,1,2,8,10,11,19] [I 14 (.mv (.s 1)),I 15 (.mv (.s 0)),I 16 (.mv (.s 8)),I 17 (.ixStr (.s 15) (.s 16)),I 18 (.call .norm (.s 14) [(.s 17)]),I 19 (.un .not (.s 18))])
def p_measure_find_5:PC :=
 (.reg [0,1,2,8,10,11,21] [I 20 (.mv (.s 2)),I 21 (.bin .eql (.s 20) (V 0))])
def p_measure_find_6:PC :=
 (.reg [6,7] [I 22 (.mv (.s 8)),I 6 (.mv (.s 22)),I 7 (.mv (.v (.bool true)))])
def p_measure_find_7:PC :=
 (.reg [0,1,2,10,11] [I 23 (.mv (.s 2)),I 24 (.bin .sub (.s 23) (V 1)),I 2 (.mv (.s 24))])
def p_measure_find_8:PC :=
 (.reg [0,1,2,10,11] [I 25 (.bin .add (.s 11) (V 1)),I 11 (.mv (.s 25))])
def p_measure_find_9:PC :=
 (.seq p_measure_find_2
 (.seq (.ite (.s 12)
 .skip
 (.exit 0))
 (.seq (.block 1
 (.seq p_measure_find_3
 (.seq (.seq p_measure_find_4
 (.ite (.s 19)
 (.exit 1)
 .skip))
 (.seq (.seq p_measure_find_5
 (.ite (.s 21)
 (.seq p_measure_find_6
 .ret)
 .skip))
 p_measure_find_7))))
 p_measure_find_8)))
def p_measure_find_10:PC :=
 (.reg [6,7] [I 6 (.mv (V 0)),I 7 (.mv (.v (.bool false)))])
def p_measure_find:PF:=⟨false,
 (.seq p_measure_find_0
 (.seq (.seq p_measure_find_1
 (.block 0
 (.loop p_measure_find_9)))
 (.seq p_measure_find_10
 .ret))),
 [.s 6,.s 7]⟩
theorem c_measure_find:compF Go.Proofs.Tryz.prog false h_measure_find Go.Proofs.Tryz.f212=some p_measure_find:=by kernel_rfl
def h_measure_begins:List Hint:=[H [0],H [2]]
def p_measure_begins_0:PC :=
 (.reg [0] [I 2 (.mv (.v (.bool false)))])
def p_measure_begins_1:PC :=
 (.reg [2] [I 3 (.mv (.s 0)),I 4 (.bin .lss (.s 3) (.v (.int .u8 128))),I 5 (.mv (.s 4)),G 6 5 false (.mv (.s 0)),G 7 5 false (.bin .gtr (.s 6) (.v (.int .u8 191))),I 8 (.pick (.s 5) (.v (.bool true)) (.s 7)),I 2 (.mv (.s 8))])
def p_measure_begins:PF:=⟨false,
 (.seq p_measure_begins_0
 (.seq p_measure_begins_1
 .ret)),
 [.s 2]⟩
theorem c_measure_begins:compF Go.Proofs.Tryz.prog false h_measure_begins Go.Proofs.Tryz.f213=some p_measure_begins:=by kernel_rfl
def h_measure_count:List Hint:=[H [0,1],H [0,1,5],H [0,1,5,8,9],H [0,1,5,8,9,10],H [0,1,5,6,8,9],H [0,1,5,8,9,16],H [0,1,5,8,9],H [0,1,5,8,9],H [4]]
def p_measure_count_0:PC :=
 (.reg [0,1] [I 4 (.mv (V 0))])
def p_measure_count_1:PC :=
 (.reg [0,1,5] [I 5 (.mv (V 0))])
def p_measure_count_2:PC :=
 (.reg [0,1,5,8,9] [I 7 (.mv (.s 0)),I 8 (.len 0 (.s 7)),I 9 (.mv (V 0))])
def p_measure_count_3:PC :=
 (.reg [0,1,5,8,9,10] [I 10 (.bin .lss (.s 9) (.s 8))])
def p_measure_count_4:PC :=
 (.reg [0,1,5,6,8,9] [I 11 (.mv (.s 9)),I 6 (.mv (.s 11))])
def p_measure_count_5:PC :=
 (.reg [0,1,5,8,9,16] [I 12 (.mv (.s 1)),I 13 (.mv (.s 0)),I 14 (.mv (.s 6)),I 15 (.ixStr (.s 13) (.s 14)),I 16 (.call .norm (.s 12) [(.s 15)])])
def p_measure_count_6:PC :=
 (.reg [0,1,5,8,9] [I 17 (.mv (.s 5)),I 18 (.bin .add (.s 17) (V 1)),I 5 (.mv (.s 18))])
def p_measure_count_7:PC :=
 (.reg [0,1,5,8,9] [I 19 (.bin .add (.s 9) (V 1)),I 9 (.mv (.s 19))])
def p_measure_count_8:PC :=
 (.seq p_measure_count_3
 (.seq (.ite (.s 10)
 .skip
 (.exit 0))
 (.seq (.block 1
 (.seq p_measure_count_4
 (.seq p_measure_count_5
 (.ite (.s 16)
 p_measure_count_6
 .skip))))
 p_measure_count_7)))
def p_measure_count_9:PC :=
 (.reg [4] [I 20 (.mv (.s 5)),I 4 (.mv (.s 20))])
def p_measure_count:PF:=⟨false,
 (.seq p_measure_count_0
 (.seq p_measure_count_1
 (.seq (.seq p_measure_count_2
 (.block 0
 (.loop p_measure_count_8)))
 (.seq p_measure_count_9
 .ret)))),
 [.s 4]⟩
theorem c_measure_count:compF Go.Proofs.Tryz.prog false h_measure_count Go.Proofs.Tryz.f214=some p_measure_count:=by kernel_rfl
def h_seek_beforeC1:List Hint:=[H [1,2,3],⟨[],[],[(3,.pure)],[],[],[]⟩]
def p_seek_beforeC1_0:PC :=
 (.reg [1,2,3] [I 3 (.box (.s 0))])
def p_seek_beforeC1_1:PC :=
 (.reg [] [I 4 (.ld false 1 (.s 1)),I 5 (.ld false 1 (.s 2)),I 6 (.ld true 3 (.s 3)),I 7 (.call .pure (.s 5) [(.s 6)]),I 8 (.bin .add (.s 4) (.s 7)),J (.st 1 (.s 1) (.s 8))])
def p_seek_beforeC1:PF:=⟨false,
 (.seq p_seek_beforeC1_0
 p_seek_beforeC1_1),
 []⟩
theorem c_seek_beforeC1:compF Go.Proofs.Tryz.prog false h_seek_beforeC1 Go.Proofs.Tryz.f217=some p_seek_beforeC1:=by kernel_rfl
def h_measure_before:List Hint:=[H [0,1,2],H [0,1,2,15],H [6,7],H [6,7]]
def p_measure_before_0:PC :=
 (.reg [0,1,2] [I 6 (.mv (V 0)),I 7 (.mv (V 0))])
def p_measure_before_1:PC :=
 (.reg [0,1,2,15] [I 8 (.mv (.s 1)),I 9 (.bin .lss (.s 8) (V 0)),I 10 (.mv (.s 9)),G 11 10 false (.mv (.s 1)),G 12 10 false (.mv (.s 0)),G 13 10 false (.len 0 (.s 12)),G 14 10 false (.bin .gtr (.s 11) (.s 13)),I 15 (.pick (.s 10) (.v (.bool true)) (.s 14))])
def p_measure_before_2:PC :=
 (.reg [6,7] [I 6 (.mv (V 0)),I 7 (.mv (V 3))])
def p_measure_before_3:PC :=
 (.reg [6,7] [I 16 (.mv (.s 0)),I 17 (.mv (.s 1)),I 18 (.slcS (.s 16) none (some (.s 17))),I 19 (.mv (.s 2)),I 20 (C F_measure_count [(.s 18),(.s 19)]),I 6 (.mv (.s 20)),I 7 (.mv (V 0))])
def p_measure_before:PF:=⟨false,
 (.seq p_measure_before_0
 (.seq (.seq p_measure_before_1
 (.ite (.s 15)
 (.seq p_measure_before_2
 .ret)
 .skip))
 (.seq p_measure_before_3
 .ret))),
 [.s 6,.s 7]⟩
theorem c_measure_before:compF Go.Proofs.Tryz.prog false h_measure_before Go.Proofs.Tryz.f218=some p_measure_before:=by kernel_rfl
def h_node_LineC1:List Hint:=[H [1],H [2]]
def p_node_LineC1_0:PC :=
 (.reg [1] [I 1 (.box (.s 0)),I 2 (.mv (V 0))])
def p_node_LineC1_1:PC :=
 (.reg [2] [I 3 (.fadr 0 (.s 1)),I 4 (.ld false 1 (.s 3)),I 2 (.mv (.s 4))])
def p_node_LineC1:PF:=⟨false,
 (.seq p_node_LineC1_0
 (.seq p_node_LineC1_1
 .ret)),
 [.s 2]⟩
theorem c_node_LineC1:compF Go.Proofs.Tryz.prog false h_node_LineC1 Go.Proofs.Tryz.f219=some p_node_LineC1:=by kernel_rfl
def h_node_LineC2:List Hint:=[H [1],H [2]]
def p_node_LineC2_0:PC :=
 (.reg [1] [I 1 (.box (.s 0)),I 2 (.mv (V 0))])
def p_node_LineC2_1:PC :=
 (.reg [2] [I 3 (.fadr 2 (.s 1)),I 4 (.ld false 1 (.s 3)),I 2 (.mv (.s 4))])
def p_node_LineC2:PF:=⟨false,
 (.seq p_node_LineC2_0
 (.seq p_node_LineC2_1
 .ret)),
 [.s 2]⟩
theorem c_node_LineC2:compF Go.Proofs.Tryz.prog false h_node_LineC2 Go.Proofs.Tryz.f220=some p_node_LineC2:=by kernel_rfl
def h_measure_feeds:List Hint:=[H [0],H [2]]
def p_measure_feeds_0:PC :=
 (.reg [0] [I 2 (.mv (.v (.bool false)))])
def p_measure_feeds_1:PC :=
 (.reg [2] [I 3 (.mv (.s 0)),I 4 (.bin .eql (.s 3) (.v (.int .u8 10))),I 2 (.mv (.s 4))])
def p_measure_feeds:PF:=⟨false,
 (.seq p_measure_feeds_0
 (.seq p_measure_feeds_1
 .ret)),
 [.s 2]⟩
theorem c_measure_feeds:compF Go.Proofs.Tryz.prog false h_measure_feeds Go.Proofs.Tryz.f221=some p_measure_feeds:=by kernel_rfl
def h_chunk_sizes:List Hint:=[H [1,2],H [1,2,10],H [4],H [1,2,5],H [2,5,17],H [2,5],H [5,6],H [5,6,7],H [6,7,23,24],H [6,7,23,24,25],H [6,7,8,23,24],H [6,7,23,24],H [6,7,23,24],H [4]]
def p_chunk_sizes_0:PC :=
 (.reg [1,2] [I 2 (.box (.s 0)),I 4 (.mv (.v .nils))])
def p_chunk_sizes_1:PC :=
 (.reg [1,2,10] [I 9 (.ld false 1 (.s 2)),I 10 (.bin .eql (.s 9) (V 0))])
def p_chunk_sizes_2:PC :=
 (.reg [4] [I 4 (.mv (.v .nils))])
def p_chunk_sizes_3:PC :=
 (.reg [1,2,5] [I 11 (.ld false 1 (.s 2)),I 12 (.mv (.s 1)),I 13 (.bin .quo (.s 11) (.s 12)),I 5 (.box (V 0)),J (.st 1 (.s 5) (.s 13))])
def p_chunk_sizes_4:PC :=
 (.reg [2,5,17] [I 14 (.ld false 1 (.s 2)),I 15 (.mv (.s 1)),I 16 (.bin .rem (.s 14) (.s 15)),I 17 (.bin .gtr (.s 16) (V 0))])
def p_chunk_sizes_5:PC :=
 (.reg [2,5] [I 18 (.ld false 1 (.s 5)),I 19 (.bin .add (.s 18) (V 1)),J (.st 1 (.s 5) (.s 19))])
def p_chunk_sizes_6:PC :=
 (.reg [5,6] [I 20 (.mkf (.func F_chunk_sizesC1) [] [(.s 2),(.s 5)]),I 6 (.mv (.s 20))])
def p_chunk_sizes_7:PC :=
 (.reg [5,6,7] [I 21 (.ld false 1 (.s 5)),I 22 (.mkslice 1 8 (.int .i64 0) (.s 21) (.s 21)),I 7 (.mv (.s 22))])
def p_chunk_sizes_8:PC :=
 (.reg [6,7,23,24] [I 23 (.ld false 1 (.s 5)),I 24 (.mv (V 0))])
def p_chunk_sizes_9:PC :=
 (.reg [6,7,23,24,25] [I 25 (.bin .lss (.s 24) (.s 23))])
def p_chunk_sizes_10:PC :=
 (.reg [6,7,8,23,24] [I 26 (.mv (.s 24)),I 8 (.mv (.s 26))])
def p_chunk_sizes_11:PC :=
 (.reg [6,7,23,24] [I 27 (.mv (.s 7)),I 28 (.mv (.s 8)),I 29 (.mv (.s 6)),I 30 (.mv (.s 8)),I 31 (.call .norm (.s 29) [(.s 30)]),I 32 (.ixS 1 (.s 27) (.s 28)),J (.st 1 (.s 32) (.s 31))])
def p_chunk_sizes_12:PC :=
 (.reg [6,7,23,24] [I 33 (.bin .add (.s 24) (V 1)),I 24 (.mv (.s 33))])
def p_chunk_sizes_13:PC :=
 (.seq p_chunk_sizes_9
 (.seq (.ite (.s 25)
 .skip
 (.exit 0))
 (.seq (.block 1
 (.seq p_chunk_sizes_10
 p_chunk_sizes_11))
 p_chunk_sizes_12)))
def p_chunk_sizes_14:PC :=
 (.reg [4] [I 34 (.mv (.s 7)),I 4 (.mv (.s 34))])
def p_chunk_sizes:PF:=⟨false,
 (.seq p_chunk_sizes_0
 (.seq (.seq p_chunk_sizes_1
 (.ite (.s 10)
 (.seq p_chunk_sizes_2
 .ret)
 .skip))
 (.seq p_chunk_sizes_3
 (.seq (.seq p_chunk_sizes_4
 (.ite (.s 17)
 p_chunk_sizes_5
 .skip))
 (.seq p_chunk_sizes_6
 (.seq p_chunk_sizes_7
 (.seq (.seq p_chunk_sizes_8
 (.block 0
 (.loop p_chunk_sizes_13)))
 (.seq p_chunk_sizes_14
 .ret)))))))),
 [.s 4]⟩
theorem c_chunk_sizes:compF Go.Proofs.Tryz.prog false h_chunk_sizes Go.Proofs.Tryz.f237=some p_chunk_sizes:=by kernel_rfl
def h_node_formed:List Hint:=[H [1],H [1,9],H [2],H [1,50],H [2],H [1,3,4],H [3,4,59,60,61],H [3,4,59,60,61,62],H [3,4,6,59,60,61],H [3,4,59,60,61,112],H [2],H [3,4,59,60,61],H [2]]
def p_node_formed_0:PC :=
 (.reg [1] [I 1 (.box (.s 0)),I 2 (.mv (.v (.bool false)))])
def p_node_formed_1:PC :=
 (.reg [1,9] [I 7 (.fadr 0 (.s 1)),I 8 (.ld false 1 (.s 7)),I 9 (.bin .eql (.s 8) (V 0))])
def p_node_formed_2:PC :=
 (.reg [2] [I 10 (.fadr 1 (.s 1)),I 11 (.ld false 1 (.s 10)),I 12 (.len 0 (.s 11)),I 13 (.bin .geq (.s 12) (V 1)),I 14 (.mv (.s 13)),G 15 14 true (.fadr 1 (.s 1)),G 16 14 true (.ld false 1 (.s 15)),G 17 14 true (.len 0 (.s 16)),G 18 14 true (.bin .leq (.s 17) (V 16)),I 19 (.pick (.s 14) (.s 18) (.v (.bool false))),I 20 (.mv (.s 19)),G 21 20 true (.fadr 2 (.s 1)),G 22 20 true (.ld false 1 (.s 21)),G 23 20 true (.len 1 (.s 22)),G 24 20 true (.bin .eql (.s 23) (V 0)),I 25 (.pick (.s 20) (.s 24) (.v (.bool false))),I 2 (.mv (.s 25))])
def p_node_formed_3:PC :=
 (.reg [1,50] [I 26 (.fadr 0 (.s 1)),I 27 (.ld false 1 (.s 26)),I 28 (.bin .lss (.s 27) (V 1)),I 29 (.mv (.s 28)),G 30 29 false (.fadr 0 (.s 1)),G 31 29 false (.ld false 1 (.s 30)),G 32 29 false (.bin .gtr (.s 31) (V 16)),I 33 (.pick (.s 29) (.v (.bool true)) (.s 32)),I 34 (.mv (.s 33)),G 35 34 false (.fadr 1 (.s 1)),G 36 34 false (.ld false 1 (.s 35)),G 37 34 false (.bin .neq (.s 36) (.v (.str []))),I 38 (.pick (.s 34) (.v (.bool true)) (.s 37)),I 39 (.mv (.s 38)),G 40 39 false (.fadr 2 (.s 1)),G 41 39 false (.ld false 1 (.s 40)),G 42 39 false (.len 1 (.s 41)),G 43 39 false (.bin .lss (.s 42) (V 2)),I 44 (.pick (.s 39) (.v (.bool true)) (.s 43)),I 45 (.mv (.s 44)),G 46 45 false (.fadr 2 (.s 1)),G 47 45 false (.ld false 1 (.s 46)),G 48 45 false (.len 1 (.s 47)),G 49 45 false (.bin .gtr (.s 48) (V 4)),I 50 (.pick (.s 45) (.v (.bool true)) (.s 49))])
def p_node_formed_4:PC :=
 (.reg [2] [I 2 (.mv (.v (.bool false)))])
def p_node_formed_5:PC :=
 (.reg [1,3,4] [I 52 (.fadr 0 (.s 1)),I 53 (.ld false 1 (.s 52)),I 54 (.bin .sub (.s 53) (V 1)),I 55 (C F_node_bounds [(.s 54)]),I 51 (.mv (.s 55)),I 56 (.ext (.s 51) 0),I 57 (.ext (.s 51) 1),I 3 (.mv (.s 56)),I 4 (.mv (.s 57))])
def p_node_formed_6:PC :=
 (.reg [3,4,59,60,61] [I 58 (.fadr 2 (.s 1)),I 59 (.ld false 1 (.s 58)),I 60 (.len 1 (.s 59)),I 61 (.mv (V 0))])
def p_node_formed_7:PC :=
 (.reg [3,4,59,60,61,62] [I 62 (.bin .lss (.s 61) (.s 60))])
def p_node_formed_8:PC :=
 (.reg [3,4,6,59,60,61] [I 63 (.ixS 4 (.s 59) (.s 61)),I 64 (.ld true 4 (.s 63)),I 6 (.box (.v ZK)),J (.st 4 (.s 6) (.s 64))])
def p_node_formed_9:PC :=
 (.reg [3,4,59,60,61,112] [I 65 (.fadr 0 (.s 6)),I 66 (.ld false 1 (.s 65)),I 67 (C F_handle_Check [(.s 66)]),I 68 (.bin .neq (.s 67) (V 0)),I 69 (.mv (.s 68)),G 70 69 false (.fadr 1 (.s 6)),G 71 69 false (.fadr 0 (.s 70)),G 72 69 false (.ld false 1 (.s 71)),G 73 69 false (.mv (.s 3)),G 74 69 false (.bin .lss (.s 72) (.s 73)),I 75 (.pick (.s 69) (.v (.bool true)) (.s 74)),I 76 (.mv (.s 75)),G 77 76 false (.fadr 1 (.s 6)),G 78 76 false (.fadr 0 (.s 77)),G 79 76 false (.ld false 1 (.s 78)),G 80 76 false (.mv (.s 4)),G 81 76 false (.bin .gtr (.s 79) (.s 80)),I 82 (.pick (.s 76) (.v (.bool true)) (.s 81)),I 83 (.mv (.s 82)),G 84 83 false (.fadr 1 (.s 6)),G 85 83 false (.fadr 1 (.s 84)),G 86 83 false (.ld false 1 (.s 85)),G 87 83 false (.bin .lss (.s 86) (V 0)),I 88 (.pick (.s 83) (.v (.bool true)) (.s 87)),I 89 (.mv (.s 88)),G 90 89 false (.fadr 1 (.s 6)),G 91 89 false (.fadr 1 (.s 90)),G 92 89 false (.ld false 1 (.s 91)),G 93 89 false (.fadr 1 (.s 6)),G 94 89 false (.fadr 0 (.s 93)),G 95 89 false (.ld false 1 (.s 94)),G 96 89 false (.bin .gtr (.s 92) (.s 95)),I 97 (.pick (.s 89) (.v (.bool true)) (.s 96)),I 98 (.mv (.s 97)),G 99 98 false (.fadr 1 (.s 6)),G 100 98 false (.fadr 2 (.s 99)),G 101 98 false (.ld false 1 (.s 100)),G 102 98 false (.bin .lss (.s 101) (V 0)),I 103 (.pick (.s 98) (.v (.bool true)) (.s 102)),I 104 (.mv (.s 103)),G 105 104 false (.fadr 1 (.s 6)),G 106 104 false (.fadr 2 (.s 105)),G 107 104 false (.ld false 1 (.s 106)),G 108 104 false (.fadr 1 (.s 6)),G 109 104 false (.fadr 1 (.s 108)),G 110 104 false (.ld false 1 (.s 109)),G 111 104 false (.bin .gtr (.s 107) (.s 110)),I 112 (.pick (.s 104) (.v (.bool true)) (.s 111))])
def p_node_formed_10:PC :=
 (.reg [2] [I 2 (.mv (.v (.bool false)))])
def p_node_formed_11:PC :=
 (.reg [3,4,59,60,61] [I 113 (.bin .add (.s 61) (V 1)),I 61 (.mv (.s 113))])
def p_node_formed_12:PC :=
 (.seq p_node_formed_7
 (.seq (.ite (.s 62)
 .skip
 (.exit 0))
 (.seq (.block 1
 (.seq p_node_formed_8
 (.seq p_node_formed_9
 (.ite (.s 112)
 (.seq p_node_formed_10
 .ret)
 .skip))))
 p_node_formed_11)))
def p_node_formed_13:PC :=
 (.reg [2] [I 2 (.mv (.v (.bool true)))])
def p_node_formed:PF:=⟨false,
 (.seq p_node_formed_0
 (.seq (.seq p_node_formed_1
 (.ite (.s 9)
 (.seq p_node_formed_2
 .ret)
 .skip))
 (.seq (.seq p_node_formed_3
 (.ite (.s 50)
 (.seq p_node_formed_4
 .ret)
 .skip))
 (.seq p_node_formed_5
 (.seq (.seq p_node_formed_6
 (.block 0
 (.loop p_node_formed_12)))
 (.seq p_node_formed_13
 .ret)))))),
 [.s 2]⟩
theorem c_node_formed:compF Go.Proofs.Tryz.prog false h_node_formed Go.Proofs.Tryz.f238=some p_node_formed:=by kernel_rfl
def h_node_sum:List Hint:=[H [1,2],H [1,2,8],H [2],⟨[1,2,3],[0],[],[],[],[]⟩,H [2,3,13,14,15],H [2,3,13,14,15,16],H [2,3,5,13,14,15],H [2,3,13,14,15],H [2,3,13,14,15],H [2]]
def p_node_sum_0:PC :=
 (.reg [1,2] [I 1 (.box (.s 0)),I 2 (.box (.v ZM))])
def p_node_sum_1:PC :=
 (.reg [1,2,8] [I 6 (.fadr 0 (.s 1)),I 7 (.ld false 1 (.s 6)),I 8 (.bin .eql (.s 7) (V 0))])
def p_node_sum_2:PC :=
 (.reg [2] [I 9 (.fadr 1 (.s 1)),I 10 (.ld false 1 (.s 9)),I 11 (C F_measure_Of [(.s 10)]),J (.st 3 (.s 2) (.s 11))])
def p_node_sum_3:PC :=
 (.reg [1,2,3] [I 3 (.onil 3)])
def p_node_sum_4:PC :=
 (.reg [2,3,13,14,15] [I 12 (.fadr 2 (.s 1)),I 13 (.ld false 1 (.s 12)),I 14 (.len 1 (.s 13)),I 15 (.mv (V 0))])
def p_node_sum_5:PC :=
 (.reg [2,3,13,14,15,16] [I 16 (.bin .lss (.s 15) (.s 14))])
def p_node_sum_6:PC :=
 (.reg [2,3,5,13,14,15] [I 17 (.ixS 4 (.s 13) (.s 15)),I 18 (.ld true 4 (.s 17)),I 5 (.box (.v ZK)),J (.st 4 (.s 5) (.s 18))])
def p_node_sum_7:PC :=
 (.reg [2,3,13,14,15] [I 19 (.mv (.s 3)),I 20 (.fadr 1 (.s 5)),I 21 (.ld true 3 (.s 20)),I 22 (.bslice false 3 [ZM] [(0,(.s 21))]),I 23 (.app 3 24 (.s 19) (.s 22)),I 3 (.mv (.s 23))])
def p_node_sum_8:PC :=
 (.reg [2,3,13,14,15] [I 24 (.bin .add (.s 15) (V 1)),I 15 (.mv (.s 24))])
def p_node_sum_9:PC :=
 (.seq p_node_sum_5
 (.seq (.ite (.s 16)
 .skip
 (.exit 0))
 (.seq (.block 1
 (.seq p_node_sum_6
 p_node_sum_7))
 p_node_sum_8)))
def p_node_sum_10:PC :=
 (.reg [2] [I 25 (.mv (.s 3)),I 26 (C F_measure_Add [(.s 25)]),J (.st 3 (.s 2) (.s 26))])
def p_node_sum:PF:=⟨false,
 (.seq p_node_sum_0
 (.seq (.seq p_node_sum_1
 (.ite (.s 8)
 (.seq p_node_sum_2
 .ret)
 .skip))
 (.seq p_node_sum_3
 (.seq (.seq p_node_sum_4
 (.block 0
 (.loop p_node_sum_9)))
 (.seq p_node_sum_10
 .ret))))),
 [.c 2 true 3]⟩
theorem c_node_sum:compF Go.Proofs.Tryz.prog false h_node_sum Go.Proofs.Tryz.f239=some p_node_sum:=by kernel_rfl
def h_handle_Make:List Hint:=[H [0,1],H [0,1,19],H [4,5],H [4,5]]
def p_handle_Make_0:PC :=
 (.reg [0,1] [I 4 (.mv (.v (.int .u64 0))),I 5 (.mv (V 0))])
def p_handle_Make_1:PC :=
 (.reg [0,1,19] [I 6 (.mv (.s 0)),I 7 (.bin .lss (.s 6) (V 0)),I 8 (.mv (.s 7)),G 9 8 false (.mv (.s 0)),G 10 8 false (.bin .geq (.s 9) (V 16384)),I 11 (.pick (.s 8) (.v (.bool true)) (.s 10)),I 12 (.mv (.s 11)),G 13 12 false (.mv (.s 1)),G 14 12 false (.bin .lss (.s 13) (.v (.int .u64 1))),I 15 (.pick (.s 12) (.v (.bool true)) (.s 14)),I 16 (.mv (.s 15)),G 17 16 false (.mv (.s 1)),G 18 16 false (.bin .gtr (.s 17) (.v (.int .u64 4294967295))),I 19 (.pick (.s 16) (.v (.bool true)) (.s 18))])
def p_handle_Make_2:PC :=
 (.reg [4,5] [I 4 (.mv (.v (.int .u64 0))),I 5 (.mv (V 3))])
def p_handle_Make_3:PC :=
 (.reg [4,5] [I 20 (.mv (.s 1)),I 21 (.bin .shl (.s 20) (.v (.int .u64 16))),I 22 (.mv (.s 0)),I 23 (.cint .u64 (.s 22)),I 24 (.bin .or (.s 21) (.s 23)),I 4 (.mv (.s 24)),I 5 (.mv (V 0))])
def p_handle_Make:PF:=⟨false,
 (.seq p_handle_Make_0
 (.seq (.seq p_handle_Make_1
 (.ite (.s 19)
 (.seq p_handle_Make_2
 .ret)
 .skip))
 (.seq p_handle_Make_3
 .ret))),
 [.s 4,.s 5]⟩
theorem c_handle_Make:compF Go.Proofs.Tryz.prog false h_handle_Make Go.Proofs.Tryz.f240=some p_handle_Make:=by kernel_rfl
def h_plan_leaves:List Hint:=[H [0,4,5],⟨[0,4,5,8,9],[],[(1,.pure)],[],[],[]⟩,H [0,4,5,32],H [6,7],H [0,5,10,11],H [0,5,10,11,43],H [6,7],H [10,11,12],H [10,11,12,52],H [6,7],H [11,13],H [11,13,61],H [6,7],⟨[13,14],[0],[],[],[],[]⟩,H [14,63,64,65],H [14,63,64,65,66],H [14,16,63,64,65],H [14,63,64,65],H [14,63,64,65],H [6,7]]
def p_plan_leaves_0:PC :=
 (.reg [0,4,5] [I 4 (.box (.s 1)),I 5 (.box (.s 2)),I 6 (.mv (.v .nils)),I 7 (.mv (V 0))])
def p_plan_leaves_1:PC :=
 (.reg [0,4,5,8,9] [I 17 (.ld true 7 (.s 4)),I 18 (.call .pure (.v (.func (.func F_plan_bytes) [] [])) [(.s 17)]),I 19 (.ld true 7 (.s 5)),I 20 (C F_plan_bytes [(.s 19)]),I 8 (.mv (.s 18)),I 9 (.mv (.s 20))])
def p_plan_leaves_2:PC :=
 (.reg [0,4,5,32] [I 21 (.mv (.s 8)),I 22 (.mv (.s 9)),I 23 (.bin .add (.s 21) (.s 22)),I 24 (.bin .gtr (.s 23) (V 16)),I 25 (.mv (.s 24)),G 26 25 true (.mv (.s 8)),G 27 25 true (.bin .geq (.s 26) (V 8)),I 28 (.pick (.s 25) (.s 27) (.v (.bool false))),I 29 (.mv (.s 28)),G 30 29 true (.mv (.s 9)),G 31 29 true (.bin .geq (.s 30) (V 8)),I 32 (.pick (.s 29) (.s 31) (.v (.bool false)))])
def p_plan_leaves_3:PC :=
 (.reg [6,7] [I 33 (.ld true 7 (.s 4)),I 34 (.ld true 7 (.s 5)),I 35 (.bslice false 7 [ZT,ZT] [(0,(.s 33)),(1,(.s 34))]),I 6 (.mv (.s 35)),I 7 (.mv (V 0))])
def p_plan_leaves_4:PC :=
 (.reg [0,5,10,11] [I 37 (.mv (.s 0)),I 38 (.ld true 7 (.s 4)),I 39 (C F_plan_line [(.s 37),(.s 38)]),I 36 (.mv (.s 39)),I 40 (.ext (.s 36) 0),I 41 (.ext (.s 36) 1),I 10 (.mv (.s 40)),I 11 (.mv (.s 41))])
def p_plan_leaves_5:PC :=
 (.reg [0,5,10,11,43] [I 42 (.mv (.s 11)),I 43 (.bin .neq (.s 42) (V 0))])
def p_plan_leaves_6:PC :=
 (.reg [6,7] [I 44 (.mv (.s 11)),I 6 (.mv (.v .nils)),I 7 (.mv (.s 44))])
def p_plan_leaves_7:PC :=
 (.reg [10,11,12] [I 46 (.mv (.s 0)),I 47 (.ld true 7 (.s 5)),I 48 (C F_plan_line [(.s 46),(.s 47)]),I 45 (.mv (.s 48)),I 49 (.ext (.s 45) 0),I 50 (.ext (.s 45) 1),I 12 (.mv (.s 49)),I 11 (.mv (.s 50))])
def p_plan_leaves_8:PC :=
 (.reg [10,11,12,52] [I 51 (.mv (.s 11)),I 52 (.bin .neq (.s 51) (V 0))])
def p_plan_leaves_9:PC :=
 (.reg [6,7] [I 53 (.mv (.s 11)),I 6 (.mv (.v .nils)),I 7 (.mv (.s 53))])
def p_plan_leaves_10:PC :=
 (.reg [11,13] [I 55 (.mv (.s 10)),I 56 (.mv (.s 12)),I 57 (C F_chunk_Join [(.s 55),(.s 56)]),I 54 (.mv (.s 57)),I 58 (.ext (.s 54) 0),I 59 (.ext (.s 54) 1),I 13 (.mv (.s 58)),I 11 (.mv (.s 59))])
def p_plan_leaves_11:PC :=
 (.reg [11,13,61] [I 60 (.mv (.s 11)),I 61 (.bin .neq (.s 60) (V 0))])
def p_plan_leaves_12:PC :=
 (.reg [6,7] [I 62 (.mv (.s 11)),I 6 (.mv (.v .nils)),I 7 (.mv (.s 62))])
def p_plan_leaves_13:PC :=
 (.reg [13,14] [I 14 (.onil 7)])
def p_plan_leaves_14:PC :=
 (.reg [14,63,64,65] [I 63 (.mv (.s 13)),I 64 (.len 1 (.s 63)),I 65 (.mv (V 0))])
def p_plan_leaves_15:PC :=
 (.reg [14,63,64,65,66] [I 66 (.bin .lss (.s 65) (.s 64))])
def p_plan_leaves_16:PC :=
 (.reg [14,16,63,64,65] [I 67 (.ixS 1 (.s 63) (.s 65)),I 68 (.ld false 1 (.s 67)),I 16 (.mv (.s 68))])
def p_plan_leaves_17:PC :=
 (.reg [14,63,64,65] [I 69 (.mv (.s 14)),I 70 (.mv (.s 16)),I 71 (.build [(.int .u64 0),(.int .i64 0),(.int .i64 0),(.int .i64 0),(.int .i64 0),(.str []),.nils] [(5,1,(.s 70))]),I 72 (.bslice false 7 [ZT] [(0,(.s 71))]),I 73 (.app 7 80 (.s 69) (.s 72)),I 14 (.mv (.s 73))])
def p_plan_leaves_18:PC :=
 (.reg [14,63,64,65] [I 74 (.bin .add (.s 65) (V 1)),I 65 (.mv (.s 74))])
def p_plan_leaves_19:PC :=
 (.seq p_plan_leaves_15
 (.seq (.ite (.s 66)
 .skip
 (.exit 0))
 (.seq (.block 1
 (.seq p_plan_leaves_16
 p_plan_leaves_17))
 p_plan_leaves_18)))
def p_plan_leaves_20:PC :=
 (.reg [6,7] [I 75 (.mv (.s 14)),I 6 (.mv (.s 75)),I 7 (.mv (V 0))])
def p_plan_leaves:PF:=⟨false,
 (.seq p_plan_leaves_0
 (.seq p_plan_leaves_1
 (.seq (.seq p_plan_leaves_2
 (.ite (.s 32)
 (.seq p_plan_leaves_3
 .ret)
 .skip))
 (.seq p_plan_leaves_4
 (.seq (.seq p_plan_leaves_5
 (.ite (.s 43)
 (.seq p_plan_leaves_6
 .ret)
 .skip))
 (.seq p_plan_leaves_7
 (.seq (.seq p_plan_leaves_8
 (.ite (.s 52)
 (.seq p_plan_leaves_9
 .ret)
 .skip))
 (.seq p_plan_leaves_10
 (.seq (.seq p_plan_leaves_11
 (.ite (.s 61)
 (.seq p_plan_leaves_12
 .ret)
 .skip))
 (.seq p_plan_leaves_13
 (.seq (.seq p_plan_leaves_14
 (.block 0
 (.loop p_plan_leaves_19)))
 (.seq p_plan_leaves_20
 .ret)))))))))))),
 [.s 6,.s 7]⟩
theorem c_plan_leaves:compF Go.Proofs.Tryz.prog false h_plan_leaves Go.Proofs.Tryz.f247=some p_plan_leaves:=by kernel_rfl
def h_plan_fold:List Hint:=[H [0],H [0,6],H [2],H [0,3],⟨[2],[],[(3,.pure)],[],[],[]⟩]
def p_plan_fold_0:PC :=
 (.reg [0] [I 2 (.mv (.v .nils))])
def p_plan_fold_1:PC :=
 (.reg [0,6] [I 4 (.mv (.s 0)),I 5 (.len 1 (.s 4)),I 6 (.bin .leq (.s 5) (V 4))])
def p_plan_fold_2:PC :=
 (.reg [2] [I 7 (.mv (.s 0)),I 8 (C F_plan_group [(.s 7)]),I 9 (.bslice false 7 [ZT] [(0,(.s 8))]),I 2 (.mv (.s 9))])
def p_plan_fold_3:PC :=
 (.reg [0,3] [I 10 (.mv (.s 0)),I 11 (.len 1 (.s 10)),I 12 (.bin .add (.s 11) (V 1)),I 13 (.bin .quo (.s 12) (V 2)),I 3 (.mv (.s 13))])
def p_plan_fold_4:PC :=
 (.reg [2] [I 14 (.mv (.s 0)),I 15 (.mv (.s 3)),I 16 (.slc 7 (.s 14) none (some (.s 15))),I 17 (.call .pure (.v (.func (.func F_plan_group) [] [])) [(.s 16)]),I 18 (.mv (.s 0)),I 19 (.mv (.s 3)),I 20 (.slc 7 (.s 18) (some (.s 19)) none),I 21 (C F_plan_group [(.s 20)]),I 22 (.bslice false 7 [ZT,ZT] [(0,(.s 17)),(1,(.s 21))]),I 2 (.mv (.s 22))])
def p_plan_fold:PF:=⟨false,
 (.seq p_plan_fold_0
 (.seq (.seq p_plan_fold_1
 (.ite (.s 6)
 (.seq p_plan_fold_2
 .ret)
 .skip))
 (.seq p_plan_fold_3
 (.seq p_plan_fold_4
 .ret)))),
 [.s 2]⟩
theorem c_plan_fold:compF Go.Proofs.Tryz.prog false h_plan_fold Go.Proofs.Tryz.f248=some p_plan_fold:=by kernel_rfl
def h_chunk_Cut:List Hint:=[H [0,1],H [0,1,9],H [4,5,6],H [0,1,17],H [4,5,6],H [4,5,6]]
def p_chunk_Cut_0:PC :=
 (.reg [0,1] [I 4 (.mv (.v (.str []))),I 5 (.mv (.v (.str []))),I 6 (.mv (V 0))])
def p_chunk_Cut_1:PC :=
 (.reg [0,1,9] [I 7 (.mv (.s 0)),I 8 (C F_chunk_leaf [(.s 7)]),I 9 (.un .not (.s 8))])
def p_chunk_Cut_2:PC :=
 (.reg [4,5,6] [I 4 (.mv (.v (.str []))),I 5 (.mv (.v (.str []))),I 6 (.mv (V 2))])
def p_chunk_Cut_3:PC :=
 (.reg [0,1,17] [I 10 (.mv (.s 1)),I 11 (.bin .lss (.s 10) (V 0)),I 12 (.mv (.s 11)),G 13 12 false (.mv (.s 1)),G 14 12 false (.mv (.s 0)),G 15 12 false (.len 0 (.s 14)),G 16 12 false (.bin .gtr (.s 13) (.s 15)),I 17 (.pick (.s 12) (.v (.bool true)) (.s 16))])
def p_chunk_Cut_4:PC :=
 (.reg [4,5,6] [I 4 (.mv (.v (.str []))),I 5 (.mv (.v (.str []))),I 6 (.mv (V 3))])
def p_chunk_Cut_5:PC :=
 (.reg [4,5,6] [I 18 (.mv (.s 0)),I 19 (.mv (.s 1)),I 20 (.slcS (.s 18) none (some (.s 19))),I 21 (.mv (.s 0)),I 22 (.mv (.s 1)),I 23 (.slcS (.s 21) (some (.s 22)) none),I 4 (.mv (.s 20)),I 5 (.mv (.s 23)),I 6 (.mv (V 0))])
def p_chunk_Cut:PF:=⟨false,
 (.seq p_chunk_Cut_0
 (.seq (.seq p_chunk_Cut_1
 (.ite (.s 9)
 (.seq p_chunk_Cut_2
 .ret)
 .skip))
 (.seq (.seq p_chunk_Cut_3
 (.ite (.s 17)
 (.seq p_chunk_Cut_4
 .ret)
 .skip))
 (.seq p_chunk_Cut_5
 .ret)))),
 [.s 4,.s 5,.s 6]⟩
theorem c_chunk_Cut:compF Go.Proofs.Tryz.prog false h_chunk_Cut Go.Proofs.Tryz.f251=some p_chunk_Cut:=by kernel_rfl
def h_rope_Pen_add:List Hint:=[H [0,3],H [0,3,5],H [0,3,5,80],H [0,3,5,95],H [0,5,6],H [0,5,6],H [5],⟨[0,3,5,7],[0],[],[],[],[]⟩,H [0,3,5,7,20,21,22],H [0,3,5,7,20,21,22,23],H [0,3,5,7,9,20,21,22],H [0,3,5,7,10,20,21,22],⟨[0,3,5,7,10,20,21,22],[2],[],[],[],[]⟩,H [0,3,5,7,10,20,21,22],H [0,3,5,7,10,20,21,22],H [0,3,5,7,20,21,22],H [0,3,5,7,20,21,22],H [5],H [4]]
def p_rope_Pen_add_0:PC :=
 (.reg [0,3] [I 3 (.box (.s 1)),I 4 (.mv (.v .nilptr))])
def p_rope_Pen_add_1:PC :=
 (.reg [0,3,5] [I 11 (.fadr 1 (.s 3)),I 12 (.ld false 1 (.s 11)),I 13 (.fadr 2 (.s 3)),I 14 (.ld true 3 (.s 13)),I 15 (.fadr 0 (.s 3)),I 16 (.ld false 1 (.s 15)),I 17 (.build [(.int .u64 0),(.int .i64 0),(.int .i64 0),(.int .i64 0),(.int .i64 0)] [(1,1,(.s 12)),(2,3,(.s 14)),(0,1,(.s 16))]),I 18 (.box (.s 17)),I 5 (.mv (.s 18))])
def p_rope_Pen_add_2:PC :=
 (.reg [0,3,5,80] [I 81 (.fadr 0 (.s 3)),I 82 (.ld false 1 (.s 81)),I 83 (.bin .neq (.s 82) (.v (.int .u64 0))),I 84 (.mv (.s 83)),G 85 84 false (.fadr 5 (.s 3)),G 86 84 false (.ld false 1 (.s 85)),G 87 84 false (.bin .eql (.s 86) (.v (.str []))),G 88 84 false (.mv (.s 87)),G 89 88 true (.fadr 6 (.s 3)),G 90 88 true (.ld false 1 (.s 89)),G 91 88 true (.len 1 (.s 90)),G 92 88 true (.bin .eql (.s 91) (V 0)),G 93 84 false (.pick (.s 88) (.s 92) (.v (.bool false))),I 94 (.pick (.s 84) (.v (.bool true)) (.s 93)),I 80 (.mv (.s 94))])
def p_rope_Pen_add_3:PC :=
 (.reg [0,3,5,95] [I 96 (.fadr 1 (.s 3)),I 97 (.ld false 1 (.s 96)),I 98 (.bin .eql (.s 97) (V 0)),I 95 (.mv (.s 98))])
def p_rope_Pen_add_4:PC :=
 (.reg [0,5,6] [I 99 (.fadr 5 (.s 3)),I 100 (.ld false 1 (.s 99)),I 101 (.build [(.int .i64 0),(.str []),.nils] [(1,1,(.s 100))]),I 6 (.box (.v ZN)),J (.st 3 (.s 6) (.s 101))])
def p_rope_Pen_add_5:PC :=
 (.reg [0,5,6] [I 103 (.mv (.s 5)),I 104 (.ld true 3 (.s 6)),I 105 (C F_node_Measure [(.s 104)]),I 102 (.mv (.s 105)),I 106 (.ext (.s 102) 0),I 107 (.ext (.s 102) 1),I 108 (.nilck (.s 103)),I 109 (.fadr 2 (.s 108)),J (.st 3 (.s 109) (.s 106))])
def p_rope_Pen_add_6:PC :=
 (.reg [5] [I 110 (.mv (.s 0)),I 111 (.mv (.s 5)),I 112 (.mkf (.func F_rope_Pen_addC1) [] [(.s 6)]),I 113 (C F_rope_Pen_put [(.s 110),(.s 111),(.s 112)])])
def p_rope_Pen_add_7:PC :=
 (.reg [0,3,5,7] [I 7 (.boxnil 1)])
def p_rope_Pen_add_8:PC :=
 (.reg [0,3,5,7,20,21,22] [I 19 (.fadr 6 (.s 3)),I 20 (.ld false 1 (.s 19)),I 21 (.len 1 (.s 20)),I 22 (.mv (V 0))])
def p_rope_Pen_add_9:PC :=
 (.reg [0,3,5,7,20,21,22,23] [I 23 (.bin .lss (.s 22) (.s 21))])
def p_rope_Pen_add_10:PC :=
 (.reg [0,3,5,7,9,20,21,22] [I 24 (.ixS 7 (.s 20) (.s 22)),I 25 (.ld true 7 (.s 24)),I 9 (.box (.v ZT)),J (.st 7 (.s 9) (.s 25))])
def p_rope_Pen_add_11:PC :=
 (.reg [0,3,5,7,10,20,21,22] [I 26 (.mv (.s 0)),I 27 (.ld true 7 (.s 9)),I 28 (C F_rope_Pen_add [(.s 26),(.s 27)]),I 10 (.mv (.s 28))])
def p_rope_Pen_add_12:PC :=
 (.reg [0,3,5,7,10,20,21,22] [I 29 (.ld false 1 (.s 7)),I 30 (.mv (.s 10)),I 31 (.bslice true 1 [.nilptr] [(0,(.s 30))]),I 32 (.app 1 8 (.s 29) (.s 31)),J (.st 1 (.s 7) (.s 32))])
def p_rope_Pen_add_13:PC :=
 (.reg [0,3,5,7,10,20,21,22] [I 33 (.mv (.s 5)),I 34 (.nilck (.s 33)),I 35 (.fadr 2 (.s 34)),I 36 (.fadr 0 (.s 35)),I 37 (.ld false 1 (.s 36)),I 38 (.mv (.s 10)),I 39 (.nilck (.s 38)),I 40 (.fadr 2 (.s 39)),I 41 (.fadr 0 (.s 40)),I 42 (.ld false 1 (.s 41)),I 43 (.bin .add (.s 37) (.s 42)),I 44 (.nilck (.s 33)),I 45 (.fadr 2 (.s 44)),I 46 (.fadr 0 (.s 45)),J (.st 1 (.s 46) (.s 43))])
def p_rope_Pen_add_14:PC :=
 (.reg [0,3,5,7,10,20,21,22] [I 47 (.mv (.s 5)),I 48 (.nilck (.s 47)),I 49 (.fadr 2 (.s 48)),I 50 (.fadr 1 (.s 49)),I 51 (.ld false 1 (.s 50)),I 52 (.mv (.s 10)),I 53 (.nilck (.s 52)),I 54 (.fadr 2 (.s 53)),I 55 (.fadr 1 (.s 54)),I 56 (.ld false 1 (.s 55)),I 57 (.bin .add (.s 51) (.s 56)),I 58 (.nilck (.s 47)),I 59 (.fadr 2 (.s 58)),I 60 (.fadr 1 (.s 59)),J (.st 1 (.s 60) (.s 57))])
def p_rope_Pen_add_15:PC :=
 (.reg [0,3,5,7,20,21,22] [I 61 (.mv (.s 5)),I 62 (.nilck (.s 61)),I 63 (.fadr 2 (.s 62)),I 64 (.fadr 2 (.s 63)),I 65 (.ld false 1 (.s 64)),I 66 (.mv (.s 10)),I 67 (.nilck (.s 66)),I 68 (.fadr 2 (.s 67)),I 69 (.fadr 2 (.s 68)),I 70 (.ld false 1 (.s 69)),I 71 (.bin .add (.s 65) (.s 70)),I 72 (.nilck (.s 61)),I 73 (.fadr 2 (.s 72)),I 74 (.fadr 2 (.s 73)),J (.st 1 (.s 74) (.s 71))])
def p_rope_Pen_add_16:PC :=
 (.reg [0,3,5,7,20,21,22] [I 75 (.bin .add (.s 22) (V 1)),I 22 (.mv (.s 75))])
def p_rope_Pen_add_17:PC :=
 (.seq p_rope_Pen_add_9
 (.seq (.ite (.s 23)
 .skip
 (.exit 1))
 (.seq (.block 2
 (.seq p_rope_Pen_add_10
 (.seq p_rope_Pen_add_11
 (.seq p_rope_Pen_add_12
 (.seq p_rope_Pen_add_13
 (.seq p_rope_Pen_add_14
 p_rope_Pen_add_15))))))
 p_rope_Pen_add_16)))
def p_rope_Pen_add_18:PC :=
 (.reg [5] [I 76 (.mv (.s 0)),I 77 (.mv (.s 5)),I 78 (.mkf (.func F_rope_Pen_addC2) [] [(.s 3),(.s 7)]),I 79 (C F_rope_Pen_put [(.s 76),(.s 77),(.s 78)])])
def p_rope_Pen_add_19:PC :=
 (.reg [4] [I 114 (.mv (.s 5)),I 4 (.mv (.s 114))])
def p_rope_Pen_add:PF:=⟨true,
 (.seq p_rope_Pen_add_0
 (.seq p_rope_Pen_add_1
 (.seq (.block 0
 (.seq p_rope_Pen_add_2
 (.ite (.s 80)
 .skip
 (.seq p_rope_Pen_add_3
 (.ite (.s 95)
 (.seq p_rope_Pen_add_4
 (.seq p_rope_Pen_add_5
 p_rope_Pen_add_6))
 (.seq p_rope_Pen_add_7
 (.seq (.seq p_rope_Pen_add_8
 (.block 1
 (.loop p_rope_Pen_add_17)))
 p_rope_Pen_add_18)))))))
 (.seq p_rope_Pen_add_19
 .ret)))),
 [.s 4]⟩
theorem c_rope_Pen_add:compF Go.Proofs.Tryz.prog true h_rope_Pen_add Go.Proofs.Tryz.f253=some p_rope_Pen_add:=by kernel_rfl
def h_chunk_sizesC1:List Hint:=[H [0,1,2],H [1,2,9],H [4],H [4]]
def p_chunk_sizesC1_0:PC :=
 (.reg [0,1,2] [I 4 (.mv (V 0))])
def p_chunk_sizesC1_1:PC :=
 (.reg [1,2,9] [I 5 (.mv (.s 0)),I 6 (.ld false 1 (.s 1)),I 7 (.ld false 1 (.s 2)),I 8 (.bin .rem (.s 6) (.s 7)),I 9 (.bin .lss (.s 5) (.s 8))])
def p_chunk_sizesC1_2:PC :=
 (.reg [4] [I 10 (.ld false 1 (.s 1)),I 11 (.ld false 1 (.s 2)),I 12 (.bin .quo (.s 10) (.s 11)),I 13 (.bin .add (.s 12) (V 1)),I 4 (.mv (.s 13))])
def p_chunk_sizesC1_3:PC :=
 (.reg [4] [I 14 (.ld false 1 (.s 1)),I 15 (.ld false 1 (.s 2)),I 16 (.bin .quo (.s 14) (.s 15)),I 4 (.mv (.s 16))])
def p_chunk_sizesC1:PF:=⟨false,
 (.seq p_chunk_sizesC1_0
 (.seq (.seq p_chunk_sizesC1_1
 (.ite (.s 9)
 (.seq p_chunk_sizesC1_2
 .ret)
 .skip))
 (.seq p_chunk_sizesC1_3
 .ret))),
 [.s 4]⟩
theorem c_chunk_sizesC1:compF Go.Proofs.Tryz.prog false h_chunk_sizesC1 Go.Proofs.Tryz.f270=some p_chunk_sizesC1:=by kernel_rfl
def h_node_bounds:List Hint:=[H [0],H [0,2,3],H [2,3,4,5],H [2,3,4,5,6],H [2,3,4,5],H [2,3,4,5],H [2,3,4,5],H [2,3]]
def p_node_bounds_0:PC :=
 (.reg [0] [I 2 (.mv (V 0)),I 3 (.mv (V 0))])
def p_node_bounds_1:PC :=
 (.reg [0,2,3] [I 2 (.mv (V 8)),I 3 (.mv (V 16))])
def p_node_bounds_2:PC :=
 (.reg [2,3,4,5] [I 4 (.mv (.s 0)),I 5 (.mv (V 0))])
def p_node_bounds_3:PC :=
 (.reg [2,3,4,5,6] [I 6 (.bin .lss (.s 5) (.s 4))])
def p_node_bounds_4:PC :=
 (.reg [2,3,4,5] [I 7 (.mv (.s 2)),I 8 (.bin .mul (.s 7) (V 2)),I 2 (.mv (.s 8))])
def p_node_bounds_5:PC :=
 (.reg [2,3,4,5] [I 9 (.mv (.s 3)),I 10 (.bin .mul (.s 9) (V 4)),I 11 (.mnx false (.s 10) (V 65536)),I 3 (.mv (.s 11))])
def p_node_bounds_6:PC :=
 (.reg [2,3,4,5] [I 12 (.bin .add (.s 5) (V 1)),I 5 (.mv (.s 12))])
def p_node_bounds_7:PC :=
 (.seq p_node_bounds_3
 (.seq (.ite (.s 6)
 .skip
 (.exit 0))
 (.seq (.block 1
 (.seq p_node_bounds_4
 p_node_bounds_5))
 p_node_bounds_6)))
def p_node_bounds_8:PC :=
 (.reg [2,3] [I 13 (.mv (.s 2)),I 14 (.mv (.s 3)),I 15 (.mnx false (.s 14) (V 65536)),I 2 (.mv (.s 13)),I 3 (.mv (.s 15))])
def p_node_bounds:PF:=⟨false,
 (.seq p_node_bounds_0
 (.seq p_node_bounds_1
 (.seq (.seq p_node_bounds_2
 (.block 0
 (.loop p_node_bounds_7)))
 (.seq p_node_bounds_8
 .ret)))),
 [.s 2,.s 3]⟩
theorem c_node_bounds:compF Go.Proofs.Tryz.prog false h_node_bounds Go.Proofs.Tryz.f271=some p_node_bounds:=by kernel_rfl
def h_handle_Check:List Hint:=[H [0],H [3,4],H [19],H [2],H [2]]
def p_handle_Check_0:PC :=
 (.reg [0] [I 2 (.mv (V 0))])
def p_handle_Check_1:PC :=
 (.reg [3,4] [I 6 (.mv (.s 0)),I 7 (C F_handle_parts [(.s 6)]),I 5 (.mv (.s 7)),I 8 (.ext (.s 5) 0),I 9 (.ext (.s 5) 1),I 3 (.mv (.s 8)),I 4 (.mv (.s 9))])
def p_handle_Check_2:PC :=
 (.reg [19] [I 10 (.mv (.s 3)),I 11 (.bin .geq (.s 10) (V 16384)),I 12 (.mv (.s 11)),G 13 12 false (.mv (.s 4)),G 14 12 false (.bin .lss (.s 13) (.v (.int .u64 1))),I 15 (.pick (.s 12) (.v (.bool true)) (.s 14)),I 16 (.mv (.s 15)),G 17 16 false (.mv (.s 4)),G 18 16 false (.bin .gtr (.s 17) (.v (.int .u64 4294967295))),I 19 (.pick (.s 16) (.v (.bool true)) (.s 18))])
def p_handle_Check_3:PC :=
 (.reg [2] [I 2 (.mv (V 2))])
def p_handle_Check_4:PC :=
 (.reg [2] [I 2 (.mv (V 0))])
def p_handle_Check:PF:=⟨false,
 (.seq p_handle_Check_0
 (.seq (.seq p_handle_Check_1
 (.seq p_handle_Check_2
 (.ite (.s 19)
 (.seq p_handle_Check_3
 .ret)
 .skip)))
 (.seq p_handle_Check_4
 .ret))),
 [.s 2]⟩
theorem c_handle_Check:compF Go.Proofs.Tryz.prog false h_handle_Check Go.Proofs.Tryz.f272=some p_handle_Check:=by kernel_rfl
def h_measure_Of:List Hint:=[H [0,2],H [0,2,3],H [0,2,3,6,7],H [0,2,3,6,7,8],H [0,2,3,4,5,6,7],H [0,2,3,6,7],H [0,2,3,6,7],H [2]]
def p_measure_Of_0:PC :=
 (.reg [0,2] [I 2 (.box (.v ZM))])
def p_measure_Of_1:PC :=
 (.reg [0,2,3] [I 3 (.box (.v ZM))])
def p_measure_Of_2:PC :=
 (.reg [0,2,3,6,7] [I 6 (.build [.nilfunc,.nilfunc,.nilfunc] [(0,1,(.v (.func (.func F_measure_every) [] []))),(1,1,(.v (.func (.func F_measure_begins) [] []))),(2,1,(.v (.func (.func F_measure_feeds) [] [])))]),I 7 (.mv (V 0))])
def p_measure_Of_3:PC :=
 (.reg [0,2,3,6,7,8] [I 8 (.bin .lss (.s 7) (V 3))])
def p_measure_Of_4:PC :=
 (.reg [0,2,3,4,5,6,7] [I 9 (.mv (.s 7)),I 10 (.ixArr false 3 1 (.s 6) (.s 7)),I 4 (.mv (.s 9)),I 5 (.mv (.s 10))])
def p_measure_Of_5:PC :=
 (.reg [0,2,3,6,7] [I 11 (.mv (.s 4)),I 12 (.mv (.s 0)),I 13 (.mv (.s 5)),I 14 (C F_measure_count [(.s 12),(.s 13)]),I 15 (.ixA 3 1 (.s 3) (.s 11)),J (.st 1 (.s 15) (.s 14))])
def p_measure_Of_6:PC :=
 (.reg [0,2,3,6,7] [I 16 (.bin .add (.s 7) (V 1)),I 7 (.mv (.s 16))])
def p_measure_Of_7:PC :=
 (.seq p_measure_Of_3
 (.seq (.ite (.s 8)
 .skip
 (.exit 0))
 (.seq (.block 1
 (.seq p_measure_Of_4
 p_measure_Of_5))
 p_measure_Of_6)))
def p_measure_Of_8:PC :=
 (.reg [2] [I 17 (.ld true 3 (.s 3)),I 18 (C F_measure_measured [(.s 17)]),J (.st 3 (.s 2) (.s 18))])
def p_measure_Of:PF:=⟨false,
 (.seq p_measure_Of_0
 (.seq p_measure_Of_1
 (.seq (.seq p_measure_Of_2
 (.block 0
 (.loop p_measure_Of_7)))
 (.seq p_measure_Of_8
 .ret)))),
 [.c 2 true 3]⟩
theorem c_measure_Of:compF Go.Proofs.Tryz.prog false h_measure_Of Go.Proofs.Tryz.f273=some p_measure_Of:=by kernel_rfl
def h_measure_Add:List Hint:=[H [0,2],H [0,2,3],H [2,3,8,9,10],H [2,3,8,9,10,11],H [2,3,5,8,9,10],H [2,3,8,9,10,20,21],H [2,3,8,9,10,20,21,22],H [2,3,6,7,8,9,10,20,21],H [2,3,8,9,10,20,21],H [2,3,8,9,10,20,21],H [2,3,8,9,10],H [2]]
def p_measure_Add_0:PC :=
 (.reg [0,2] [I 2 (.box (.v ZM))])
def p_measure_Add_1:PC :=
 (.reg [0,2,3] [I 3 (.box (.v ZM))])
def p_measure_Add_2:PC :=
 (.reg [2,3,8,9,10] [I 8 (.mv (.s 0)),I 9 (.len 1 (.s 8)),I 10 (.mv (V 0))])
def p_measure_Add_3:PC :=
 (.reg [2,3,8,9,10,11] [I 11 (.bin .lss (.s 10) (.s 9))])
def p_measure_Add_4:PC :=
 (.reg [2,3,5,8,9,10] [I 12 (.ixS 3 (.s 8) (.s 10)),I 13 (.ld true 3 (.s 12)),I 5 (.box (.v ZM)),J (.st 3 (.s 5) (.s 13))])
def p_measure_Add_5:PC :=
 (.reg [2,3,8,9,10,20,21] [I 14 (.fadr 0 (.s 5)),I 15 (.ld false 1 (.s 14)),I 16 (.fadr 1 (.s 5)),I 17 (.ld false 1 (.s 16)),I 18 (.fadr 2 (.s 5)),I 19 (.ld false 1 (.s 18)),I 20 (.build [(.int .i64 0),(.int .i64 0),(.int .i64 0)] [(0,1,(.s 15)),(1,1,(.s 17)),(2,1,(.s 19))]),I 21 (.mv (V 0))])
def p_measure_Add_6:PC :=
 (.reg [2,3,8,9,10,20,21,22] [I 22 (.bin .lss (.s 21) (V 3))])
def p_measure_Add_7:PC :=
 (.reg [2,3,6,7,8,9,10,20,21] [I 23 (.mv (.s 21)),I 24 (.ixArr false 3 1 (.s 20) (.s 21)),I 6 (.mv (.s 23)),I 7 (.mv (.s 24))])
def p_measure_Add_8:PC :=
 (.reg [2,3,8,9,10,20,21] [I 25 (.mv (.s 6)),I 26 (.ixA 3 1 (.s 3) (.s 25)),I 27 (.ld false 1 (.s 26)),I 28 (.mv (.s 7)),I 29 (.bin .add (.s 27) (.s 28)),I 30 (.ixA 3 1 (.s 3) (.s 25)),J (.st 1 (.s 30) (.s 29))])
def p_measure_Add_9:PC :=
 (.reg [2,3,8,9,10,20,21] [I 31 (.bin .add (.s 21) (V 1)),I 21 (.mv (.s 31))])
def p_measure_Add_10:PC :=
 (.seq p_measure_Add_6
 (.seq (.ite (.s 22)
 .skip
 (.exit 2))
 (.seq (.block 3
 (.seq p_measure_Add_7
 p_measure_Add_8))
 p_measure_Add_9)))
def p_measure_Add_11:PC :=
 (.reg [2,3,8,9,10] [I 32 (.bin .add (.s 10) (V 1)),I 10 (.mv (.s 32))])
def p_measure_Add_12:PC :=
 (.seq p_measure_Add_3
 (.seq (.ite (.s 11)
 .skip
 (.exit 0))
 (.seq (.block 1
 (.seq p_measure_Add_4
 (.seq p_measure_Add_5
 (.block 2
 (.loop p_measure_Add_10)))))
 p_measure_Add_11)))
def p_measure_Add_13:PC :=
 (.reg [2] [I 33 (.ld true 3 (.s 3)),I 34 (C F_measure_measured [(.s 33)]),J (.st 3 (.s 2) (.s 34))])
def p_measure_Add:PF:=⟨false,
 (.seq p_measure_Add_0
 (.seq p_measure_Add_1
 (.seq (.seq p_measure_Add_2
 (.block 0
 (.loop p_measure_Add_12)))
 (.seq p_measure_Add_13
 .ret)))),
 [.c 2 true 3]⟩
theorem c_measure_Add:compF Go.Proofs.Tryz.prog false h_measure_Add Go.Proofs.Tryz.f274=some p_measure_Add:=by kernel_rfl
def h_chunk_Join:List Hint:=[H [0,1],H [0,1,15],H [4,5],H [0,1,6],H [0,1,6,21],H [4,5],H [0,1,6,31],H [4,5],H [6,7],H [4,5]]
def p_chunk_Join_0:PC :=
 (.reg [0,1] [I 4 (.mv (.v .nils)),I 5 (.mv (V 0))])
def p_chunk_Join_1:PC :=
 (.reg [0,1,15] [I 8 (.mv (.s 0)),I 9 (C F_chunk_leaf [(.s 8)]),I 10 (.un .not (.s 9)),I 11 (.mv (.s 10)),G 12 11 false (.mv (.s 1)),G 13 11 false (C F_chunk_leaf [(.s 12)]),G 14 11 false (.un .not (.s 13)),I 15 (.pick (.s 11) (.v (.bool true)) (.s 14))])
def p_chunk_Join_2:PC :=
 (.reg [4,5] [I 4 (.mv (.v .nils)),I 5 (.mv (V 2))])
def p_chunk_Join_3:PC :=
 (.reg [0,1,6] [I 16 (.mv (.s 0)),I 17 (.mv (.s 1)),I 18 (.bin .add (.s 16) (.s 17)),I 6 (.mv (.s 18))])
def p_chunk_Join_4:PC :=
 (.reg [0,1,6,21] [I 19 (.mv (.s 6)),I 20 (.len 0 (.s 19)),I 21 (.bin .leq (.s 20) (V 16))])
def p_chunk_Join_5:PC :=
 (.reg [4,5] [I 22 (.mv (.s 6)),I 23 (.bslice false 1 [(.str [])] [(0,(.s 22))]),I 4 (.mv (.s 23)),I 5 (.mv (V 0))])
def p_chunk_Join_6:PC :=
 (.reg [0,1,6,31] [I 24 (.mv (.s 0)),I 25 (.len 0 (.s 24)),I 26 (.bin .geq (.s 25) (V 8)),I 27 (.mv (.s 26)),G 28 27 true (.mv (.s 1)),G 29 27 true (.len 0 (.s 28)),G 30 27 true (.bin .geq (.s 29) (V 8)),I 31 (.pick (.s 27) (.s 30) (.v (.bool false)))])
def p_chunk_Join_7:PC :=
 (.reg [4,5] [I 32 (.mv (.s 0)),I 33 (.mv (.s 1)),I 34 (.bslice false 1 [(.str []),(.str [])] [(0,(.s 32)),(1,(.s 33))]),I 4 (.mv (.s 34)),I 5 (.mv (V 0))])
def p_chunk_Join_8:PC :=
 (.reg [6,7] [I 35 (.mv (.s 6)),I 36 (.len 0 (.s 35)),I 37 (.bin .add (.s 36) (V 1)),I 38 (.bin .quo (.s 37) (V 2)),I 7 (.mv (.s 38))])
def p_chunk_Join_9:PC :=
 (.reg [4,5] [I 39 (.mv (.s 6)),I 40 (.mv (.s 7)),I 41 (.slcS (.s 39) none (some (.s 40))),I 42 (.mv (.s 6)),I 43 (.mv (.s 7)),I 44 (.slcS (.s 42) (some (.s 43)) none),I 45 (.bslice false 1 [(.str []),(.str [])] [(0,(.s 41)),(1,(.s 44))]),I 4 (.mv (.s 45)),I 5 (.mv (V 0))])
def p_chunk_Join:PF:=⟨false,
 (.seq p_chunk_Join_0
 (.seq (.seq p_chunk_Join_1
 (.ite (.s 15)
 (.seq p_chunk_Join_2
 .ret)
 .skip))
 (.seq p_chunk_Join_3
 (.seq (.seq p_chunk_Join_4
 (.ite (.s 21)
 (.seq p_chunk_Join_5
 .ret)
 .skip))
 (.seq (.seq p_chunk_Join_6
 (.ite (.s 31)
 (.seq p_chunk_Join_7
 .ret)
 .skip))
 (.seq p_chunk_Join_8
 (.seq p_chunk_Join_9
 .ret))))))),
 [.s 4,.s 5]⟩
theorem c_chunk_Join:compF Go.Proofs.Tryz.prog false h_chunk_Join Go.Proofs.Tryz.f276=some p_chunk_Join:=by kernel_rfl
def h_chunk_leaf:List Hint:=[H [0],H [2]]
def p_chunk_leaf_0:PC :=
 (.reg [0] [I 2 (.mv (.v (.bool false)))])
def p_chunk_leaf_1:PC :=
 (.reg [2] [I 3 (.mv (.s 0)),I 4 (.len 0 (.s 3)),I 5 (.bin .geq (.s 4) (V 1)),I 6 (.mv (.s 5)),G 7 6 true (.mv (.s 0)),G 8 6 true (.len 0 (.s 7)),G 9 6 true (.bin .leq (.s 8) (V 16)),I 10 (.pick (.s 6) (.s 9) (.v (.bool false))),I 2 (.mv (.s 10))])
def p_chunk_leaf:PF:=⟨false,
 (.seq p_chunk_leaf_0
 (.seq p_chunk_leaf_1
 .ret)),
 [.s 2]⟩
theorem c_chunk_leaf:compF Go.Proofs.Tryz.prog false h_chunk_leaf Go.Proofs.Tryz.f278=some p_chunk_leaf:=by kernel_rfl
def h_rope_Pen_put:List Hint:=[H [3,4,5],⟨[],[6],[],[],[(0,(.only (.s 3))),(7,(.grow (.s 3)))],[]⟩]
def p_rope_Pen_put_0:PC :=
 (.reg [3,4,5] [I 3 (.box (.s 0)),I 4 (.box (.s 1)),I 5 (.box (.s 2))])
def p_rope_Pen_put_1:PC :=
 (.reg [] [I 6 (.w (.only (.s 3)) (.ld false 1 (.s 3))),I 7 (.ld false 1 (.s 3)),I 8 (.nilck (.s 7)),I 9 (.fadr 1 (.s 8)),I 10 (.ld false 1 (.s 9)),I 11 (.mkf (.func F_rope_Pen_putC1) [] [(.s 3),(.s 5),(.s 4)]),I 12 (.bslice true 1 [.nilfunc] [(0,(.s 11))]),I 13 (.w (.grow (.s 3)) (.app 1 8 (.s 10) (.s 12))),I 14 (.nilck (.s 6)),I 15 (.fadr 1 (.s 14)),J (.st 1 (.s 15) (.s 13))])
def p_rope_Pen_put:PF:=⟨true,
 (.seq p_rope_Pen_put_0
 p_rope_Pen_put_1),
 []⟩
theorem c_rope_Pen_put:compF Go.Proofs.Tryz.prog true h_rope_Pen_put Go.Proofs.Tryz.f279=some p_rope_Pen_put:=by kernel_rfl
def h_rope_Pen_addC1:List Hint:=[H [0,1],H [1]]
def p_rope_Pen_addC1_0:PC :=
 (.reg [0,1] [I 1 (.box (.v ZN))])
def p_rope_Pen_addC1_1:PC :=
 (.reg [1] [I 2 (.ld true 3 (.s 0)),J (.st 3 (.s 1) (.s 2))])
def p_rope_Pen_addC1:PF:=⟨false,
 (.seq p_rope_Pen_addC1_0
 (.seq p_rope_Pen_addC1_1
 .ret)),
 [.c 1 true 3]⟩
theorem c_rope_Pen_addC1:compF Go.Proofs.Tryz.prog false h_rope_Pen_addC1 Go.Proofs.Tryz.f280=some p_rope_Pen_addC1:=by kernel_rfl
def h_rope_Pen_addC2:List Hint:=[H [0,1,2],H [1,2,3],H [2,3,9,10,11],H [2,3,9,10,11,12],H [2,3,5,9,10,11],⟨[2,3,9,10,11],[],[],[],[(11,.imm)],[]⟩,H [2,3,9,10,11],H [2]]
def p_rope_Pen_addC2_0:PC :=
 (.reg [0,1,2] [I 2 (.box (.v ZN))])
def p_rope_Pen_addC2_1:PC :=
 (.reg [1,2,3] [I 6 (.fadr 1 (.s 0)),I 7 (.ld false 1 (.s 6)),I 8 (.build [(.int .i64 0),(.str []),.nils] [(0,1,(.s 7))]),I 3 (.box (.v ZN)),J (.st 3 (.s 3) (.s 8))])
def p_rope_Pen_addC2_2:PC :=
 (.reg [2,3,9,10,11] [I 9 (.ld false 1 (.s 1)),I 10 (.len 1 (.s 9)),I 11 (.mv (V 0))])
def p_rope_Pen_addC2_3:PC :=
 (.reg [2,3,9,10,11,12] [I 12 (.bin .lss (.s 11) (.s 10))])
def p_rope_Pen_addC2_4:PC :=
 (.reg [2,3,5,9,10,11] [I 13 (.ixS 1 (.s 9) (.s 11)),I 14 (.ld false 1 (.s 13)),I 5 (.mv (.s 14))])
def p_rope_Pen_addC2_5:PC :=
 (.reg [2,3,9,10,11] [I 15 (.fadr 2 (.s 3)),I 16 (.ld false 1 (.s 15)),I 17 (.mv (.s 5)),I 18 (.nilck (.s 17)),I 19 (.fadr 0 (.s 18)),I 20 (.ld false 1 (.s 19)),I 21 (.mv (.s 5)),I 22 (.nilck (.s 21)),I 23 (.fadr 2 (.s 22)),I 24 (.ld true 3 (.s 23)),I 25 (.build [(.int .u64 0),(.int .i64 0),(.int .i64 0),(.int .i64 0)] [(0,1,(.s 20)),(1,3,(.s 24))]),I 26 (.w .imm (.bslice false 4 [ZK] [(0,(.s 25))])),I 27 (.app 4 32 (.s 16) (.s 26)),I 28 (.fadr 2 (.s 3)),J (.st 1 (.s 28) (.s 27))])
def p_rope_Pen_addC2_6:PC :=
 (.reg [2,3,9,10,11] [I 29 (.bin .add (.s 11) (V 1)),I 11 (.mv (.s 29))])
def p_rope_Pen_addC2_7:PC :=
 (.seq p_rope_Pen_addC2_3
 (.seq (.ite (.s 12)
 .skip
 (.exit 0))
 (.seq (.block 1
 (.seq p_rope_Pen_addC2_4
 p_rope_Pen_addC2_5))
 p_rope_Pen_addC2_6)))
def p_rope_Pen_addC2_8:PC :=
 (.reg [2] [I 30 (.ld true 3 (.s 3)),J (.st 3 (.s 2) (.s 30))])
def p_rope_Pen_addC2:PF:=⟨false,
 (.seq p_rope_Pen_addC2_0
 (.seq p_rope_Pen_addC2_1
 (.seq (.seq p_rope_Pen_addC2_2
 (.block 0
 (.loop p_rope_Pen_addC2_7)))
 (.seq p_rope_Pen_addC2_8
 .ret)))),
 [.c 2 true 3]⟩
theorem c_rope_Pen_addC2:compF Go.Proofs.Tryz.prog false h_rope_Pen_addC2 Go.Proofs.Tryz.f281=some p_rope_Pen_addC2:=by kernel_rfl
def h_handle_parts:List Hint:=[H [0],H [2,3]]
def p_handle_parts_0:PC :=
 (.reg [0] [I 2 (.mv (V 0)),I 3 (.mv (.v (.int .u64 0)))])
def p_handle_parts_1:PC :=
 (.reg [2,3] [I 4 (.mv (.s 0)),I 5 (.bin .and (.s 4) (.v (.int .u64 65535))),I 6 (.cint .i64 (.s 5)),I 7 (.mv (.s 0)),I 8 (.bin .shr (.s 7) (.v (.int .u64 16))),I 2 (.mv (.s 6)),I 3 (.mv (.s 8))])
def p_handle_parts:PF:=⟨false,
 (.seq p_handle_parts_0
 (.seq p_handle_parts_1
 .ret)),
 [.s 2,.s 3]⟩
theorem c_handle_parts:compF Go.Proofs.Tryz.prog false h_handle_parts Go.Proofs.Tryz.f288=some p_handle_parts:=by kernel_rfl
def h_measure_every:List Hint:=[H [],H [2]]
def p_measure_every_0:PC :=
 (.reg [] [I 2 (.mv (.v (.bool false)))])
def p_measure_every_1:PC :=
 (.reg [2] [I 2 (.mv (.v (.bool true)))])
def p_measure_every:PF:=⟨false,
 (.seq p_measure_every_0
 (.seq p_measure_every_1
 .ret)),
 [.s 2]⟩
theorem c_measure_every:compF Go.Proofs.Tryz.prog false h_measure_every Go.Proofs.Tryz.f289=some p_measure_every:=by kernel_rfl
def h_measure_measured:List Hint:=[H [1,2],H [1,2,5],H [2],H [2]]
def p_measure_measured_0:PC :=
 (.reg [1,2] [I 1 (.box (.s 0)),I 2 (.box (.v ZM))])
def p_measure_measured_1:PC :=
 (.reg [1,2,5] [I 3 (.ld true 3 (.s 1)),I 4 (.build [(.int .i64 0),(.int .i64 0),(.int .i64 0)] []),I 5 (.eqs false 0 [(0,0),(1,0),(2,0)] (.s 3) (.s 4))])
def p_measure_measured_2:PC :=
 (.reg [2] [I 6 (.build [(.int .i64 0),(.int .i64 0),(.int .i64 0)] []),J (.st 3 (.s 2) (.s 6))])
def p_measure_measured_3:PC :=
 (.reg [2] [I 7 (.ixA 3 1 (.s 1) (V 0)),I 8 (.ld false 1 (.s 7)),I 9 (.ixA 3 1 (.s 1) (V 1)),I 10 (.ld false 1 (.s 9)),I 11 (.ixA 3 1 (.s 1) (V 2)),I 12 (.ld false 1 (.s 11)),I 13 (.build [(.int .i64 0),(.int .i64 0),(.int .i64 0)] [(0,1,(.s 8)),(1,1,(.s 10)),(2,1,(.s 12))]),J (.st 3 (.s 2) (.s 13))])
def p_measure_measured:PF:=⟨false,
 (.seq p_measure_measured_0
 (.seq (.seq p_measure_measured_1
 (.ite (.s 5)
 (.seq p_measure_measured_2
 .ret)
 .skip))
 (.seq p_measure_measured_3
 .ret))),
 [.c 2 true 3]⟩
theorem c_measure_measured:compF Go.Proofs.Tryz.prog false h_measure_measured Go.Proofs.Tryz.f290=some p_measure_measured:=by kernel_rfl
def h_rope_Pen_putC1:List Hint:=[H [0,1,2],⟨[2,5,6],[],[(5,.pure)],[],[],[]⟩,H [2,5,6,18],H [5,6],H [3,4]]
def p_rope_Pen_putC1_0:PC :=
 (.reg [0,1,2] [I 3 (.mv (.v (.int .u64 0))),I 4 (.mv (V 0))])
def p_rope_Pen_putC1_1:PC :=
 (.reg [2,5,6] [I 8 (.ld false 1 (.s 0)),I 9 (.nilck (.s 8)),I 10 (.fadr 0 (.s 9)),I 11 (.ld false 1 (.s 10)),I 12 (.ld false 1 (.s 1)),I 13 (.call .pure (.s 12) []),I 14 (C F_arena_Arena_Alloc [(.s 11),(.s 13)]),I 7 (.mv (.s 14)),I 15 (.ext (.s 7) 0),I 16 (.ext (.s 7) 1),I 5 (.mv (.s 15)),I 6 (.mv (.s 16))])
def p_rope_Pen_putC1_2:PC :=
 (.reg [2,5,6,18] [I 17 (.mv (.s 6)),I 18 (.bin .eql (.s 17) (V 0))])
def p_rope_Pen_putC1_3:PC :=
 (.reg [5,6] [I 19 (.ld false 1 (.s 2)),I 20 (.mv (.s 5)),I 21 (.nilck (.s 19)),I 22 (.fadr 0 (.s 21)),J (.st 1 (.s 22) (.s 20))])
def p_rope_Pen_putC1_4:PC :=
 (.reg [3,4] [I 23 (.mv (.s 5)),I 24 (.mv (.s 6)),I 3 (.mv (.s 23)),I 4 (.mv (.s 24))])
def p_rope_Pen_putC1:PF:=⟨false,
 (.seq p_rope_Pen_putC1_0
 (.seq p_rope_Pen_putC1_1
 (.seq (.seq p_rope_Pen_putC1_2
 (.ite (.s 18)
 p_rope_Pen_putC1_3
 .skip))
 (.seq p_rope_Pen_putC1_4
 .ret)))),
 [.s 3,.s 4]⟩
theorem c_rope_Pen_putC1:compF Go.Proofs.Tryz.prog false h_rope_Pen_putC1 Go.Proofs.Tryz.f292=some p_rope_Pen_putC1:=by kernel_rfl
end Go.Q15
