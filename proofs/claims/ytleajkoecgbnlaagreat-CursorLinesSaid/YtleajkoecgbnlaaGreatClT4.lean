/- Resolved code, printed by program. No condition. -/
import Derived.Test.YtleajkoecgbnlaaGreatProg
import Derived.KernelRfl
import Derived.Test.YtleajkoecgbnlaaGreatClT3
set_option linter.unusedVariables false
set_option linter.unusedSimpArgs false
namespace Go.Q15
open Go Go.QAbs
set_option maxRecDepth 100000
abbrev Jx:FuncId:=9
abbrev Yp:FuncId:=14
abbrev YM:FuncId:=16
abbrev YN:FuncId:=17
abbrev ZWV:FuncId:=21
abbrev XH:FuncId:=35
abbrev Jh:FuncId:=42
abbrev Xz:FuncId:=43
abbrev Ja:FuncId:=44
abbrev QY:FuncId:=47
abbrev QN:FuncId:=48
abbrev XO:FuncId:=49
abbrev Q1:FuncId:=50
abbrev QO:FuncId:=51
abbrev QP:FuncId:=52
abbrev J5:FuncId:=53
abbrev ZDu:FuncId:=57
abbrev ZCY:FuncId:=58
abbrev Xl:FuncId:=68
abbrev Xm:FuncId:=69
abbrev YO:FuncId:=71
abbrev XI:FuncId:=72
abbrev ZIu:FuncId:=73
abbrev X5:FuncId:=74
abbrev JO:FuncId:=75
abbrev ZA0:FuncId:=82
abbrev Yq:FuncId:=94
abbrev Jy:FuncId:=95
abbrev XJ:FuncId:=105
abbrev ZCZ:FuncId:=106
abbrev Qb:FuncId:=107
abbrev Qn:FuncId:=108
abbrev Q2:FuncId:=109
abbrev QV:FuncId:=111
abbrev QL:FuncId:=112
abbrev ZEA:FuncId:=113
abbrev ZBG:FuncId:=114
abbrev ZAf:FuncId:=115
abbrev Y0:FuncId:=116
abbrev ZEB:FuncId:=117
abbrev ZDv:FuncId:=118
abbrev X6:FuncId:=119
abbrev YP:FuncId:=120
abbrev ZEC:FuncId:=121
abbrev Xn:FuncId:=125
abbrev ZCa:FuncId:=126
abbrev X7:FuncId:=127
abbrev ZCb:FuncId:=134
abbrev YQ:FuncId:=135
abbrev Ya:FuncId:=136
abbrev Xt:FuncId:=137
abbrev Jz:FuncId:=138
abbrev Qm:FuncId:=139
abbrev Y1:FuncId:=140
abbrev XZ:FuncId:=141
abbrev ZBH:FuncId:=142
abbrev ZIv:FuncId:=144
abbrev ZDw:FuncId:=149
abbrev Qs:FuncId:=157
abbrev ZAg:FuncId:=158
abbrev ZCc:FuncId:=159
abbrev Ye:FuncId:=164
abbrev YW:FuncId:=176
abbrev Ji:FuncId:=177
abbrev QE:FuncId:=178
abbrev Z9:FuncId:=179
abbrev Yr:FuncId:=180
abbrev ZA1:FuncId:=181
abbrev X8:FuncId:=182
abbrev Xa:FuncId:=183
abbrev ZAh:FuncId:=184
abbrev J0:FuncId:=185
abbrev YC:FuncId:=186
abbrev Xb:FuncId:=187
abbrev XP:FuncId:=188
abbrev ZLH:FuncId:=189
abbrev ZED:FuncId:=190
abbrev ZCd:FuncId:=191
abbrev ZCe:FuncId:=197
abbrev ZFd:FuncId:=198
abbrev QS:FuncId:=199
abbrev ZEE:FuncId:=201
abbrev Yb:FuncId:=203
abbrev ZBv:FuncId:=204
abbrev ZAi:FuncId:=205
abbrev Qq:FuncId:=206
abbrev ZAr:FuncId:=207
abbrev Y2:FuncId:=208
abbrev ZIx:FuncId:=213
abbrev ZDx:FuncId:=218
abbrev ZCf:FuncId:=219
abbrev Xc:FuncId:=220
abbrev X9:FuncId:=221
abbrev ZCg:FuncId:=222
abbrev ZAs:FuncId:=223
abbrev ZAA:FuncId:=225
abbrev ZAB:FuncId:=226
abbrev Jq:FuncId:=227
abbrev JP:FuncId:=228
abbrev ZAC:FuncId:=229
abbrev ZAt:FuncId:=240
abbrev ZFe:FuncId:=241
abbrev ZEF:FuncId:=242
abbrev J1:FuncId:=243
abbrev ZEG:FuncId:=245
abbrev ZDz:FuncId:=246
abbrev Y3:FuncId:=247
abbrev Jj:FuncId:=248
abbrev ZEH:FuncId:=254
abbrev ZCh:FuncId:=255
abbrev Xd:FuncId:=256
abbrev YS:FuncId:=257
abbrev ZFf:FuncId:=260
abbrev Ys:FuncId:=261
abbrev ZCi:FuncId:=263
abbrev I (d:Nat) (o:PO):PI:=⟨some d,none,false,o⟩
abbrev G (d g:Nat) (b:Bool) (o:PO):PI:=⟨some d,some (g,b),false,o⟩
abbrev J (o:PO):PI:=⟨none,none,false,o⟩
abbrev C (f:FuncId) (a:List Opd):PO:=.call .norm (.v (.func (.func f) [] [])) a
abbrev H (k:List Nat):Hint:=⟨k,[],[],[],[],[]⟩
abbrev V (i:Int):Opd:=.v (.int .i64 i)
abbrev ZT:AV:=.agg [(.int .u64 0),(.int .i64 0),(.int .i64 0),(.int .i64 0),(.int .i64 0),(.str []),.nils]
abbrev ZR:AV:=.agg [(.int .u64 0),(.int .i64 0),(.int .i64 0),(.int .i64 0),(.int .i64 0)]
abbrev ZM:AV:=.agg [(.int .i64 0),(.int .i64 0),(.int .i64 0)]
abbrev ZN:AV:=.agg [(.int .i64 0),(.str []),.nils]
abbrev ZK:AV:=.agg [(.int .u64 0),(.int .i64 0),(.int .i64 0),(.int .i64 0)]
def ZDT:List Hint:=[H [0,1,2,3],H [0,1,2,3,27],H [8],H [2,3,9,10,11,12],H [2,3,9,10,11,38],H [8],H [2,3,9,10,11,41],H [8],H [3,9,10,11,13],⟨[3,9,14,15],[],[],[],[(7,(.only (.s 11))),(9,(.off (.s 11))),(6,(.only (.s 11)))],[]⟩,H [3,9,14],H [3,9,14,16,17],H [3,9,14,16,83],H [8],H [9,14,16,17,18],H [9,14,16,18,92],H [8],H [9,14,16,19],H [9,14,16,19,99],H [9,14,16,19,20,21],H [9,14,16,19,121],H [8],H [9,14,16,19],H [9,14,16,124],H [8],H [9,14,16,22],H [9,14,16,22,129],H [9,14,16,22,23,24],H [9,14,16,22,23,140],H [8],H [9,14,16,22,23,144],H [9,14,16,22,153],H [8],H [9,14,16,22],H [8]]
def ZBw:PC :=
 (.reg [0,1,2,3] [I 8 (.mv (.v (.bool false)))])
def ZBx:PC :=
 (.reg [0,1,2,3,27] [I 25 (.mv (.s 0)),I 26 (.mv (.s 1)),I 27 (C Yp [(.s 25),(.s 26)])])
def ZBy:PC :=
 (.reg [8] [I 28 (C Jh []),I 8 (.mv (.s 28))])
def ZBz:PC :=
 (.reg [2,3,9,10,11,12] [I 30 (.mv (.s 0)),I 31 (.mv (.s 1)),I 32 (C YM [(.s 30),(.s 31)]),I 29 (.mv (.s 32)),I 33 (.ext (.s 29) 0),I 34 (.ext (.s 29) 1),I 35 (.ext (.s 29) 2),I 36 (.ext (.s 29) 3),I 9 (.mv (.s 33)),I 10 (.mv (.s 34)),I 11 (.mv (.s 35)),I 12 (.mv (.s 36))])
def ZB0:PC :=
 (.reg [2,3,9,10,11,38] [I 37 (.mv (.s 12)),I 38 (.un .not (.s 37))])
def ZB1:PC :=
 (.reg [8] [I 8 (.mv (.v (.bool false)))])
def ZB2:PC :=
 (.reg [2,3,9,10,11,41] [I 39 (.mv (.s 10)),I 40 (.len 1 (.s 39)),I 41 (.bin .eql (.s 40) (V 0))])
def ZB3:PC :=
 (.reg [8] [I 42 (C Jh []),I 8 (.mv (.s 42))])
def ZB4:PC :=
 (.reg [3,9,10,11,13] [I 43 (.mv (.s 2)),I 44 (.mv (.s 10)),I 45 (.len 1 (.s 44)),I 46 (.bin .sub (.s 45) (V 1)),I 47 (C YN [(.s 43),(.s 46)]),I 13 (.mv (.s 47))])
def ZB5:PC :=
 (.reg [3,9,14,15] [I 48 (.mv (.s 10)),I 49 (.mv (.s 13)),I 50 (.ixS 5 (.s 48) (.s 49)),I 51 (.ld true 5 (.s 50)),I 52 (.mv (.s 11)),I 53 (.mv (.s 13)),I 54 (.w (.only (.s 11)) (.ixS 1 (.s 52) (.s 53))),I 55 (.w (.only (.s 11)) (.ld false 1 (.s 54))),I 14 (.box (.v ZR)),J (.w (.off (.s 11)) (.st 5 (.s 14) (.s 51))),I 15 (.mv (.s 55))])
def ZBI:PC :=
 (.reg [3,9,14] [I 56 (.mv (.s 3)),I 57 (.mv (.s 15)),I 58 (.len 0 (.s 57)),I 59 (C YN [(.s 56),(.s 58)]),I 3 (.mv (.s 59))])
def ZBJ:PC :=
 (.reg [3,9,14,16,17] [I 61 (.mv (.s 9)),I 62 (.ld true 5 (.s 14)),I 63 (C Xz [(.s 61),(.s 62)]),I 60 (.mv (.s 63)),I 64 (.ext (.s 60) 0),I 65 (.ext (.s 60) 1),I 16 (.mv (.s 64)),I 17 (.mv (.s 65))])
def ZBK:PC :=
 (.reg [3,9,14,16,83] [I 66 (.mv (.s 16)),I 67 (.eqs false 3 [] (.s 66) (.v .nilptr)),I 68 (.mv (.s 67)),G 69 68 false (.mv (.s 17)),G 70 68 false (.bin .neq (.s 69) (V 0)),I 71 (.pick (.s 68) (.v (.bool true)) (.s 70)),I 72 (.mv (.s 71)),G 73 72 false (.mv (.s 16)),G 74 72 false (.mv (.s 3)),G 75 72 false (C QY [(.s 73),(.s 74)]),G 76 72 false (.bin .neq (.s 75) (V 0)),I 77 (.pick (.s 72) (.v (.bool true)) (.s 76)),I 78 (.mv (.s 77)),G 79 78 false (.mv (.s 16)),G 80 78 false (C QN [(.s 79)]),G 81 78 false (.mv (.s 3)),G 82 78 false (.bin .neq (.s 80) (.s 81)),I 83 (.pick (.s 78) (.v (.bool true)) (.s 82))])
def ZBL:PC :=
 (.reg [8] [I 8 (.mv (.v (.bool false)))])
def ZBM:PC :=
 (.reg [9,14,16,17,18] [I 85 (.mv (.s 9)),I 86 (.ld true 5 (.s 14)),I 87 (.mv (.s 3)),I 88 (C XO [(.s 85),(.s 86),(.s 87)]),I 84 (.mv (.s 88)),I 89 (.ext (.s 84) 0),I 90 (.ext (.s 84) 1),I 18 (.mv (.s 89)),I 17 (.mv (.s 90))])
def ZBN:PC :=
 (.reg [9,14,16,18,92] [I 91 (.mv (.s 17)),I 92 (.bin .neq (.s 91) (V 0))])
def ZBO:PC :=
 (.reg [8] [I 8 (.mv (.v (.bool false)))])
def ZBP:PC :=
 (.reg [9,14,16,19] [I 93 (.mv (.s 18)),I 94 (.bin .add (.s 93) (V 1)),I 19 (.mv (.s 94))])
def ZBQ:PC :=
 (.reg [9,14,16,19,99] [I 95 (.mv (.s 19)),I 96 (.fadr 2 (.s 14)),I 97 (.fadr 2 (.s 96)),I 98 (.ld false 1 (.s 97)),I 99 (.bin .leq (.s 95) (.s 98))])
def ZBR:PC :=
 (.reg [9,14,16,19,20,21] [I 103 (.mv (.s 9)),I 104 (.ld true 5 (.s 14)),I 105 (.mv (.s 19)),I 106 (C Q1 [(.s 103),(.s 104),(.s 105)]),I 102 (.mv (.s 106)),I 107 (.ext (.s 102) 0),I 108 (.ext (.s 102) 1),I 20 (.mv (.s 107)),I 21 (.mv (.s 108))])
def ZBS:PC :=
 (.reg [9,14,16,19,121] [I 109 (.mv (.s 21)),I 110 (.bin .neq (.s 109) (V 0)),I 111 (.mv (.s 110)),G 112 111 false (.mv (.s 16)),G 113 111 false (C QO [(.s 112)]),G 114 111 false (.bin .neq (.s 113) (V 0)),I 115 (.pick (.s 111) (.v (.bool true)) (.s 114)),I 116 (.mv (.s 115)),G 117 116 false (.mv (.s 16)),G 118 116 false (C QN [(.s 117)]),G 119 116 false (.mv (.s 20)),G 120 116 false (.bin .neq (.s 118) (.s 119)),I 121 (.pick (.s 116) (.v (.bool true)) (.s 120))])
def ZBT:PC :=
 (.reg [8] [I 8 (.mv (.v (.bool false)))])
def ZBU:PC :=
 (.reg [9,14,16,19] [I 100 (.mv (.s 19)),I 101 (.bin .add (.s 100) (V 1)),I 19 (.mv (.s 101))])
def p_quartolaw21_CursorLines_23:PC :=
 (.seq (.seq ZBQ
 (.ite (.s 99)
 .skip
 (.exit 0)))
 (.seq (.block 1
 (.seq ZBR
 (.seq ZBS
 (.ite (.s 121)
 (.seq ZBT
 .ret)
 .skip))))
 ZBU))
def ZBV:PC :=
 (.reg [9,14,16,124] [I 122 (.mv (.s 16)),I 123 (C QO [(.s 122)]),I 124 (.bin .neq (.s 123) (V 3))])
def ZBW:PC :=
 (.reg [8] [I 8 (.mv (.v (.bool false)))])
def ZBX:PC :=
 (.reg [9,14,16,22] [I 125 (.fadr 2 (.s 14)),I 126 (.fadr 2 (.s 125)),I 127 (.ld false 1 (.s 126)),I 22 (.mv (.s 127))])
def ZBY:PC :=
 (.reg [9,14,16,22,129] [I 128 (.mv (.s 22)),I 129 (.bin .geq (.s 128) (V 0))])
def ZBZ:PC :=
 (.reg [9,14,16,22,23,24] [I 133 (.mv (.s 9)),I 134 (.ld true 5 (.s 14)),I 135 (.mv (.s 22)),I 136 (C Q1 [(.s 133),(.s 134),(.s 135)]),I 132 (.mv (.s 136)),I 137 (.ext (.s 132) 0),I 138 (.ext (.s 132) 1),I 23 (.mv (.s 137)),I 24 (.mv (.s 138))])
def ZBa:PC :=
 (.reg [9,14,16,22,23,140] [I 139 (.mv (.s 24)),I 140 (.bin .neq (.s 139) (V 0))])
def ZBb:PC :=
 (.reg [8] [I 8 (.mv (.v (.bool false)))])
def ZBc:PC :=
 (.reg [9,14,16,22,23,144] [I 141 (.mv (.s 23)),I 142 (.mv (.s 16)),I 143 (C QN [(.s 142)]),I 144 (.bin .geq (.s 141) (.s 143))])
def ZBd:PC :=
 (.reg [9,14,16,22,153] [I 145 (.mv (.s 16)),I 146 (C QP [(.s 145)]),I 147 (.bin .neq (.s 146) (V 0)),I 148 (.mv (.s 147)),G 149 148 false (.mv (.s 16)),G 150 148 false (C QN [(.s 149)]),G 151 148 false (.mv (.s 23)),G 152 148 false (.bin .neq (.s 150) (.s 151)),I 153 (.pick (.s 148) (.v (.bool true)) (.s 152))])
def ZBe:PC :=
 (.reg [8] [I 8 (.mv (.v (.bool false)))])
def ZBf:PC :=
 (.reg [9,14,16,22] [I 130 (.mv (.s 22)),I 131 (.bin .sub (.s 130) (V 1)),I 22 (.mv (.s 131))])
def p_quartolaw21_CursorLines_35:PC :=
 (.seq (.seq ZBY
 (.ite (.s 129)
 .skip
 (.exit 2)))
 (.seq (.block 3
 (.seq ZBZ
 (.seq (.seq ZBa
 (.ite (.s 140)
 (.seq ZBb
 .ret)
 .skip))
 (.seq (.seq ZBc
 (.ite (.s 144)
 (.exit 3)
 .skip))
 (.seq ZBd
 (.ite (.s 153)
 (.seq ZBe
 .ret)
 .skip))))))
 ZBf))
def ZBg:PC :=
 (.reg [8] [I 154 (.mv (.s 16)),I 155 (C QN [(.s 154)]),I 156 (.bin .eql (.s 155) (V 0)),I 157 (.mv (.s 156)),G 158 157 true (.mv (.s 16)),G 159 157 true (C QP [(.s 158)]),G 160 157 true (.bin .eql (.s 159) (V 3)),I 161 (.pick (.s 157) (.s 160) (.v (.bool false))),I 162 (.mv (.s 161)),G 163 162 true (C Jh []),I 164 (.pick (.s 162) (.s 163) (.v (.bool false))),I 8 (.mv (.s 164))])
def XA:PF:=⟨false,
 (.seq ZBw
 (.seq (.seq ZBx
 (.ite (.s 27)
 (.seq ZBy
 .ret)
 .skip))
 (.seq ZBz
 (.seq (.seq ZB0
 (.ite (.s 38)
 (.seq ZB1
 .ret)
 .skip))
 (.seq (.seq ZB2
 (.ite (.s 41)
 (.seq ZB3
 .ret)
 .skip))
 (.seq ZB4
 (.seq ZB5
 (.seq ZBI
 (.seq ZBJ
 (.seq (.seq ZBK
 (.ite (.s 83)
 (.seq ZBL
 .ret)
 .skip))
 (.seq ZBM
 (.seq (.seq ZBN
 (.ite (.s 92)
 (.seq ZBO
 .ret)
 .skip))
 (.seq (.seq ZBP
 (.block 0
 (.loop p_quartolaw21_CursorLines_23)))
 (.seq (.seq ZBV
 (.ite (.s 124)
 (.seq ZBW
 .ret)
 .skip))
 (.seq (.seq ZBX
 (.block 2
 (.loop p_quartolaw21_CursorLines_35)))
 (.seq ZBg
 .ret)))))))))))))))),
 [.s 8]⟩
theorem ZDU:Zp Proofs.Tryz.prog false ZDT Proofs.Tryz.f9=some XA:=by kernel_rfl
def ZIz:List Hint:=[H [0,1],H [4]]
def ZFg:PC :=
 (.reg [0,1] [I 4 (.mv (.v (.bool false)))])
def ZFh:PC :=
 (.reg [4] [I 5 (.mv (.s 0)),I 6 (C Xl [(.s 5)]),I 7 (.mv (.s 6)),G 8 7 false (.mv (.s 1)),G 9 7 false (C Xm [(.s 8)]),I 10 (.pick (.s 7) (.v (.bool true)) (.s 9)),I 11 (.mv (.s 10)),G 12 11 false (.mv (.s 1)),G 13 11 false (.len 1 (.s 12)),G 14 11 false (.bin .gtr (.s 13) (V 12)),I 15 (.pick (.s 11) (.v (.bool true)) (.s 14)),I 4 (.mv (.s 15))])
def ZA2:PF:=⟨false,
 (.seq ZFg
 (.seq ZFh
 .ret)),
 [.s 4]⟩
theorem ZI0:Zp Proofs.Tryz.prog false ZIz Proofs.Tryz.f14=some ZA2:=by kernel_rfl
def ZLw:List Hint:=[H [0,1],H [0,1,8,9,10],H [0,1,8,9,26],H [4,5,6,7],H [1,8,9,11],H [1,8,9,11,12],H [1,8,9,11,12,33],H [1,8,9,11,12,13,14],H [1,8,9,11,12,13,48],H [4,5,6,7],H [1,8,9,11,12,13,15,16],H [1,8,9,11,12,13,15,58],H [4,5,6,7],H [1,8,9,11,12,15,16,17],H [1,8,9,11,12,15,16,17,69],H [1,8,9,11,12,15,17,71],H [4,5,6,7],H [1,8,9,11,12,15],H [1,8,9,11,12],H [1,8,9,11,12],H [4,5,6,7]]
def ZI1:PC :=
 (.reg [0,1] [I 4 (.mv (.v .nilptr)),I 5 (.mv (.v .nils)),I 6 (.mv (.v .nils)),I 7 (.mv (.v (.bool false)))])
def ZI2:PC :=
 (.reg [0,1,8,9,10] [I 20 (.mv (.s 0)),I 21 (C YO [(.s 20)]),I 19 (.mv (.s 21)),I 22 (.ext (.s 19) 0),I 23 (.ext (.s 19) 1),I 24 (.ext (.s 19) 2),I 8 (.mv (.s 22)),I 9 (.mv (.s 23)),I 10 (.mv (.s 24))])
def ZI3:PC :=
 (.reg [0,1,8,9,26] [I 25 (.mv (.s 10)),I 26 (.un .not (.s 25))])
def ZI4:PC :=
 (.reg [4,5,6,7] [I 4 (.mv (.v .nilptr)),I 5 (.mv (.v .nils)),I 6 (.mv (.v .nils)),I 7 (.mv (.v (.bool false)))])
def ZI5:PC :=
 (.reg [1,8,9,11] [I 27 (.bslice false 1 [] []),I 28 (.mv (.s 0)),I 29 (.app 1 16 (.s 27) (.s 28)),I 11 (.mv (.s 29))])
def ZI6:PC :=
 (.reg [1,8,9,11,12] [I 12 (.mv (V 0))])
def ZI7:PC :=
 (.reg [1,8,9,11,12,33] [I 30 (.mv (.s 12)),I 31 (.mv (.s 1)),I 32 (.len 1 (.s 31)),I 33 (.bin .lss (.s 30) (.s 32))])
def ZI8:PC :=
 (.reg [1,8,9,11,12,13,14] [I 37 (.mv (.s 8)),I 38 (.mv (.s 9)),I 39 (.mv (.s 1)),I 40 (.mv (.s 12)),I 41 (.mv (.s 12)),I 42 (.bin .add (.s 41) (V 1)),I 43 (.slc 5 (.s 39) (some (.s 40)) (some (.s 42))),I 44 (C XI [(.s 37),(.s 38),(.s 43)]),I 36 (.mv (.s 44)),I 45 (.ext (.s 36) 0),I 46 (.ext (.s 36) 1),I 13 (.mv (.s 45)),I 14 (.mv (.s 46))])
def ZI9:PC :=
 (.reg [1,8,9,11,12,13,48] [I 47 (.mv (.s 14)),I 48 (.un .not (.s 47))])
def ZJA:PC :=
 (.reg [4,5,6,7] [I 4 (.mv (.v .nilptr)),I 5 (.mv (.v .nils)),I 6 (.mv (.v .nils)),I 7 (.mv (.v (.bool false)))])
def ZHW:PC :=
 (.reg [1,8,9,11,12,13,15,16] [I 50 (.mv (.s 8)),I 51 (.mv (.s 13)),I 52 (.ixS 7 (.s 51) (V 0)),I 53 (.ld true 7 (.s 52)),I 54 (C ZIu [(.s 50),(.s 53)]),I 49 (.mv (.s 54)),I 55 (.ext (.s 49) 0),I 56 (.ext (.s 49) 1),I 15 (.mv (.s 55)),I 16 (.mv (.s 56))])
def ZHX:PC :=
 (.reg [1,8,9,11,12,13,15,58] [I 57 (.mv (.s 16)),I 58 (.bin .neq (.s 57) (V 0))])
def ZHY:PC :=
 (.reg [4,5,6,7] [I 4 (.mv (.v .nilptr)),I 5 (.mv (.v .nils)),I 6 (.mv (.v .nils)),I 7 (.mv (.v (.bool false)))])
def ZHZ:PC :=
 (.reg [1,8,9,11,12,15,16,17] [I 60 (.mv (.s 8)),I 61 (.mv (.s 13)),I 62 (.ixS 7 (.s 61) (V 0)),I 63 (.ld true 7 (.s 62)),I 64 (C X5 [(.s 60),(.s 63)]),I 59 (.mv (.s 64)),I 65 (.ext (.s 59) 0),I 66 (.ext (.s 59) 1),I 67 (.ext (.s 59) 2),I 17 (.box (.v ZR)),J (.st 5 (.s 17) (.s 65)),I 18 (.mv (.s 66)),I 16 (.mv (.s 67))])
def ZHa:PC :=
 (.reg [1,8,9,11,12,15,16,17,69] [I 68 (.mv (.s 16)),I 69 (.bin .eql (.s 68) (V 6))])
def ZHb:PC :=
 (.reg [1,8,9,11,12,15,17,71] [I 70 (.mv (.s 16)),I 71 (.bin .neq (.s 70) (V 0))])
def ZHc:PC :=
 (.reg [4,5,6,7] [I 4 (.mv (.v .nilptr)),I 5 (.mv (.v .nils)),I 6 (.mv (.v .nils)),I 7 (.mv (.v (.bool false)))])
def ZHd:PC :=
 (.reg [1,8,9,11,12,15] [I 72 (.mv (.s 9)),I 73 (.ld true 5 (.s 17)),I 74 (.bslice false 5 [ZR] [(0,(.s 73))]),I 75 (.app 5 40 (.s 72) (.s 74)),I 9 (.mv (.s 75))])
def ZHe:PC :=
 (.reg [1,8,9,11,12] [I 76 (.mv (.s 11)),I 77 (.mv (.s 15)),I 78 (.bslice false 1 [(.str [])] [(0,(.s 77))]),I 79 (.app 1 16 (.s 76) (.s 78)),I 11 (.mv (.s 79))])
def ZHf:PC :=
 (.reg [1,8,9,11,12] [I 34 (.mv (.s 12)),I 35 (.bin .add (.s 34) (V 1)),I 12 (.mv (.s 35))])
def ZHg:PC :=
 (.seq (.seq ZI7
 (.ite (.s 33)
 .skip
 (.exit 0)))
 (.seq (.block 1
 (.seq ZI8
 (.seq (.seq ZI9
 (.ite (.s 48)
 (.seq ZJA
 .ret)
 .skip))
 (.seq ZHW
 (.seq (.seq ZHX
 (.ite (.s 58)
 (.seq ZHY
 .ret)
 .skip))
 (.seq ZHZ
 (.seq (.seq ZHa
 (.ite (.s 69)
 (.exit 1)
 .skip))
 (.seq (.seq ZHb
 (.ite (.s 71)
 (.seq ZHc
 .ret)
 .skip))
 (.seq ZHd
 ZHe)))))))))
 ZHf))
def ZHh:PC :=
 (.reg [4,5,6,7] [I 80 (.mv (.s 8)),I 81 (.mv (.s 9)),I 82 (.mv (.s 11)),I 4 (.mv (.s 80)),I 5 (.mv (.s 81)),I 6 (.mv (.s 82)),I 7 (.mv (.v (.bool true)))])
def Xo:PF:=⟨true,
 (.seq ZI1
 (.seq ZI2
 (.seq (.seq ZI3
 (.ite (.s 26)
 (.seq ZI4
 .ret)
 .skip))
 (.seq ZI5
 (.seq (.seq ZI6
 (.block 0
 (.loop ZHg)))
 (.seq ZHh
 .ret)))))),
 [.s 4,.s 5,.s 6,.s 7]⟩
theorem ZLx:Zp Proofs.Tryz.prog true ZLw Proofs.Tryz.f16=some Xo:=by kernel_rfl
def ZLy:List Hint:=[H [0,1],H [4]]
def ZJB:PC :=
 (.reg [0,1] [I 4 (.mv (V 0))])
def ZJC:PC :=
 (.reg [4] [I 5 (.mv (.s 0)),I 6 (.mv (.s 1)),I 7 (C JO [(.s 5),(.s 6)]),I 4 (.mv (.s 7))])
def ZCj:PF:=⟨false,
 (.seq ZJB
 (.seq ZJC
 .ret)),
 [.s 4]⟩
theorem ZLz:Zp Proofs.Tryz.prog false ZLy Proofs.Tryz.f17=some ZCj:=by kernel_rfl
def ZKs:List Hint:=[H [0,2],H [0,2,4],H [2],⟨[2],[],[(8,.pure),(19,.pure)],[],[],[]⟩]
def ZHi:PC :=
 (.reg [0,2] [I 2 (.box (.v (.agg [(.int .i64 0),(.int .i64 0),(.int .i64 0),(.int .i64 0),(.int .i64 0),(.int .i64 0),(.int .i64 0)])))])
def ZHj:PC :=
 (.reg [0,2,4] [I 3 (.mv (.s 0)),I 4 (.eqs false 3 [] (.s 3) (.v .nilptr))])
def ZHk:PC :=
 (.reg [2] [I 5 (.build [(.int .i64 0),(.int .i64 0),(.int .i64 0),(.int .i64 0),(.int .i64 0),(.int .i64 0),(.int .i64 0)] []),J (.st 7 (.s 2) (.s 5))])
def ZHl:PC :=
 (.reg [2] [I 6 (.mv (.s 0)),I 7 (.nilck (.s 6)),I 8 (.fadr 0 (.s 7)),I 9 (.ld false 1 (.s 8)),I 10 (.mv (.s 0)),I 11 (.nilck (.s 10)),I 12 (.fadr 1 (.s 11)),I 13 (.ld false 1 (.s 12)),I 14 (.call .pure (.v (.func (.func Yq) [] [])) [(.s 13)]),I 15 (.len 1 (.s 14)),I 16 (.mv (.s 0)),I 17 (.nilck (.s 16)),I 18 (.fadr 2 (.s 17)),I 19 (.ld false 1 (.s 18)),I 20 (.len 2 (.s 19)),I 21 (.mv (.s 0)),I 22 (.nilck (.s 21)),I 23 (.fadr 1 (.s 22)),I 24 (.ld false 1 (.s 23)),I 25 (.call .pure (.v (.func (.func Jy) [] [])) [(.s 24)]),I 26 (.len 1 (.s 25)),I 27 (.mv (.s 0)),I 28 (.nilck (.s 27)),I 29 (.fadr 3 (.s 28)),I 30 (.ld false 1 (.s 29)),I 31 (.mv (.s 0)),I 32 (.nilck (.s 31)),I 33 (.fadr 4 (.s 32)),I 34 (.ld false 1 (.s 33)),I 35 (.mv (.s 0)),I 36 (.nilck (.s 35)),I 37 (.fadr 5 (.s 36)),I 38 (.ld false 1 (.s 37)),I 39 (.build [(.int .i64 0),(.int .i64 0),(.int .i64 0),(.int .i64 0),(.int .i64 0),(.int .i64 0),(.int .i64 0)] [(0,1,(.s 9)),(1,1,(.s 15)),(2,1,(.s 20)),(3,1,(.s 26)),(4,1,(.s 30)),(5,1,(.s 34)),(6,1,(.s 38))]),J (.st 7 (.s 2) (.s 39))])
def ZBi:PF:=⟨false,
 (.seq ZHi
 (.seq (.seq ZHj
 (.ite (.s 4)
 (.seq ZHk
 .ret)
 .skip))
 (.seq ZHl
 .ret))),
 [.c 2 true 7]⟩
theorem ZKt:Zp Proofs.Tryz.prog false ZKs Proofs.Tryz.f35=some ZBi:=by kernel_rfl
def ZKu:List Hint:=[H [],H [1,2,3],H [1,2,13],H [0],H [4,5],H [4,25],H [0],H [4,5,6],H [0]]
def ZHm:PC :=
 (.reg [] [I 0 (.mv (.v (.bool false)))])
def ZHn:PC :=
 (.reg [1,2,3] [I 8 (C XJ []),I 7 (.mv (.s 8)),I 9 (.ext (.s 7) 0),I 10 (.ext (.s 7) 1),I 11 (.ext (.s 7) 2),I 2 (.box (.v ZR)),I 1 (.mv (.s 9)),J (.st 5 (.s 2) (.s 10)),I 3 (.mv (.s 11))])
def ZHo:PC :=
 (.reg [1,2,13] [I 12 (.mv (.s 3)),I 13 (.un .not (.s 12))])
def ZHp:PC :=
 (.reg [0] [I 0 (.mv (.v (.bool false)))])
def ZHq:PC :=
 (.reg [4,5] [I 15 (.mv (.s 1)),I 16 (.ld true 5 (.s 2)),I 17 (C Xz [(.s 15),(.s 16)]),I 14 (.mv (.s 17)),I 18 (.ext (.s 14) 0),I 19 (.ext (.s 14) 1),I 4 (.mv (.s 18)),I 5 (.mv (.s 19))])
def ZHr:PC :=
 (.reg [4,25] [I 20 (.mv (.s 4)),I 21 (.eqs false 3 [] (.s 20) (.v .nilptr)),I 22 (.mv (.s 21)),G 23 22 false (.mv (.s 5)),G 24 22 false (.bin .neq (.s 23) (V 0)),I 25 (.pick (.s 22) (.v (.bool true)) (.s 24))])
def ZHs:PC :=
 (.reg [0] [I 0 (.mv (.v (.bool false)))])
def ZHt:PC :=
 (.reg [4,5,6] [I 27 (.mv (.s 4)),I 28 (C J5 [(.s 27)]),I 26 (.mv (.s 28)),I 29 (.ext (.s 26) 0),I 30 (.ext (.s 26) 1),I 6 (.mv (.s 29)),I 5 (.mv (.s 30))])
def ZHu:PC :=
 (.reg [0] [I 31 (.mv (.s 5)),I 32 (.bin .eql (.s 31) (V 0)),I 33 (.mv (.s 32)),G 34 33 true (.mv (.s 6)),G 35 33 true (.bin .eql (.s 34) (.v (.str [97]))),I 36 (.pick (.s 33) (.s 35) (.v (.bool false))),I 37 (.mv (.s 36)),G 38 37 true (.mv (.s 4)),G 39 37 true (C QN [(.s 38)]),G 40 37 true (.bin .eql (.s 39) (V 1)),I 41 (.pick (.s 37) (.s 40) (.v (.bool false))),I 42 (.mv (.s 41)),G 43 42 true (.mv (.s 4)),G 44 42 true (C Ja [(.s 43)]),G 45 42 true (.bin .eql (.s 44) (V 2)),I 46 (.pick (.s 42) (.s 45) (.v (.bool false))),I 0 (.mv (.s 46))])
def ZBj:PF:=⟨false,
 (.seq ZHm
 (.seq ZHn
 (.seq (.seq ZHo
 (.ite (.s 13)
 (.seq ZHp
 .ret)
 .skip))
 (.seq ZHq
 (.seq (.seq ZHr
 (.ite (.s 25)
 (.seq ZHs
 .ret)
 .skip))
 (.seq ZHt
 (.seq ZHu
 .ret))))))),
 [.s 0]⟩
theorem ZKv:Zp Proofs.Tryz.prog false ZKu Proofs.Tryz.f42=some ZBj:=by kernel_rfl
def ZeE:List Hint:=[H [0,3],H [0,3,6],H [0,3,6,13],H [4,5],H [3,7],H [7,22],H [7,8],H [7,8,28],H [4,5],H [4,5]]
def ZWX:PC :=
 (.reg [0,3] [I 3 (.box (.s 1)),I 4 (.mv (.v .nilptr)),I 5 (.mv (V 0))])
def ZWY:PC :=
 (.reg [0,3,6] [I 9 (.mv (.s 0)),I 10 (.ld true 5 (.s 3)),I 11 (C ZCZ [(.s 9),(.s 10)]),I 6 (.mv (.s 11))])
def ZWZ:PC :=
 (.reg [0,3,6,13] [I 12 (.mv (.s 6)),I 13 (.bin .neq (.s 12) (V 0))])
def ZWa:PC :=
 (.reg [4,5] [I 14 (.mv (.s 6)),I 4 (.mv (.v .nilptr)),I 5 (.mv (.s 14))])
def ZWb:PC :=
 (.reg [3,7] [I 15 (.mv (.s 0)),I 16 (.ld true 5 (.s 3)),I 17 (.build [.nilptr,(.int .u64 0),(.int .i64 0),(.int .i64 0),(.int .i64 0),(.int .i64 0),.nils,(.int .i64 0)] [(0,1,(.s 15)),(1,5,(.s 16))]),I 18 (.build [.nilptr,(.int .u64 0),(.int .i64 0),(.int .i64 0),(.int .i64 0),(.int .i64 0),.nils,(.int .i64 0),(.int .i64 0)] [(0,8,(.s 17))]),I 19 (.box (.s 18)),I 7 (.mv (.s 19))])
def ZWc:PC :=
 (.reg [7,22] [I 20 (.fadr 0 (.s 3)),I 21 (.ld false 1 (.s 20)),I 22 (.bin .neq (.s 21) (.v (.int .u64 0)))])
def ZWd:PC :=
 (.reg [7,8] [I 23 (.mv (.s 7)),I 24 (.nilck (.s 23)),I 25 (.fadr 0 (.s 24)),I 26 (C Qb [(.s 25),(V 0)]),I 8 (.mv (.s 26))])
def ZWe:PC :=
 (.reg [7,8,28] [I 27 (.mv (.s 8)),I 28 (.bin .neq (.s 27) (V 0))])
def ZWf:PC :=
 (.reg [4,5] [I 29 (.mv (.s 8)),I 4 (.mv (.v .nilptr)),I 5 (.mv (.s 29))])
def ZWg:PC :=
 (.reg [4,5] [I 30 (.mv (.s 7)),I 4 (.mv (.s 30)),I 5 (.mv (V 0))])
def ZNH:PF:=⟨true,
 (.seq ZWX
 (.seq (.seq ZWY
 (.seq ZWZ
 (.ite (.s 13)
 (.seq ZWa
 .ret)
 .skip)))
 (.seq ZWb
 (.seq (.seq ZWc
 (.ite (.s 22)
 (.seq ZWd
 (.seq ZWe
 (.ite (.s 28)
 (.seq ZWf
 .ret)
 .skip)))
 .skip))
 (.seq ZWg
 .ret))))),
 [.s 4,.s 5]⟩
theorem ZeF:Zp Proofs.Tryz.prog true ZeE Proofs.Tryz.f43=some ZNH:=by kernel_rfl
def ZEZ:List Hint:=[H [0],H [0,4],H [2],H [2]]
def ZDV:PC :=
 (.reg [0] [I 2 (.mv (V 0))])
def ZDW:PC :=
 (.reg [0,4] [I 3 (.mv (.s 0)),I 4 (.eqs false 3 [] (.s 3) (.v .nilptr))])
def ZDX:PC :=
 (.reg [2] [I 2 (.mv (V 0))])
def ZDY:PC :=
 (.reg [2] [I 5 (.mv (.s 0)),I 6 (.nilck (.s 5)),I 7 (.fadr 0 (.s 6)),I 8 (.fadr 7 (.s 7)),I 9 (.ld false 1 (.s 8)),I 2 (.mv (.s 9))])
def Xu:PF:=⟨false,
 (.seq ZDV
 (.seq (.seq ZDW
 (.ite (.s 4)
 (.seq ZDX
 .ret)
 .skip))
 (.seq ZDY
 .ret))),
 [.s 2]⟩
theorem ZEa:Zp Proofs.Tryz.prog false ZEZ Proofs.Tryz.f44=some Xu:=by kernel_rfl
def ZJD:List Hint:=[H [0,1],H [0,1,5],H [0,1,5,9],H [4],H [0,1,23],H [4],H [4]]
def ZFi:PC :=
 (.reg [0,1] [I 4 (.mv (V 0))])
def ZFj:PC :=
 (.reg [0,1,5] [I 6 (.mv (.s 0)),I 7 (C Qn [(.s 6)]),I 5 (.mv (.s 7))])
def ZFk:PC :=
 (.reg [0,1,5,9] [I 8 (.mv (.s 5)),I 9 (.bin .neq (.s 8) (V 0))])
def ZFl:PC :=
 (.reg [4] [I 10 (.mv (.s 5)),I 4 (.mv (.s 10))])
def ZFm:PC :=
 (.reg [0,1,23] [I 11 (.mv (.s 1)),I 12 (.bin .lss (.s 11) (V 0)),I 13 (.mv (.s 12)),G 14 13 false (.mv (.s 1)),G 15 13 false (.mv (.s 0)),G 16 13 false (.nilck (.s 15)),G 17 13 false (.fadr 0 (.s 16)),G 18 13 false (.fadr 1 (.s 17)),G 19 13 false (.fadr 2 (.s 18)),G 20 13 false (.fadr 0 (.s 19)),G 21 13 false (.ld false 1 (.s 20)),G 22 13 false (.bin .gtr (.s 14) (.s 21)),I 23 (.pick (.s 13) (.v (.bool true)) (.s 22))])
def ZFn:PC :=
 (.reg [4] [I 4 (.mv (V 3))])
def ZFo:PC :=
 (.reg [4] [I 24 (.mv (.s 0)),I 25 (.mv (.s 1)),I 26 (C QL [(.s 24),(.s 25)]),I 4 (.mv (.s 26))])
def ZA3:PF:=⟨false,
 (.seq ZFi
 (.seq (.seq ZFj
 (.seq ZFk
 (.ite (.s 9)
 (.seq ZFl
 .ret)
 .skip)))
 (.seq (.seq ZFm
 (.ite (.s 23)
 (.seq ZFn
 .ret)
 .skip))
 (.seq ZFo
 .ret)))),
 [.s 4]⟩
theorem ZJE:Zp Proofs.Tryz.prog false ZJD Proofs.Tryz.f47=some ZA3:=by kernel_rfl
def ZL0:List Hint:=[H [0],H [0,4],H [2],H [2]]
def ZJF:PC :=
 (.reg [0] [I 2 (.mv (V 0))])
def ZJG:PC :=
 (.reg [0,4] [I 3 (.mv (.s 0)),I 4 (.eqs false 3 [] (.s 3) (.v .nilptr))])
def ZJH:PC :=
 (.reg [2] [I 2 (.mv (V 0))])
def ZJI:PC :=
 (.reg [2] [I 5 (.mv (.s 0)),I 6 (.nilck (.s 5)),I 7 (.fadr 8 (.s 6)),I 8 (.ld false 1 (.s 7)),I 2 (.mv (.s 8))])
def ZCk:PF:=⟨false,
 (.seq ZJF
 (.seq (.seq ZJG
 (.ite (.s 4)
 (.seq ZJH
 .ret)
 .skip))
 (.seq ZJI
 .ret))),
 [.s 2]⟩
theorem ZL1:Zp Proofs.Tryz.prog false ZL0 Proofs.Tryz.f48=some ZCk:=by kernel_rfl
def ZaC:List Hint:=[H [0,2,4],H [6,7]]
def ZSY:PC :=
 (.reg [0,2,4] [I 4 (.box (.s 1)),I 6 (.mv (V 0)),I 7 (.mv (V 0))])
def ZSZ:PC :=
 (.reg [6,7] [I 8 (.mv (.s 0)),I 9 (.ld true 5 (.s 4)),I 10 (.mv (.s 2)),I 11 (C ZEA [(.s 8),(.s 9),(.s 10),(.v (.func (.func ZBG) [] [])),(.v (.func (.func ZAf) [] []))]),I 12 (.ext (.s 11) 0),I 13 (.ext (.s 11) 1),I 6 (.mv (.s 12)),I 7 (.mv (.s 13))])
def ZLK:PF:=⟨false,
 (.seq ZSY
 (.seq ZSZ
 .ret)),
 [.s 6,.s 7]⟩
theorem ZaD:Zp Proofs.Tryz.prog false ZaC Proofs.Tryz.f49=some ZLK:=by kernel_rfl
def Zgj:List Hint:=[H [0,2,4],H [0,2,4,8],H [0,2,4,8,13],H [6,7],H [0,2,4,23],H [6,7],H [0,2,4,25],H [6,7],H [6,7]]
def ZaE:PC :=
 (.reg [0,2,4] [I 4 (.box (.s 1)),I 6 (.mv (V 0)),I 7 (.mv (V 0))])
def ZaF:PC :=
 (.reg [0,2,4,8] [I 9 (.mv (.s 0)),I 10 (.ld true 5 (.s 4)),I 11 (C Y0 [(.s 9),(.s 10)]),I 8 (.mv (.s 11))])
def ZaG:PC :=
 (.reg [0,2,4,8,13] [I 12 (.mv (.s 8)),I 13 (.bin .neq (.s 12) (V 0))])
def ZaH:PC :=
 (.reg [6,7] [I 14 (.mv (.s 8)),I 6 (.mv (V 0)),I 7 (.mv (.s 14))])
def ZaI:PC :=
 (.reg [0,2,4,23] [I 15 (.mv (.s 2)),I 16 (.bin .lss (.s 15) (V 0)),I 17 (.mv (.s 16)),G 18 17 false (.mv (.s 2)),G 19 17 false (.fadr 2 (.s 4)),G 20 17 false (.fadr 2 (.s 19)),G 21 17 false (.ld false 1 (.s 20)),G 22 17 false (.bin .gtr (.s 18) (.s 21)),I 23 (.pick (.s 17) (.v (.bool true)) (.s 22))])
def ZaJ:PC :=
 (.reg [6,7] [I 6 (.mv (V 0)),I 7 (.mv (V 3))])
def ZaK:PC :=
 (.reg [0,2,4,25] [I 24 (.mv (.s 2)),I 25 (.bin .eql (.s 24) (V 0))])
def ZaL:PC :=
 (.reg [6,7] [I 6 (.mv (V 0)),I 7 (.mv (V 0))])
def ZaM:PC :=
 (.reg [6,7] [I 26 (.mv (.s 0)),I 27 (.ld true 5 (.s 4)),I 28 (.mv (.s 2)),I 29 (C ZEB [(.s 26),(.s 27),(.s 28),(.v (.func (.func ZDv) [] [])),(.v (.func (.func X6) [] []))]),I 30 (.ext (.s 29) 0),I 31 (.ext (.s 29) 1),I 6 (.mv (.s 30)),I 7 (.mv (.s 31))])
def ZSA:PF:=⟨false,
 (.seq ZaE
 (.seq (.seq ZaF
 (.seq ZaG
 (.ite (.s 13)
 (.seq ZaH
 .ret)
 .skip)))
 (.seq (.seq ZaI
 (.ite (.s 23)
 (.seq ZaJ
 .ret)
 .skip))
 (.seq (.seq ZaK
 (.ite (.s 25)
 (.seq ZaL
 .ret)
 .skip))
 (.seq ZaM
 .ret))))),
 [.s 6,.s 7]⟩
theorem Zgk:Zp Proofs.Tryz.prog false Zgj Proofs.Tryz.f50=some ZSA:=by kernel_rfl
def ZEI:List Hint:=[H [0],H [0,3],H [0,3,10],H [2],H [0,4,5],H [0,4,5,31],H [2],H [0,5,6],H [0,5,6,50],H [2],H [2]]
def ZCl:PC :=
 (.reg [0] [I 2 (.mv (V 0))])
def ZCm:PC :=
 (.reg [0,3] [I 7 (.mv (.s 0)),I 8 (C Qn [(.s 7)]),I 3 (.mv (.s 8))])
def ZCn:PC :=
 (.reg [0,3,10] [I 9 (.mv (.s 3)),I 10 (.bin .neq (.s 9) (V 0))])
def ZCo:PC :=
 (.reg [2] [I 11 (.mv (.s 3)),I 2 (.mv (.s 11))])
def ZCp:PC :=
 (.reg [0,4,5] [I 13 (.mv (.s 0)),I 14 (.nilck (.s 13)),I 15 (.fadr 0 (.s 14)),I 16 (.fadr 0 (.s 15)),I 17 (.ld false 1 (.s 16)),I 18 (.mv (.s 0)),I 19 (.nilck (.s 18)),I 20 (.fadr 0 (.s 19)),I 21 (.fadr 1 (.s 20)),I 22 (.ld true 5 (.s 21)),I 23 (.mv (.s 0)),I 24 (.nilck (.s 23)),I 25 (.fadr 8 (.s 24)),I 26 (.ld false 1 (.s 25)),I 27 (C XO [(.s 17),(.s 22),(.s 26)]),I 12 (.mv (.s 27)),I 28 (.ext (.s 12) 0),I 29 (.ext (.s 12) 1),I 4 (.mv (.s 28)),I 5 (.mv (.s 29))])
def ZCq:PC :=
 (.reg [0,4,5,31] [I 30 (.mv (.s 5)),I 31 (.bin .neq (.s 30) (V 0))])
def ZCr:PC :=
 (.reg [2] [I 32 (.mv (.s 5)),I 2 (.mv (.s 32))])
def ZCs:PC :=
 (.reg [0,5,6] [I 34 (.mv (.s 0)),I 35 (.nilck (.s 34)),I 36 (.fadr 0 (.s 35)),I 37 (.fadr 0 (.s 36)),I 38 (.ld false 1 (.s 37)),I 39 (.mv (.s 0)),I 40 (.nilck (.s 39)),I 41 (.fadr 0 (.s 40)),I 42 (.fadr 1 (.s 41)),I 43 (.ld true 5 (.s 42)),I 44 (.mv (.s 4)),I 45 (.bin .add (.s 44) (V 1)),I 46 (C Q1 [(.s 38),(.s 43),(.s 45)]),I 33 (.mv (.s 46)),I 47 (.ext (.s 33) 0),I 48 (.ext (.s 33) 1),I 6 (.mv (.s 47)),I 5 (.mv (.s 48))])
def ZCt:PC :=
 (.reg [0,5,6,50] [I 49 (.mv (.s 5)),I 50 (.bin .neq (.s 49) (V 0))])
def ZCu:PC :=
 (.reg [2] [I 51 (.mv (.s 5)),I 2 (.mv (.s 51))])
def ZB6:PC :=
 (.reg [2] [I 52 (.mv (.s 0)),I 53 (.mv (.s 6)),I 54 (C QL [(.s 52),(.s 53)]),I 2 (.mv (.s 54))])
def XQ:PF:=⟨false,
 (.seq ZCl
 (.seq (.seq ZCm
 (.seq ZCn
 (.ite (.s 10)
 (.seq ZCo
 .ret)
 .skip)))
 (.seq ZCp
 (.seq (.seq ZCq
 (.ite (.s 31)
 (.seq ZCr
 .ret)
 .skip))
 (.seq ZCs
 (.seq (.seq ZCt
 (.ite (.s 50)
 (.seq ZCu
 .ret)
 .skip))
 (.seq ZB6
 .ret))))))),
 [.s 2]⟩
theorem ZEJ:Zp Proofs.Tryz.prog false ZEI Proofs.Tryz.f51=some XQ:=by kernel_rfl
def ZEK:List Hint:=[H [0],H [0,3],H [0,3,10],H [2],H [0,16],H [2],H [0,4,5],H [0,4,5,37],H [2],H [0,5,6],H [0,5,6,55],H [2],H [2]]
def ZCv:PC :=
 (.reg [0] [I 2 (.mv (V 0))])
def ZCw:PC :=
 (.reg [0,3] [I 7 (.mv (.s 0)),I 8 (C Qn [(.s 7)]),I 3 (.mv (.s 8))])
def ZCx:PC :=
 (.reg [0,3,10] [I 9 (.mv (.s 3)),I 10 (.bin .neq (.s 9) (V 0))])
def ZCy:PC :=
 (.reg [2] [I 11 (.mv (.s 3)),I 2 (.mv (.s 11))])
def ZCz:PC :=
 (.reg [0,16] [I 12 (.mv (.s 0)),I 13 (.nilck (.s 12)),I 14 (.fadr 8 (.s 13)),I 15 (.ld false 1 (.s 14)),I 16 (.bin .eql (.s 15) (V 0))])
def ZC0:PC :=
 (.reg [2] [I 2 (.mv (V 3))])
def ZC1:PC :=
 (.reg [0,4,5] [I 18 (.mv (.s 0)),I 19 (.nilck (.s 18)),I 20 (.fadr 0 (.s 19)),I 21 (.fadr 0 (.s 20)),I 22 (.ld false 1 (.s 21)),I 23 (.mv (.s 0)),I 24 (.nilck (.s 23)),I 25 (.fadr 0 (.s 24)),I 26 (.fadr 1 (.s 25)),I 27 (.ld true 5 (.s 26)),I 28 (.mv (.s 0)),I 29 (.nilck (.s 28)),I 30 (.fadr 8 (.s 29)),I 31 (.ld false 1 (.s 30)),I 32 (.bin .sub (.s 31) (V 1)),I 33 (C XO [(.s 22),(.s 27),(.s 32)]),I 17 (.mv (.s 33)),I 34 (.ext (.s 17) 0),I 35 (.ext (.s 17) 1),I 4 (.mv (.s 34)),I 5 (.mv (.s 35))])
def ZC2:PC :=
 (.reg [0,4,5,37] [I 36 (.mv (.s 5)),I 37 (.bin .neq (.s 36) (V 0))])
def ZC3:PC :=
 (.reg [2] [I 38 (.mv (.s 5)),I 2 (.mv (.s 38))])
def ZC4:PC :=
 (.reg [0,5,6] [I 40 (.mv (.s 0)),I 41 (.nilck (.s 40)),I 42 (.fadr 0 (.s 41)),I 43 (.fadr 0 (.s 42)),I 44 (.ld false 1 (.s 43)),I 45 (.mv (.s 0)),I 46 (.nilck (.s 45)),I 47 (.fadr 0 (.s 46)),I 48 (.fadr 1 (.s 47)),I 49 (.ld true 5 (.s 48)),I 50 (.mv (.s 4)),I 51 (C Q1 [(.s 44),(.s 49),(.s 50)]),I 39 (.mv (.s 51)),I 52 (.ext (.s 39) 0),I 53 (.ext (.s 39) 1),I 6 (.mv (.s 52)),I 5 (.mv (.s 53))])
def ZB7:PC :=
 (.reg [0,5,6,55] [I 54 (.mv (.s 5)),I 55 (.bin .neq (.s 54) (V 0))])
def ZB8:PC :=
 (.reg [2] [I 56 (.mv (.s 5)),I 2 (.mv (.s 56))])
def ZB9:PC :=
 (.reg [2] [I 57 (.mv (.s 0)),I 58 (.mv (.s 6)),I 59 (C QL [(.s 57),(.s 58)]),I 2 (.mv (.s 59))])
def XR:PF:=⟨false,
 (.seq ZCv
 (.seq (.seq ZCw
 (.seq ZCx
 (.ite (.s 10)
 (.seq ZCy
 .ret)
 .skip)))
 (.seq (.seq ZCz
 (.ite (.s 16)
 (.seq ZC0
 .ret)
 .skip))
 (.seq ZC1
 (.seq (.seq ZC2
 (.ite (.s 37)
 (.seq ZC3
 .ret)
 .skip))
 (.seq ZC4
 (.seq (.seq ZB7
 (.ite (.s 55)
 (.seq ZB8
 .ret)
 .skip))
 (.seq ZB9
 .ret)))))))),
 [.s 2]⟩
theorem ZEL:Zp Proofs.Tryz.prog false ZEK Proofs.Tryz.f52=some XR:=by kernel_rfl
def ZJJ:List Hint:=[H [0],H [0,4],H [0,4,8],H [2,3],H [0,21],H [2,3],H [2,3]]
def ZFp:PC :=
 (.reg [0] [I 2 (.mv (.v (.str []))),I 3 (.mv (V 0))])
def ZFq:PC :=
 (.reg [0,4] [I 5 (.mv (.s 0)),I 6 (C Qn [(.s 5)]),I 4 (.mv (.s 6))])
def ZFr:PC :=
 (.reg [0,4,8] [I 7 (.mv (.s 4)),I 8 (.bin .neq (.s 7) (V 0))])
def ZFs:PC :=
 (.reg [2,3] [I 9 (.mv (.s 4)),I 2 (.mv (.v (.str []))),I 3 (.mv (.s 9))])
def ZFt:PC :=
 (.reg [0,21] [I 10 (.mv (.s 0)),I 11 (.nilck (.s 10)),I 12 (.fadr 8 (.s 11)),I 13 (.ld false 1 (.s 12)),I 14 (.mv (.s 0)),I 15 (.nilck (.s 14)),I 16 (.fadr 0 (.s 15)),I 17 (.fadr 1 (.s 16)),I 18 (.fadr 2 (.s 17)),I 19 (.fadr 0 (.s 18)),I 20 (.ld false 1 (.s 19)),I 21 (.bin .eql (.s 13) (.s 20))])
def ZFu:PC :=
 (.reg [2,3] [I 2 (.mv (.v (.str []))),I 3 (.mv (V 3))])
def ZFv:PC :=
 (.reg [2,3] [I 22 (.mv (.s 0)),I 23 (C Q2 [(.s 22),(.v (.func (.func YP) [] []))]),I 24 (.ext (.s 23) 0),I 25 (.ext (.s 23) 1),I 2 (.mv (.s 24)),I 3 (.mv (.s 25))])
def ZA4:PF:=⟨false,
 (.seq ZFp
 (.seq (.seq ZFq
 (.seq ZFr
 (.ite (.s 8)
 (.seq ZFs
 .ret)
 .skip)))
 (.seq (.seq ZFt
 (.ite (.s 21)
 (.seq ZFu
 .ret)
 .skip))
 (.seq ZFv
 .ret)))),
 [.s 2,.s 3]⟩
theorem ZJK:Zp Proofs.Tryz.prog false ZJJ Proofs.Tryz.f53=some ZA4:=by kernel_rfl
def Zgl:List Hint:=[H [0,1],H [0,6,7],H [0,6,7,15],H [4,5],H [4,5]]
def ZaN:PC :=
 (.reg [0,1] [I 4 (.mv (.v .nilptr)),I 5 (.mv (V 0))])
def ZaO:PC :=
 (.reg [0,6,7] [I 9 (.mv (.s 0)),I 10 (.mv (.s 1)),I 11 (C ZCa [(.s 9),(.s 10)]),I 8 (.mv (.s 11)),I 12 (.ext (.s 8) 0),I 13 (.ext (.s 8) 1),I 6 (.mv (.s 12)),I 7 (.mv (.s 13))])
def ZaP:PC :=
 (.reg [0,6,7,15] [I 14 (.mv (.s 7)),I 15 (.bin .neq (.s 14) (V 0))])
def ZaQ:PC :=
 (.reg [4,5] [I 16 (.mv (.s 7)),I 4 (.mv (.v .nilptr)),I 5 (.mv (.s 16))])
def ZaR:PC :=
 (.reg [4,5] [I 17 (.mv (.s 0)),I 18 (.mv (.s 6)),I 19 (.mkmap),I 20 (.build [(.int .i64 0),.nilptr,.nilmap,(.int .i64 0),(.int .i64 0),(.int .i64 0)] [(0,1,(.s 17)),(1,1,(.s 18)),(2,1,(.s 19))]),I 21 (.box (.s 20)),I 4 (.mv (.s 21)),I 5 (.mv (V 0))])
def ZSB:PF:=⟨true,
 (.seq ZaN
 (.seq ZaO
 (.seq (.seq ZaP
 (.ite (.s 15)
 (.seq ZaQ
 .ret)
 .skip))
 (.seq ZaR
 .ret)))),
 [.s 4,.s 5]⟩
theorem Zgm:Zp Proofs.Tryz.prog true Zgl Proofs.Tryz.f57=some ZSB:=by kernel_rfl
def Zia:List Hint:=[H [0,1,4],H [0,1,4,11],H [4,5],H [0,4,6,7],H [0,4,6,7,19],H [4,5],H [4,7,8],H [4,5]]
def ZeG:PC :=
 (.reg [0,1,4] [I 4 (.box (.v ZR)),I 5 (.mv (V 0))])
def ZeH:PC :=
 (.reg [0,1,4,11] [I 10 (.mv (.s 0)),I 11 (.eqs false 3 [] (.s 10) (.v .nilptr))])
def ZeI:PC :=
 (.reg [4,5] [I 12 (.build [(.int .u64 0),(.int .i64 0),(.int .i64 0),(.int .i64 0),(.int .i64 0)] []),J (.st 5 (.s 4) (.s 12)),I 5 (.mv (V 1))])
def ZeJ:PC :=
 (.reg [0,4,6,7] [I 14 (.mv (.s 1)),I 15 (C X7 [(.s 14)]),I 13 (.mv (.s 15)),I 16 (.ext (.s 13) 0),I 17 (.ext (.s 13) 1),I 6 (.box (.v ZT)),J (.st 7 (.s 6) (.s 16)),I 7 (.mv (.s 17))])
def ZeK:PC :=
 (.reg [0,4,6,7,19] [I 18 (.mv (.s 7)),I 19 (.bin .neq (.s 18) (V 0))])
def ZeL:PC :=
 (.reg [4,5] [I 20 (.build [(.int .u64 0),(.int .i64 0),(.int .i64 0),(.int .i64 0),(.int .i64 0)] []),I 21 (.mv (.s 7)),J (.st 5 (.s 4) (.s 20)),I 5 (.mv (.s 21))])
def ZeM:PC :=
 (.reg [4,7,8] [I 23 (.mv (.s 0)),I 24 (.ld true 7 (.s 6)),I 25 (C X5 [(.s 23),(.s 24)]),I 22 (.mv (.s 25)),I 26 (.ext (.s 22) 0),I 27 (.ext (.s 22) 1),I 28 (.ext (.s 22) 2),I 8 (.box (.v ZR)),J (.st 5 (.s 8) (.s 26)),I 9 (.mv (.s 27)),I 7 (.mv (.s 28))])
def ZeN:PC :=
 (.reg [4,5] [I 29 (.ld true 5 (.s 8)),I 30 (.mv (.s 7)),J (.st 5 (.s 4) (.s 29)),I 5 (.mv (.s 30))])
def ZWh:PF:=⟨false,
 (.seq ZeG
 (.seq (.seq ZeH
 (.ite (.s 11)
 (.seq ZeI
 .ret)
 .skip))
 (.seq ZeJ
 (.seq (.seq ZeK
 (.ite (.s 19)
 (.seq ZeL
 .ret)
 .skip))
 (.seq ZeM
 (.seq ZeN
 .ret)))))),
 [.c 4 true 5,.s 5]⟩
theorem Zib:Zp Proofs.Tryz.prog false Zia Proofs.Tryz.f58=some ZWh:=by kernel_rfl
def ZL2:List Hint:=[H [0],H [0,3],H [0,3,4],H [0,3,4,12],H [0,3,4],H [0,3,4],H [2]]
def ZJL:PC :=
 (.reg [0] [I 2 (.mv (.v (.bool false)))])
def ZJM:PC :=
 (.reg [0,3] [I 3 (.mv (V 0))])
def ZJN:PC :=
 (.reg [0,3,4] [I 4 (.mv (V 0))])
def ZJO:PC :=
 (.reg [0,3,4,12] [I 5 (.mv (.s 4)),I 6 (.mv (.s 0)),I 7 (.len 1 (.s 6)),I 8 (.bin .lss (.s 5) (.s 7)),I 9 (.mv (.s 8)),G 10 9 true (.mv (.s 3)),G 11 9 true (.bin .leq (.s 10) (V 900)),I 12 (.pick (.s 9) (.s 11) (.v (.bool false)))])
def ZJP:PC :=
 (.reg [0,3,4] [I 15 (.mv (.s 3)),I 16 (.mv (.s 0)),I 17 (.mv (.s 4)),I 18 (.ixS 1 (.s 16) (.s 17)),I 19 (.ld false 1 (.s 18)),I 20 (.len 0 (.s 19)),I 21 (.mnx false (.s 20) (V 1000)),I 22 (.bin .add (.s 15) (.s 21)),I 3 (.mv (.s 22))])
def ZJQ:PC :=
 (.reg [0,3,4] [I 13 (.mv (.s 4)),I 14 (.bin .add (.s 13) (V 1)),I 4 (.mv (.s 14))])
def ZJR:PC :=
 (.seq (.seq ZJO
 (.ite (.s 12)
 .skip
 (.exit 0)))
 (.seq (.block 1
 ZJP)
 ZJQ))
def ZJS:PC :=
 (.reg [2] [I 23 (.mv (.s 0)),I 24 (.len 1 (.s 23)),I 25 (.bin .gtr (.s 24) (V 4)),I 26 (.mv (.s 25)),G 27 26 false (.mv (.s 3)),G 28 26 false (.bin .gtr (.s 27) (V 900)),I 29 (.pick (.s 26) (.v (.bool true)) (.s 28)),I 2 (.mv (.s 29))])
def ZC5:PF:=⟨false,
 (.seq ZJL
 (.seq ZJM
 (.seq (.seq ZJN
 (.block 0
 (.loop ZJR)))
 (.seq ZJS
 .ret)))),
 [.s 2]⟩
theorem ZL3:Zp Proofs.Tryz.prog false ZL2 Proofs.Tryz.f68=some ZC5:=by kernel_rfl
def ZL4:List Hint:=[H [0],H [0,3],H [0,3,11],H [0,3,20],H [2],H [0,3],H [2]]
def ZJT:PC :=
 (.reg [0] [I 2 (.mv (.v (.bool false)))])
def ZJU:PC :=
 (.reg [0,3] [I 3 (.mv (V 0))])
def ZJV:PC :=
 (.reg [0,3,11] [I 4 (.mv (.s 3)),I 5 (.mv (.s 0)),I 6 (.len 1 (.s 5)),I 7 (.bin .lss (.s 4) (.s 6)),I 8 (.mv (.s 7)),G 9 8 true (.mv (.s 3)),G 10 8 true (.bin .lss (.s 9) (V 100)),I 11 (.pick (.s 8) (.s 10) (.v (.bool false)))])
def ZJW:PC :=
 (.reg [0,3,20] [I 14 (.mv (.s 0)),I 15 (.mv (.s 3)),I 16 (.ixS 5 (.s 14) (.s 15)),I 17 (.fadr 4 (.s 16)),I 18 (.ld false 1 (.s 17)),I 19 (.len 0 (.s 18)),I 20 (.bin .gtr (.s 19) (V 200))])
def ZJX:PC :=
 (.reg [2] [I 2 (.mv (.v (.bool true)))])
def ZJY:PC :=
 (.reg [0,3] [I 12 (.mv (.s 3)),I 13 (.bin .add (.s 12) (V 1)),I 3 (.mv (.s 13))])
def ZJZ:PC :=
 (.seq (.seq ZJV
 (.ite (.s 11)
 .skip
 (.exit 0)))
 (.seq (.block 1
 (.seq ZJW
 (.ite (.s 20)
 (.seq ZJX
 .ret)
 .skip)))
 ZJY))
def ZJa:PC :=
 (.reg [2] [I 21 (.mv (.s 0)),I 22 (.len 1 (.s 21)),I 23 (.bin .gtr (.s 22) (V 60)),I 2 (.mv (.s 23))])
def ZC6:PF:=⟨false,
 (.seq ZJT
 (.seq (.seq ZJU
 (.block 0
 (.loop ZJZ)))
 (.seq ZJa
 .ret))),
 [.s 2]⟩
theorem ZL5:Zp Proofs.Tryz.prog false ZL4 Proofs.Tryz.f69=some ZC6:=by kernel_rfl
def ZL6:List Hint:=[H [0],H [0,5,6],H [0,5,20],H [2,3,4],⟨[0,5,7],[0],[],[],[],[]⟩,H [0,5,7,8],H [0,5,7,8,24],H [0,5,7,8,9,10],H [0,5,7,8,9,37],H [2,3,4],H [0,5,7,8],H [0,5,7,8],H [2,3,4]]
def ZJb:PC :=
 (.reg [0] [I 2 (.mv (.v .nilptr)),I 3 (.mv (.v .nils)),I 4 (.mv (.v (.bool false)))])
def ZJc:PC :=
 (.reg [0,5,6] [I 12 (C ZDu [(V 1500),(.v (.int .u64 3))]),I 11 (.mv (.s 12)),I 13 (.ext (.s 11) 0),I 14 (.ext (.s 11) 1),I 5 (.mv (.s 13)),I 6 (.mv (.s 14))])
def ZJd:PC :=
 (.reg [0,5,20] [I 15 (.mv (.s 5)),I 16 (.eqs false 3 [] (.s 15) (.v .nilptr)),I 17 (.mv (.s 16)),G 18 17 false (.mv (.s 6)),G 19 17 false (.bin .neq (.s 18) (V 0)),I 20 (.pick (.s 17) (.v (.bool true)) (.s 19))])
def ZJe:PC :=
 (.reg [2,3,4] [I 2 (.mv (.v .nilptr)),I 3 (.mv (.v .nils)),I 4 (.mv (.v (.bool false)))])
def ZJf:PC :=
 (.reg [0,5,7] [I 7 (.onil 5)])
def ZJg:PC :=
 (.reg [0,5,7,8] [I 8 (.mv (V 0))])
def ZJh:PC :=
 (.reg [0,5,7,8,24] [I 21 (.mv (.s 8)),I 22 (.mv (.s 0)),I 23 (.len 1 (.s 22)),I 24 (.bin .lss (.s 21) (.s 23))])
def ZJi:PC :=
 (.reg [0,5,7,8,9,10] [I 28 (.mv (.s 5)),I 29 (.mv (.s 0)),I 30 (.mv (.s 8)),I 31 (.ixS 1 (.s 29) (.s 30)),I 32 (.ld false 1 (.s 31)),I 33 (C ZCY [(.s 28),(.s 32)]),I 27 (.mv (.s 33)),I 34 (.ext (.s 27) 0),I 35 (.ext (.s 27) 1),I 9 (.box (.v ZR)),J (.st 5 (.s 9) (.s 34)),I 10 (.mv (.s 35))])
def ZJj:PC :=
 (.reg [0,5,7,8,9,37] [I 36 (.mv (.s 10)),I 37 (.bin .neq (.s 36) (V 0))])
def ZJk:PC :=
 (.reg [2,3,4] [I 2 (.mv (.v .nilptr)),I 3 (.mv (.v .nils)),I 4 (.mv (.v (.bool false)))])
def ZHv:PC :=
 (.reg [0,5,7,8] [I 38 (.mv (.s 7)),I 39 (.ld true 5 (.s 9)),I 40 (.bslice false 5 [ZR] [(0,(.s 39))]),I 41 (.app 5 40 (.s 38) (.s 40)),I 7 (.mv (.s 41))])
def ZHw:PC :=
 (.reg [0,5,7,8] [I 25 (.mv (.s 8)),I 26 (.bin .add (.s 25) (V 1)),I 8 (.mv (.s 26))])
def ZHx:PC :=
 (.seq (.seq ZJh
 (.ite (.s 24)
 .skip
 (.exit 0)))
 (.seq (.block 1
 (.seq ZJi
 (.seq (.seq ZJj
 (.ite (.s 37)
 (.seq ZJk
 .ret)
 .skip))
 ZHv)))
 ZHw))
def ZHy:PC :=
 (.reg [2,3,4] [I 42 (.mv (.s 5)),I 43 (.mv (.s 7)),I 2 (.mv (.s 42)),I 3 (.mv (.s 43)),I 4 (.mv (.v (.bool true)))])
def ZC7:PF:=⟨true,
 (.seq ZJb
 (.seq ZJc
 (.seq (.seq ZJd
 (.ite (.s 20)
 (.seq ZJe
 .ret)
 .skip))
 (.seq ZJf
 (.seq (.seq ZJg
 (.block 0
 (.loop ZHx)))
 (.seq ZHy
 .ret)))))),
 [.s 2,.s 3,.s 4]⟩
theorem ZL7:Zp Proofs.Tryz.prog true ZL6 Proofs.Tryz.f71=some ZC7:=by kernel_rfl
def ZKw:List Hint:=[H [0,1,2],⟨[0,1,2,8],[0],[],[],[],[]⟩,H [0,1,2,8,9],H [0,1,2,8,9,19],H [0,1,2,8,9,24],H [0,1,2,8,9,10,11],H [0,1,2,8,9,10,35],H [6,7],H [0,1,2,8,9],H [0,1,2,8,9,12],H [0,1,2,8,9,12,13,14],H [0,1,2,8,9,12,13,59],H [6,7],H [0,1,2,8,9,12,13,15],⟨[0,1,2,8,9,13,14],[],[(13,.pure)],[],[],[]⟩,H [0,1,2,8,9,13,93],H [6,7],H [0,1,2,8,9],H [0,1,2,8,9],H [6,7]]
def ZHz:PC :=
 (.reg [0,1,2] [I 6 (.mv (.v .nils)),I 7 (.mv (.v (.bool false)))])
def ZH0:PC :=
 (.reg [0,1,2,8] [I 8 (.onil 7)])
def ZH1:PC :=
 (.reg [0,1,2,8,9] [I 9 (.mv (V 0))])
def ZH2:PC :=
 (.reg [0,1,2,8,9,19] [I 16 (.mv (.s 9)),I 17 (.mv (.s 2)),I 18 (.len 1 (.s 17)),I 19 (.bin .lss (.s 16) (.s 18))])
def ZH3:PC :=
 (.reg [0,1,2,8,9,24] [I 22 (.mv (.s 1)),I 23 (.len 1 (.s 22)),I 24 (.bin .eql (.s 23) (V 0))])
def ZH4:PC :=
 (.reg [0,1,2,8,9,10,11] [I 26 (.mv (.s 2)),I 27 (.mv (.s 9)),I 28 (.ixS 5 (.s 26) (.s 27)),I 29 (.fadr 4 (.s 28)),I 30 (.ld false 1 (.s 29)),I 31 (C X7 [(.s 30)]),I 25 (.mv (.s 31)),I 32 (.ext (.s 25) 0),I 33 (.ext (.s 25) 1),I 10 (.box (.v ZT)),J (.st 7 (.s 10) (.s 32)),I 11 (.mv (.s 33))])
def ZH5:PC :=
 (.reg [0,1,2,8,9,10,35] [I 34 (.mv (.s 11)),I 35 (.bin .neq (.s 34) (V 0))])
def ZH6:PC :=
 (.reg [6,7] [I 6 (.mv (.v .nils)),I 7 (.mv (.v (.bool false)))])
def ZH7:PC :=
 (.reg [0,1,2,8,9] [I 36 (.mv (.s 8)),I 37 (.ld true 7 (.s 10)),I 38 (.bslice false 7 [ZT] [(0,(.s 37))]),I 39 (.app 7 80 (.s 36) (.s 38)),I 8 (.mv (.s 39))])
def ZH8:PC :=
 (.reg [0,1,2,8,9,12] [I 40 (.mv (.s 1)),I 41 (.mv (.s 2)),I 42 (.mv (.s 9)),I 43 (.ixS 5 (.s 41) (.s 42)),I 44 (.fadr 1 (.s 43)),I 45 (.ld false 1 (.s 44)),I 46 (.mv (.s 1)),I 47 (.len 1 (.s 46)),I 48 (.bin .sub (.s 47) (V 1)),I 49 (C JO [(.s 45),(.s 48)]),I 50 (.ixS 5 (.s 40) (.s 49)),I 51 (.ld true 5 (.s 50)),I 12 (.box (.v ZR)),J (.st 5 (.s 12) (.s 51))])
def ZFw:PC :=
 (.reg [0,1,2,8,9,12,13,14] [I 53 (.mv (.s 0)),I 54 (.ld true 5 (.s 12)),I 55 (C ZA0 [(.s 53),(.s 54)]),I 52 (.mv (.s 55)),I 56 (.ext (.s 52) 0),I 57 (.ext (.s 52) 1),I 13 (.box (.v ZT)),J (.st 7 (.s 13) (.s 56)),I 14 (.mv (.s 57))])
def ZFx:PC :=
 (.reg [0,1,2,8,9,12,13,59] [I 58 (.mv (.s 14)),I 59 (.bin .neq (.s 58) (V 0))])
def ZFy:PC :=
 (.reg [6,7] [I 6 (.mv (.v .nils)),I 7 (.mv (.v (.bool false)))])
def ZFz:PC :=
 (.reg [0,1,2,8,9,12,13,15] [I 60 (.mv (.s 2)),I 61 (.mv (.s 9)),I 62 (.ixS 5 (.s 60) (.s 61)),I 63 (.fadr 2 (.s 62)),I 64 (.ld false 1 (.s 63)),I 65 (.fadr 2 (.s 12)),I 66 (.fadr 0 (.s 65)),I 67 (.ld false 1 (.s 66)),I 68 (C JO [(.s 64),(.s 67)]),I 15 (.mv (.s 68))])
def ZF0:PC :=
 (.reg [0,1,2,8,9,13,14] [I 70 (.mv (.s 0)),I 71 (.ld true 7 (.s 13)),I 72 (.mv (.s 15)),I 73 (.mv (.s 2)),I 74 (.mv (.s 9)),I 75 (.ixS 5 (.s 73) (.s 74)),I 76 (.fadr 3 (.s 75)),I 77 (.ld false 1 (.s 76)),I 78 (.fadr 2 (.s 12)),I 79 (.fadr 0 (.s 78)),I 80 (.ld false 1 (.s 79)),I 81 (.mv (.s 15)),I 82 (.bin .sub (.s 80) (.s 81)),I 83 (.call .pure (.v (.func (.func JO) [] [])) [(.s 77),(.s 82)]),I 84 (.mv (.s 2)),I 85 (.mv (.s 9)),I 86 (.ixS 5 (.s 84) (.s 85)),I 87 (.fadr 4 (.s 86)),I 88 (.ld false 1 (.s 87)),I 89 (C ZCb [(.s 70),(.s 71),(.s 72),(.s 83),(.s 88)]),I 69 (.mv (.s 89)),I 90 (.ext (.s 69) 0),I 91 (.ext (.s 69) 1),J (.st 7 (.s 13) (.s 90)),I 14 (.mv (.s 91))])
def ZF1:PC :=
 (.reg [0,1,2,8,9,13,93] [I 92 (.mv (.s 14)),I 93 (.bin .neq (.s 92) (V 0))])
def ZF2:PC :=
 (.reg [6,7] [I 6 (.mv (.v .nils)),I 7 (.mv (.v (.bool false)))])
def ZF3:PC :=
 (.reg [0,1,2,8,9] [I 94 (.mv (.s 8)),I 95 (.ld true 7 (.s 13)),I 96 (.bslice false 7 [ZT] [(0,(.s 95))]),I 97 (.app 7 80 (.s 94) (.s 96)),I 8 (.mv (.s 97))])
def ZF4:PC :=
 (.reg [0,1,2,8,9] [I 20 (.mv (.s 9)),I 21 (.bin .add (.s 20) (V 1)),I 9 (.mv (.s 21))])
def ZF5:PC :=
 (.seq (.seq ZH2
 (.ite (.s 19)
 .skip
 (.exit 0)))
 (.seq (.block 1
 (.seq (.seq ZH3
 (.ite (.s 24)
 (.seq ZH4
 (.seq (.seq ZH5
 (.ite (.s 35)
 (.seq ZH6
 .ret)
 .skip))
 (.seq ZH7
 (.exit 1))))
 .skip))
 (.seq ZH8
 (.seq ZFw
 (.seq (.seq ZFx
 (.ite (.s 59)
 (.seq ZFy
 .ret)
 .skip))
 (.seq ZFz
 (.seq ZF0
 (.seq (.seq ZF1
 (.ite (.s 93)
 (.seq ZF2
 .ret)
 .skip))
 ZF3))))))))
 ZF4))
def ZF6:PC :=
 (.reg [6,7] [I 98 (.mv (.s 8)),I 6 (.mv (.s 98)),I 7 (.mv (.v (.bool true)))])
def ZBk:PF:=⟨false,
 (.seq ZHz
 (.seq ZH0
 (.seq (.seq ZH1
 (.block 0
 (.loop ZF5)))
 (.seq ZF6
 .ret)))),
 [.s 6,.s 7]⟩
theorem ZKx:Zp Proofs.Tryz.prog false ZKw Proofs.Tryz.f72=some ZBk:=by kernel_rfl
def Zgn:List Hint:=[H [2,3],H [2,3,6],H [2,3,6,14],H [4,5],⟨[2,3,7],[0],[],[],[],[]⟩,H [2,3,7,8],H [3,7,8],H [3,7,8,19],H [4,5],H [7,9],H [7,9,24],H [4,5],H [4,5]]
def ZaS:PC :=
 (.reg [2,3] [I 2 (.box (.s 0)),I 3 (.box (.s 1)),I 4 (.mv (.v (.str []))),I 5 (.mv (V 0))])
def ZaT:PC :=
 (.reg [2,3,6] [I 10 (.ld false 1 (.s 2)),I 11 (.ld true 7 (.s 3)),I 12 (C YQ [(.s 10),(.s 11)]),I 6 (.mv (.s 12))])
def ZaU:PC :=
 (.reg [2,3,6,14] [I 13 (.mv (.s 6)),I 14 (.bin .neq (.s 13) (V 0))])
def ZaV:PC :=
 (.reg [4,5] [I 15 (.mv (.s 6)),I 4 (.mv (.v (.str []))),I 5 (.mv (.s 15))])
def ZaW:PC :=
 (.reg [2,3,7] [I 7 (.boxnil 1)])
def ZaX:PC :=
 (.reg [2,3,7,8] [I 8 (.box (.v .nilfunc))])
def ZaY:PC :=
 (.reg [3,7,8] [I 16 (.mkf (.func Ya) [] [(.s 2),(.s 7),(.s 8)]),J (.st 1 (.s 8) (.s 16))])
def ZaZ:PC :=
 (.reg [3,7,8,19] [I 17 (.ld true 7 (.s 3)),I 18 (C Qm [(.s 17)]),I 19 (.bin .eql (.s 18) (V 1))])
def Zaa:PC :=
 (.reg [4,5] [I 4 (.mv (.v (.str []))),I 5 (.mv (V 0))])
def Zab:PC :=
 (.reg [7,9] [I 20 (.ld false 1 (.s 8)),I 21 (.ld true 7 (.s 3)),I 22 (.call .norm (.s 20) [(.s 21)]),I 9 (.mv (.s 22))])
def ZWi:PC :=
 (.reg [7,9,24] [I 23 (.mv (.s 9)),I 24 (.bin .neq (.s 23) (V 0))])
def ZWj:PC :=
 (.reg [4,5] [I 25 (.mv (.s 9)),I 4 (.mv (.v (.str []))),I 5 (.mv (.s 25))])
def ZWk:PC :=
 (.reg [4,5] [I 26 (.ld false 1 (.s 7)),I 27 (.b2s (.s 26)),I 4 (.mv (.s 27)),I 5 (.mv (V 0))])
def ZSC:PF:=⟨false,
 (.seq ZaS
 (.seq (.seq ZaT
 (.seq ZaU
 (.ite (.s 14)
 (.seq ZaV
 .ret)
 .skip)))
 (.seq ZaW
 (.seq ZaX
 (.seq ZaY
 (.seq (.seq ZaZ
 (.ite (.s 19)
 (.seq Zaa
 .ret)
 .skip))
 (.seq (.seq Zab
 (.seq ZWi
 (.ite (.s 24)
 (.seq ZWj
 .ret)
 .skip)))
 (.seq ZWk
 .ret)))))))),
 [.s 4,.s 5]⟩
theorem Zgo:Zp Proofs.Tryz.prog false Zgn Proofs.Tryz.f73=some ZSC:=by kernel_rfl
def ZeO:List Hint:=[⟨[0,3,4,5],[2],[],[],[],[]⟩,H [4,5,6,7],H [4,5,6,7,18],⟨[4,5,6],[3],[],[],[],[]⟩,H [4,5,7,26],H [4,5,7,8,10],H [4,5,7,8,10,34],⟨[4,5,6],[3],[],[],[],[]⟩,H [4,5,7],H [4,5,6],H [4,5,6]]
def ZWl:PC :=
 (.reg [0,3,4,5] [I 3 (.box (.s 1)),I 4 (.box (.v ZR)),I 5 (.onil 1),I 6 (.mv (V 0))])
def ZWm:PC :=
 (.reg [4,5,6,7] [I 12 (.mv (.s 0)),I 13 (.ld true 7 (.s 3)),I 14 (C Y1 [(.s 12),(.s 13)]),I 11 (.mv (.s 14)),I 15 (.ext (.s 11) 0),I 16 (.ext (.s 11) 1),I 7 (.mv (.s 15)),I 6 (.mv (.s 16))])
def ZWn:PC :=
 (.reg [4,5,6,7,18] [I 17 (.mv (.s 6)),I 18 (.bin .neq (.s 17) (V 0))])
def ZWo:PC :=
 (.reg [4,5,6] [I 19 (.build [(.int .u64 0),(.int .i64 0),(.int .i64 0),(.int .i64 0),(.int .i64 0)] []),I 20 (.mv (.s 6)),J (.st 5 (.s 4) (.s 19)),I 5 (.onil 1),I 6 (.mv (.s 20))])
def ZWp:PC :=
 (.reg [4,5,7,26] [I 21 (.mv (.s 7)),I 22 (.nilck (.s 21)),I 23 (.fadr 1 (.s 22)),I 24 (.ld false 1 (.s 23)),I 25 (.len 1 (.s 24)),I 26 (.bin .gtr (.s 25) (V 0))])
def ZWq:PC :=
 (.reg [4,5,7,8,10] [I 28 (.mv (.s 7)),I 29 (C XZ [(.s 28)]),I 27 (.mv (.s 29)),I 30 (.ext (.s 27) 0),I 31 (.ext (.s 27) 1),I 32 (.ext (.s 27) 2),I 8 (.mv (.s 30)),I 9 (.mv (.s 31)),I 10 (.mv (.s 32))])
def ZWr:PC :=
 (.reg [4,5,7,8,10,34] [I 33 (.mv (.s 10)),I 34 (.bin .neq (.s 33) (V 0))])
def ZWs:PC :=
 (.reg [4,5,6] [I 35 (.build [(.int .u64 0),(.int .i64 0),(.int .i64 0),(.int .i64 0),(.int .i64 0)] []),I 36 (.mv (.s 10)),J (.st 5 (.s 4) (.s 35)),I 5 (.onil 1),I 6 (.mv (.s 36))])
def ZWt:PC :=
 (.reg [4,5,7] [I 37 (.mv (.s 5)),I 38 (.mv (.s 8)),I 39 (.bslice false 1 [(.int .u64 0)] [(0,(.s 38))]),I 40 (.app 1 8 (.s 37) (.s 39)),I 5 (.mv (.s 40))])
def ZWu:PC :=
 (.seq (.seq ZWp
 (.ite (.s 26)
 .skip
 (.exit 0)))
 (.block 1
 (.seq ZWq
 (.seq (.seq ZWr
 (.ite (.s 34)
 (.seq ZWs
 .ret)
 .skip))
 ZWt))))
def ZSa:PC :=
 (.reg [4,5,6] [I 42 (.mv (.s 7)),I 43 (C ZBH [(.s 42)]),I 41 (.mv (.s 43)),I 44 (.ext (.s 41) 0),I 45 (.ext (.s 41) 1),J (.st 5 (.s 4) (.s 44)),I 6 (.mv (.s 45))])
def ZSb:PC :=
 (.reg [4,5,6] [I 46 (.ld true 5 (.s 4)),I 47 (.mv (.s 5)),I 48 (.mv (.s 6)),J (.st 5 (.s 4) (.s 46)),I 5 (.mv (.s 47)),I 6 (.mv (.s 48))])
def ZNI:PF:=⟨false,
 (.seq ZWl
 (.seq ZWm
 (.seq (.seq ZWn
 (.ite (.s 18)
 (.seq ZWo
 .ret)
 .skip))
 (.seq (.block 0
 (.loop ZWu))
 (.seq ZSa
 (.seq ZSb
 .ret)))))),
 [.c 4 true 5,.s 5,.s 6]⟩
theorem ZeP:Zp Proofs.Tryz.prog false ZeO Proofs.Tryz.f74=some ZNI:=by kernel_rfl
def ZL8:List Hint:=[H [0,1],H [4]]
def ZJl:PC :=
 (.reg [0,1] [I 4 (.mv (V 0))])
def ZJm:PC :=
 (.reg [4] [I 5 (.mv (.s 0)),I 6 (.cint .u64 (.s 5)),I 7 (.mv (.s 1)),I 8 (.bin .add (.s 7) (V 1)),I 9 (.cint .u64 (.s 8)),I 10 (.bin .rem (.s 6) (.s 9)),I 11 (.cint .i64 (.s 10)),I 4 (.mv (.s 11))])
def ZC8:PF:=⟨false,
 (.seq ZJl
 (.seq ZJm
 .ret)),
 [.s 4]⟩
theorem ZL9:Zp Proofs.Tryz.prog false ZL8 Proofs.Tryz.f75=some ZC8:=by kernel_rfl
def Zgp:List Hint:=[H [0,3,4],H [0,3,4,8],H [4,5],H [0,3,4,12],H [4,5],H [0,3,4,16],H [4,5],H [3,4,6],H [3,4,6,27],H [4,5],H [4,5]]
def Zac:PC :=
 (.reg [0,3,4] [I 3 (.box (.s 1)),I 4 (.box (.v ZT)),I 5 (.mv (V 0))])
def Zad:PC :=
 (.reg [0,3,4,8] [I 7 (.mv (.s 0)),I 8 (.eqs false 3 [] (.s 7) (.v .nilptr))])
def Zae:PC :=
 (.reg [4,5] [I 9 (.build [(.int .u64 0),(.int .i64 0),(.int .i64 0),(.int .i64 0),(.int .i64 0),(.str []),.nils] []),J (.st 7 (.s 4) (.s 9)),I 5 (.mv (V 1))])
def Zaf:PC :=
 (.reg [0,3,4,12] [I 10 (.ld true 5 (.s 3)),I 11 (.build [(.int .u64 0),(.int .i64 0),(.int .i64 0),(.int .i64 0),(.int .i64 0)] []),I 12 (.eqs false 0 [(0,0),(1,0),(2,0),(3,0),(4,0)] (.s 10) (.s 11))])
def Zag:PC :=
 (.reg [4,5] [I 13 (.build [(.int .u64 0),(.int .i64 0),(.int .i64 0),(.int .i64 0),(.int .i64 0),(.str []),.nils] []),J (.st 7 (.s 4) (.s 13)),I 5 (.mv (V 0))])
def Zah:PC :=
 (.reg [0,3,4,16] [I 14 (.fadr 0 (.s 3)),I 15 (.ld false 1 (.s 14)),I 16 (.bin .eql (.s 15) (.v (.int .u64 0)))])
def Zai:PC :=
 (.reg [4,5] [I 17 (.build [(.int .u64 0),(.int .i64 0),(.int .i64 0),(.int .i64 0),(.int .i64 0),(.str []),.nils] []),J (.st 7 (.s 4) (.s 17)),I 5 (.mv (V 2))])
def Zaj:PC :=
 (.reg [3,4,6] [I 18 (.mv (.s 0)),I 19 (.fadr 0 (.s 3)),I 20 (.ld false 1 (.s 19)),I 21 (.fadr 1 (.s 3)),I 22 (.ld false 1 (.s 21)),I 23 (.fadr 2 (.s 3)),I 24 (.ld true 3 (.s 23)),I 25 (C ZDw [(.s 18),(.s 20),(.s 22),(.s 24)]),I 6 (.mv (.s 25))])
def Zak:PC :=
 (.reg [3,4,6,27] [I 26 (.mv (.s 6)),I 27 (.bin .neq (.s 26) (V 0))])
def Zal:PC :=
 (.reg [4,5] [I 28 (.build [(.int .u64 0),(.int .i64 0),(.int .i64 0),(.int .i64 0),(.int .i64 0),(.str []),.nils] []),I 29 (.mv (.s 6)),J (.st 7 (.s 4) (.s 28)),I 5 (.mv (.s 29))])
def ZWv:PC :=
 (.reg [4,5] [I 30 (.fadr 0 (.s 3)),I 31 (.ld false 1 (.s 30)),I 32 (.fadr 1 (.s 3)),I 33 (.ld false 1 (.s 32)),I 34 (.fadr 2 (.s 3)),I 35 (.ld true 3 (.s 34)),I 36 (.build [(.int .u64 0),(.int .i64 0),(.int .i64 0),(.int .i64 0),(.int .i64 0),(.str []),.nils] [(0,1,(.s 31)),(1,1,(.s 33)),(2,3,(.s 35))]),J (.st 7 (.s 4) (.s 36)),I 5 (.mv (V 0))])
def ZSD:PF:=⟨false,
 (.seq Zac
 (.seq (.seq Zad
 (.ite (.s 8)
 (.seq Zae
 .ret)
 .skip))
 (.seq (.seq Zaf
 (.ite (.s 12)
 (.seq Zag
 .ret)
 .skip))
 (.seq (.seq Zah
 (.ite (.s 16)
 (.seq Zai
 .ret)
 .skip))
 (.seq (.seq Zaj
 (.seq Zak
 (.ite (.s 27)
 (.seq Zal
 .ret)
 .skip)))
 (.seq ZWv
 .ret)))))),
 [.c 4 true 7,.s 5]⟩
theorem Zgq:Zp Proofs.Tryz.prog false Zgp Proofs.Tryz.f82=some ZSD:=by kernel_rfl
def ZJn:List Hint:=[H [0],H [0,7],H [2],H [0,3],H [3],H [3,4,5],H [3,4,5,25],H [3,4,5],H [3,4,5],H [2]]
def ZF7:PC :=
 (.reg [0] [I 2 (.mv (.v .nils))])
def ZF8:PC :=
 (.reg [0,7] [I 6 (.mv (.s 0)),I 7 (.eqs false 3 [] (.s 6) (.v .nilptr))])
def ZF9:PC :=
 (.reg [2] [I 2 (.mv (.v .nils))])
def ZGA:PC :=
 (.reg [0,3] [I 8 (.mv (.s 0)),I 9 (.nilck (.s 8)),I 10 (.fadr 0 (.s 9)),I 11 (.ld false 1 (.s 10)),I 12 (.len 1 (.s 11)),I 13 (.mkslice 1 8 (.int .i64 0) (.s 12) (.s 12)),I 3 (.mv (.s 13))])
def ZGB:PC :=
 (.reg [3] [I 14 (.mv (.s 3)),I 15 (.mv (.s 0)),I 16 (.nilck (.s 15)),I 17 (.fadr 0 (.s 16)),I 18 (.ld false 1 (.s 17)),I 19 (.cpy 1 (.s 14) (.s 18))])
def ZGC:PC :=
 (.reg [3,4,5] [I 20 (.mv (.s 3)),I 21 (.len 1 (.s 20)),I 22 (.bin .sub (.s 21) (V 1)),I 4 (.mv (V 0)),I 5 (.mv (.s 22))])
def ZGD:PC :=
 (.reg [3,4,5,25] [I 23 (.mv (.s 4)),I 24 (.mv (.s 5)),I 25 (.bin .lss (.s 23) (.s 24))])
def ZGE:PC :=
 (.reg [3,4,5] [I 30 (.mv (.s 3)),I 31 (.mv (.s 4)),I 32 (.mv (.s 3)),I 33 (.mv (.s 5)),I 34 (.mv (.s 3)),I 35 (.mv (.s 5)),I 36 (.ixS 1 (.s 34) (.s 35)),I 37 (.ld false 1 (.s 36)),I 38 (.mv (.s 3)),I 39 (.mv (.s 4)),I 40 (.ixS 1 (.s 38) (.s 39)),I 41 (.ld false 1 (.s 40)),I 42 (.ixS 1 (.s 30) (.s 31)),J (.st 1 (.s 42) (.s 37)),I 43 (.ixS 1 (.s 32) (.s 33)),J (.st 1 (.s 43) (.s 41))])
def ZGF:PC :=
 (.reg [3,4,5] [I 26 (.mv (.s 4)),I 27 (.bin .add (.s 26) (V 1)),I 28 (.mv (.s 5)),I 29 (.bin .sub (.s 28) (V 1)),I 4 (.mv (.s 27)),I 5 (.mv (.s 29))])
def ZGG:PC :=
 (.seq (.seq ZGD
 (.ite (.s 25)
 .skip
 (.exit 0)))
 (.seq (.block 1
 ZGE)
 ZGF))
def ZEb:PC :=
 (.reg [2] [I 44 (.mv (.s 3)),I 2 (.mv (.s 44))])
def ZA5:PF:=⟨false,
 (.seq ZF7
 (.seq (.seq ZF8
 (.ite (.s 7)
 (.seq ZF9
 .ret)
 .skip))
 (.seq ZGA
 (.seq ZGB
 (.seq (.seq ZGC
 (.block 0
 (.loop ZGG)))
 (.seq ZEb
 .ret)))))),
 [.s 2]⟩
theorem ZJo:Zp Proofs.Tryz.prog false ZJn Proofs.Tryz.f94=some ZA5:=by kernel_rfl
def ZDZ:List Hint:=[H [0],H [2]]
def ZCA:PC :=
 (.reg [0] [I 2 (.mv (.v .nils))])
def ZCB:PC :=
 (.reg [2] [I 3 (.mv (.s 0)),I 4 (C Ye [(.s 3),(.v (.int .u8 2))]),I 2 (.mv (.s 4))])
def XB:PF:=⟨false,
 (.seq ZCA
 (.seq ZCB
 .ret)),
 [.s 2]⟩
theorem ZDa:Zp Proofs.Tryz.prog false ZDZ Proofs.Tryz.f95=some XB:=by kernel_rfl
def ZKy:List Hint:=[H [1],H [1,3,4],H [1,3,15],H [0,1,2],H [1,3,4,5],⟨[0,1,2],[],[],[],[(6,(.hide [(.s 1)])),(10,(.plain (.s 1)))],[]⟩]
def ZH9:PC :=
 (.reg [1] [I 0 (.mv (.v .nilptr)),I 1 (.box (.v ZR)),I 2 (.mv (.v (.bool false)))])
def ZIA:PC :=
 (.reg [1,3,4] [I 7 (C ZDu [(V 8),(.v (.int .u64 4))]),I 6 (.mv (.s 7)),I 8 (.ext (.s 6) 0),I 9 (.ext (.s 6) 1),I 3 (.mv (.s 8)),I 4 (.mv (.s 9))])
def ZIB:PC :=
 (.reg [1,3,15] [I 10 (.mv (.s 3)),I 11 (.eqs false 3 [] (.s 10) (.v .nilptr)),I 12 (.mv (.s 11)),G 13 12 false (.mv (.s 4)),G 14 12 false (.bin .neq (.s 13) (V 0)),I 15 (.pick (.s 12) (.v (.bool true)) (.s 14))])
def ZIC:PC :=
 (.reg [0,1,2] [I 16 (.build [(.int .u64 0),(.int .i64 0),(.int .i64 0),(.int .i64 0),(.int .i64 0)] []),I 0 (.mv (.v .nilptr)),J (.st 5 (.s 1) (.s 16)),I 2 (.mv (.v (.bool false)))])
def ZID:PC :=
 (.reg [1,3,4,5] [I 18 (.mv (.s 3)),I 19 (C ZCY [(.s 18),(.v (.str [97,98,99,100,101,102,103,104,105,106,107,108,109,110,111,112,113]))]),I 17 (.mv (.s 19)),I 20 (.ext (.s 17) 0),I 21 (.ext (.s 17) 1),I 5 (.box (.v ZR)),J (.st 5 (.s 5) (.s 20)),I 4 (.mv (.s 21))])
def ZIE:PC :=
 (.reg [0,1,2] [I 22 (.mv (.s 3)),I 23 (.ld true 5 (.s 5)),I 24 (.mv (.s 4)),I 25 (.bin .eql (.s 24) (V 0)),I 26 (.mv (.s 25)),G 27 26 true (.fadr 0 (.s 5)),G 28 26 true (.w (.hide [(.s 1)]) (.ld false 1 (.s 27))),G 29 26 true (.bin .eql (.s 28) (.v (.int .u64 65538))),I 30 (.pick (.s 26) (.s 29) (.v (.bool false))),I 0 (.mv (.s 22)),J (.w (.plain (.s 1)) (.st 5 (.s 1) (.s 23))),I 2 (.mv (.s 30))])
def ZBl:PF:=⟨true,
 (.seq ZH9
 (.seq ZIA
 (.seq (.seq ZIB
 (.ite (.s 15)
 (.seq ZIC
 .ret)
 .skip))
 (.seq ZID
 (.seq ZIE
 .ret))))),
 [.s 0,.c 1 true 5,.s 2]⟩
theorem ZKz:Zp Proofs.Tryz.prog true ZKy Proofs.Tryz.f105=some ZBl:=by kernel_rfl
def ZWw:List Hint:=[H [0,3],H [6],H [4]]
def ZPc:PC :=
 (.reg [0,3] [I 3 (.box (.s 1)),I 4 (.mv (V 0))])
def ZPd:PC :=
 (.reg [6] [I 8 (.mv (.s 0)),I 9 (.ld true 5 (.s 3)),I 10 (C YW [(.s 8),(.s 9),(V 0)]),I 7 (.mv (.s 10)),I 11 (.ext (.s 7) 0),I 12 (.ext (.s 7) 1),I 5 (.mv (.s 11)),I 6 (.mv (.s 12))])
def ZPe:PC :=
 (.reg [4] [I 13 (.mv (.s 6)),I 4 (.mv (.s 13))])
def ZJp:PF:=⟨false,
 (.seq ZPc
 (.seq ZPd
 (.seq ZPe
 .ret))),
 [.s 4]⟩
theorem ZWx:Zp Proofs.Tryz.prog false ZWw Proofs.Tryz.f106=some ZJp:=by kernel_rfl
def ZK0:List Hint:=[H [0,1],H [0,1,18],H [0,1,5],H [0,1,40],H [0,1],H [0,1,60],H [0,1,6],H [0,1,6,75],H [4],H [0,1,7],H [0,1,7,92],H [4],H [0,1,7,8,9],H [0,1,8,9,97,98,99],H [0,1,8,9,97,98,99,100],H [0,1,8,9,11,97,98,99],H [0,1,8,9,11,97,98,99,109],H [0,1,12],H [0,1,12,121],H [4],H [0,1,9],H [0,1,8,9,97,98,99],H [0,1,8,9,97,98,99],H [0,1,130],H [4]]
def ZIF:PC :=
 (.reg [0,1] [I 4 (.mv (V 0))])
def ZIG:PC :=
 (.reg [0,1,18] [I 13 (.mv (.s 0)),I 14 (.nilck (.s 13)),I 15 (.fadr 6 (.s 14)),I 16 (.ld false 1 (.s 15)),I 17 (.len 1 (.s 16)),I 18 (.bin .gtr (.s 17) (V 0))])
def ZIH:PC :=
 (.reg [0,1,5] [I 19 (.mv (.s 0)),I 20 (.nilck (.s 19)),I 21 (.fadr 6 (.s 20)),I 22 (.ld false 1 (.s 21)),I 23 (.mv (.s 0)),I 24 (.nilck (.s 23)),I 25 (.fadr 6 (.s 24)),I 26 (.ld false 1 (.s 25)),I 27 (.len 1 (.s 26)),I 28 (.bin .sub (.s 27) (V 1)),I 29 (.ixS 5 (.s 22) (.s 28)),I 30 (.ld true 5 (.s 29)),I 5 (.box (.v (.agg [(.int .i64 0),(.str []),.nils,(.int .i64 0),(.int .i64 0)]))),J (.st 5 (.s 5) (.s 30))])
def ZII:PC :=
 (.reg [0,1,40] [I 31 (.mv (.s 1)),I 32 (.fadr 3 (.s 5)),I 33 (.ld false 1 (.s 32)),I 34 (.bin .geq (.s 31) (.s 33)),I 35 (.mv (.s 34)),G 36 35 true (.mv (.s 1)),G 37 35 true (.fadr 4 (.s 5)),G 38 35 true (.ld false 1 (.s 37)),G 39 35 true (.bin .lss (.s 36) (.s 38)),I 40 (.pick (.s 35) (.s 39) (.v (.bool false)))])
def ZIJ:PC :=
 (.reg [0,1] [I 41 (.mv (.s 0)),I 42 (.mv (.s 0)),I 43 (.nilck (.s 42)),I 44 (.fadr 6 (.s 43)),I 45 (.ld false 1 (.s 44)),I 46 (.mv (.s 0)),I 47 (.nilck (.s 46)),I 48 (.fadr 6 (.s 47)),I 49 (.ld false 1 (.s 48)),I 50 (.len 1 (.s 49)),I 51 (.bin .sub (.s 50) (V 1)),I 52 (.slc 5 (.s 45) none (some (.s 51))),I 53 (.nilck (.s 41)),I 54 (.fadr 6 (.s 53)),J (.st 1 (.s 54) (.s 52))])
def ZIK:PC :=
 (.seq (.seq ZIG
 (.ite (.s 18)
 .skip
 (.exit 0)))
 (.block 1
 (.seq ZIH
 (.seq (.seq ZII
 (.ite (.s 40)
 (.exit 0)
 .skip))
 ZIJ))))
def ZIL:PC :=
 (.reg [0,1,60] [I 55 (.mv (.s 0)),I 56 (.nilck (.s 55)),I 57 (.fadr 6 (.s 56)),I 58 (.ld false 1 (.s 57)),I 59 (.len 1 (.s 58)),I 60 (.bin .eql (.s 59) (V 0))])
def ZIM:PC :=
 (.reg [0,1,6] [I 61 (.mv (.s 0)),I 62 (.mv (.s 0)),I 63 (.nilck (.s 62)),I 64 (.fadr 1 (.s 63)),I 65 (.fadr 0 (.s 64)),I 66 (.ld false 1 (.s 65)),I 67 (.mv (.s 0)),I 68 (.nilck (.s 67)),I 69 (.fadr 1 (.s 68)),I 70 (.fadr 2 (.s 69)),I 71 (.fadr 0 (.s 70)),I 72 (.ld false 1 (.s 71)),I 73 (C Ji [(.s 61),(.s 66),(V 0),(.s 72)]),I 6 (.mv (.s 73))])
def ZIN:PC :=
 (.reg [0,1,6,75] [I 74 (.mv (.s 6)),I 75 (.bin .neq (.s 74) (V 0))])
def ZIO:PC :=
 (.reg [4] [I 76 (.mv (.s 6)),I 4 (.mv (.s 76))])
def ZGH:PC :=
 (.reg [0,1,7] [I 77 (.mv (.s 0)),I 78 (.nilck (.s 77)),I 79 (.fadr 6 (.s 78)),I 80 (.ld false 1 (.s 79)),I 81 (.mv (.s 0)),I 82 (.nilck (.s 81)),I 83 (.fadr 6 (.s 82)),I 84 (.ld false 1 (.s 83)),I 85 (.len 1 (.s 84)),I 86 (.bin .sub (.s 85) (V 1)),I 87 (.ixS 5 (.s 80) (.s 86)),I 88 (.ld true 5 (.s 87)),I 7 (.box (.v (.agg [(.int .i64 0),(.str []),.nils,(.int .i64 0),(.int .i64 0)]))),J (.st 5 (.s 7) (.s 88))])
def ZGI:PC :=
 (.reg [0,1,7,92] [I 89 (.fadr 0 (.s 7)),I 90 (.fadr 0 (.s 89)),I 91 (.ld false 1 (.s 90)),I 92 (.bin .eql (.s 91) (V 0))])
def ZGJ:PC :=
 (.reg [4] [I 4 (.mv (V 0))])
def ZGK:PC :=
 (.reg [0,1,7,8,9] [I 93 (.fadr 3 (.s 7)),I 94 (.ld false 1 (.s 93)),I 8 (.mv (.s 94)),I 9 (.mv (.v (.bool false)))])
def ZGL:PC :=
 (.reg [0,1,8,9,97,98,99] [I 95 (.fadr 0 (.s 7)),I 96 (.fadr 2 (.s 95)),I 97 (.ld false 1 (.s 96)),I 98 (.len 1 (.s 97)),I 99 (.mv (V 0))])
def ZGM:PC :=
 (.reg [0,1,8,9,97,98,99,100] [I 100 (.bin .lss (.s 99) (.s 98))])
def ZGN:PC :=
 (.reg [0,1,8,9,11,97,98,99] [I 101 (.ixS 4 (.s 97) (.s 99)),I 102 (.ld true 4 (.s 101)),I 11 (.box (.v ZK)),J (.st 4 (.s 11) (.s 102))])
def ZGO:PC :=
 (.reg [0,1,8,9,11,97,98,99,109] [I 103 (.mv (.s 1)),I 104 (.mv (.s 8)),I 105 (.fadr 1 (.s 11)),I 106 (.fadr 0 (.s 105)),I 107 (.ld false 1 (.s 106)),I 108 (.bin .add (.s 104) (.s 107)),I 109 (.bin .lss (.s 103) (.s 108))])
def ZGP:PC :=
 (.reg [0,1,12] [I 110 (.mv (.s 0)),I 111 (.fadr 0 (.s 11)),I 112 (.ld false 1 (.s 111)),I 113 (.mv (.s 8)),I 114 (.mv (.s 8)),I 115 (.fadr 1 (.s 11)),I 116 (.fadr 0 (.s 115)),I 117 (.ld false 1 (.s 116)),I 118 (.bin .add (.s 114) (.s 117)),I 119 (C Ji [(.s 110),(.s 112),(.s 113),(.s 118)]),I 12 (.mv (.s 119))])
def ZGQ:PC :=
 (.reg [0,1,12,121] [I 120 (.mv (.s 12)),I 121 (.bin .neq (.s 120) (V 0))])
def ZGR:PC :=
 (.reg [4] [I 122 (.mv (.s 12)),I 4 (.mv (.s 122))])
def ZGS:PC :=
 (.reg [0,1,9] [I 9 (.mv (.v (.bool true)))])
def ZGT:PC :=
 (.reg [0,1,8,9,97,98,99] [I 123 (.mv (.s 8)),I 124 (.fadr 1 (.s 11)),I 125 (.fadr 0 (.s 124)),I 126 (.ld false 1 (.s 125)),I 127 (.bin .add (.s 123) (.s 126)),I 8 (.mv (.s 127))])
def ZGU:PC :=
 (.reg [0,1,8,9,97,98,99] [I 128 (.bin .add (.s 99) (V 1)),I 99 (.mv (.s 128))])
def p_cursor_path_enter_24:PC :=
 (.seq ZGM
 (.seq (.ite (.s 100)
 .skip
 (.exit 4))
 (.seq (.block 5
 (.seq ZGN
 (.seq (.seq ZGO
 (.ite (.s 109)
 (.seq (.seq ZGP
 (.seq ZGQ
 (.ite (.s 121)
 (.seq ZGR
 .ret)
 .skip)))
 (.seq ZGS
 (.exit 4)))
 .skip))
 ZGT)))
 ZGU)))
def ZGV:PC :=
 (.reg [0,1,130] [I 129 (.mv (.s 9)),I 130 (.un .not (.s 129))])
def ZGW:PC :=
 (.reg [4] [I 4 (.mv (V 23))])
def p_cursor_path_enter_27:PC :=
 (.block 3
 (.seq ZGH
 (.seq (.seq ZGI
 (.ite (.s 92)
 (.seq ZGJ
 .ret)
 .skip))
 (.seq ZGK
 (.seq (.seq ZGL
 (.block 4
 (.loop p_cursor_path_enter_24)))
 (.seq ZGV
 (.ite (.s 130)
 (.seq ZGW
 .ret)
 .skip)))))))
def J8:PF:=⟨true,
 (.seq ZIF
 (.seq (.block 0
 (.loop ZIK))
 (.seq (.seq ZIL
 (.ite (.s 60)
 (.seq ZIM
 (.seq ZIN
 (.ite (.s 75)
 (.seq ZIO
 .ret)
 .skip)))
 .skip))
 (.block 2
 (.loop p_cursor_path_enter_27))))),
 [.s 4]⟩
theorem ZK1:Zp Proofs.Tryz.prog true ZK0 Proofs.Tryz.f107=some J8:=by kernel_rfl
def ZIP:List Hint:=[H [0],H [0,6],H [2],H [0,13],⟨[4],[],[(11,.inner)],[],[(15,(.here 15))],[15]⟩,H [30],H [2],H [2]]
def ZEc:PC :=
 (.reg [0] [I 2 (.mv (V 0))])
def ZEd:PC :=
 (.reg [0,6] [I 5 (.mv (.s 0)),I 6 (.eqs false 3 [] (.s 5) (.v .nilptr))])
def ZEe:PC :=
 (.reg [2] [I 2 (.mv (V 1))])
def ZEf:PC :=
 (.reg [0,13] [I 7 (.mv (.s 0)),I 8 (.nilck (.s 7)),I 9 (.fadr 0 (.s 8)),I 10 (.fadr 1 (.s 9)),I 11 (.fadr 0 (.s 10)),I 12 (.ld false 1 (.s 11)),I 13 (.bin .neq (.s 12) (.v (.int .u64 0)))])
def ZEg:PC :=
 (.regH [15] [4] [I 15 (.mv (.s 0)),I 16 (.nilck (.s 15)),I 17 (.fadr 0 (.s 16)),I 18 (.fadr 0 (.s 17)),I 19 (.ld false 1 (.s 18)),I 20 (.mv (.s 0)),I 21 (.nilck (.s 20)),I 22 (.fadr 0 (.s 21)),I 23 (.fadr 1 (.s 22)),I 24 (.fadr 0 (.s 23)),I 25 (.ld false 1 (.s 24)),I 26 (.call .inner (.v (.func (.func QV) [] [])) [(.s 19),(.s 25)]),I 14 (.mv (.s 26)),I 27 (.ext (.s 14) 0),I 28 (.ext (.s 14) 1),I 3 (.w (.here 15) (.box (.v ZN))),J (.st 3 (.s 3) (.s 27)),I 4 (.mv (.s 28))])
def ZEh:PC :=
 (.reg [30] [I 29 (.mv (.s 4)),I 30 (.bin .neq (.s 29) (V 0))])
def ZEi:PC :=
 (.reg [2] [I 2 (.mv (V 10))])
def ZEj:PC :=
 (.reg [2] [I 2 (.mv (V 0))])
def ZAR:PF:=⟨false,
 (.seq ZEc
 (.seq (.seq ZEd
 (.ite (.s 6)
 (.seq ZEe
 .ret)
 .skip))
 (.seq (.seq ZEf
 (.ite (.s 13)
 (.seq ZEg
 (.seq ZEh
 (.ite (.s 30)
 (.seq ZEi
 .ret)
 .skip)))
 .skip))
 (.seq ZEj
 .ret)))),
 [.s 2]⟩
theorem ZIQ:Zp Proofs.Tryz.prog false ZIP Proofs.Tryz.f108=some ZAR:=by kernel_rfl
def ZEk:List Hint:=[H [0,1],⟨[0,1,6],[0],[],[],[],[]⟩,H [0,1,6,7],H [0,1,6,7,25],H [0,1,6,7,8,9,10],H [0,1,6,7,8,9,39],H [0,1,6,7,11],H [0,1,6,7,11,49],H [4,5],H [0,1,6,7,8,9,59],H [4,5],H [0,1,6,7,12],H [0,1,6,7,12,73],H [0,1,6,7],H [0,1,6,7],H [4,5]]
def ZDb:PC :=
 (.reg [0,1] [I 4 (.mv (.v (.str []))),I 5 (.mv (V 0))])
def ZDc:PC :=
 (.reg [0,1,6] [I 6 (.boxnil 1)])
def ZDd:PC :=
 (.reg [0,1,6,7] [I 13 (.mkf (.func QE) [] [(.s 6)]),I 7 (.mv (.s 13))])
def ZDe:PC :=
 (.reg [0,1,6,7,25] [I 14 (.mv (.s 0)),I 15 (.nilck (.s 14)),I 16 (.fadr 8 (.s 15)),I 17 (.ld false 1 (.s 16)),I 18 (.mv (.s 0)),I 19 (.nilck (.s 18)),I 20 (.fadr 0 (.s 19)),I 21 (.fadr 1 (.s 20)),I 22 (.fadr 2 (.s 21)),I 23 (.fadr 0 (.s 22)),I 24 (.ld false 1 (.s 23)),I 25 (.bin .lss (.s 17) (.s 24))])
def ZDf:PC :=
 (.reg [0,1,6,7,8,9,10] [I 27 (.mv (.s 0)),I 28 (.nilck (.s 27)),I 29 (.fadr 0 (.s 28)),I 30 (C Xn [(.s 29)]),I 26 (.mv (.s 30)),I 31 (.ext (.s 26) 0),I 32 (.ext (.s 26) 1),I 33 (.ext (.s 26) 2),I 8 (.mv (.s 31)),I 9 (.mv (.s 32)),I 10 (.mv (.s 33))])
def ZDg:PC :=
 (.reg [0,1,6,7,8,9,39] [I 34 (.mv (.s 0)),I 35 (.nilck (.s 34)),I 36 (.fadr 8 (.s 35)),I 37 (.ld false 1 (.s 36)),I 38 (.mv (.s 10)),I 39 (.bin .geq (.s 37) (.s 38))])
def ZDh:PC :=
 (.reg [0,1,6,7,11] [I 40 (.mv (.s 0)),I 41 (.nilck (.s 40)),I 42 (.fadr 0 (.s 41)),I 43 (.mv (.s 0)),I 44 (.nilck (.s 43)),I 45 (.fadr 8 (.s 44)),I 46 (.ld false 1 (.s 45)),I 47 (C Qb [(.s 42),(.s 46)]),I 11 (.mv (.s 47))])
def ZDi:PC :=
 (.reg [0,1,6,7,11,49] [I 48 (.mv (.s 11)),I 49 (.bin .neq (.s 48) (V 0))])
def ZDj:PC :=
 (.reg [4,5] [I 50 (.mv (.s 11)),I 4 (.mv (.v (.str []))),I 5 (.mv (.s 50))])
def ZDk:PC :=
 (.reg [0,1,6,7,8,9,59] [I 51 (.mv (.s 0)),I 52 (.nilck (.s 51)),I 53 (.fadr 8 (.s 52)),I 54 (.ld false 1 (.s 53)),I 55 (.mv (.s 9)),I 56 (.bin .sub (.s 54) (.s 55)),I 57 (.mv (.s 8)),I 58 (.len 0 (.s 57)),I 59 (.bin .geq (.s 56) (.s 58))])
def ZC9:PC :=
 (.reg [4,5] [I 4 (.mv (.v (.str []))),I 5 (.mv (V 23))])
def ZDA:PC :=
 (.reg [0,1,6,7,12] [I 60 (.mv (.s 8)),I 61 (.mv (.s 0)),I 62 (.nilck (.s 61)),I 63 (.fadr 8 (.s 62)),I 64 (.ld false 1 (.s 63)),I 65 (.mv (.s 9)),I 66 (.bin .sub (.s 64) (.s 65)),I 67 (.ixStr (.s 60) (.s 66)),I 12 (.mv (.s 67))])
def ZDB:PC :=
 (.reg [0,1,6,7,12,73] [I 68 (.mv (.s 1)),I 69 (.ld false 1 (.s 6)),I 70 (.len 1 (.s 69)),I 71 (.mv (.s 12)),I 72 (.call .norm (.s 68) [(.s 70),(.s 71)]),I 73 (.un .not (.s 72))])
def ZDC:PC :=
 (.reg [0,1,6,7] [I 74 (.mv (.s 7)),I 75 (.mv (.s 12)),I 76 (.call .norm (.s 74) [(.s 75)])])
def ZDD:PC :=
 (.reg [0,1,6,7] [I 77 (.mv (.s 0)),I 78 (.nilck (.s 77)),I 79 (.fadr 8 (.s 78)),I 80 (.ld false 1 (.s 79)),I 81 (.bin .add (.s 80) (V 1)),I 82 (.nilck (.s 77)),I 83 (.fadr 8 (.s 82)),J (.st 1 (.s 83) (.s 81))])
def ZDE:PC :=
 (.seq (.seq ZDe
 (.ite (.s 25)
 .skip
 (.exit 0)))
 (.block 1
 (.seq ZDf
 (.seq (.seq ZDg
 (.ite (.s 39)
 (.seq (.seq ZDh
 (.seq ZDi
 (.ite (.s 49)
 (.seq ZDj
 .ret)
 .skip)))
 (.exit 1))
 .skip))
 (.seq (.seq ZDk
 (.ite (.s 59)
 (.seq ZC9
 .ret)
 .skip))
 (.seq ZDA
 (.seq (.seq ZDB
 (.ite (.s 73)
 (.exit 0)
 .skip))
 (.seq ZDC
 ZDD))))))))
def ZDF:PC :=
 (.reg [4,5] [I 84 (.ld false 1 (.s 6)),I 85 (.b2s (.s 84)),I 4 (.mv (.s 85)),I 5 (.mv (V 0))])
def YD:PF:=⟨false,
 (.seq ZDb
 (.seq ZDc
 (.seq ZDd
 (.seq (.block 0
 (.loop ZDE))
 (.seq ZDF
 .ret))))),
 [.s 4,.s 5]⟩
theorem ZEl:Zp Proofs.Tryz.prog false ZEk Proofs.Tryz.f109=some YD:=by kernel_rfl
def ZNJ:List Hint:=[H [0,1,4],H [0,1,4,9],H [4,5],H [0,4,6,7],H [0,4,6,21],H [4],H [4,5],H [4,6],H [4,5]]
def ZK2:PC :=
 (.reg [0,1,4] [I 4 (.box (.v ZN)),I 5 (.mv (V 0))])
def ZK3:PC :=
 (.reg [0,1,4,9] [I 8 (.mv (.s 0)),I 9 (.eqs false 3 [] (.s 8) (.v .nilptr))])
def ZK4:PC :=
 (.reg [4,5] [I 10 (.build [(.int .i64 0),(.str []),.nils] []),J (.st 3 (.s 4) (.s 10)),I 5 (.mv (V 1))])
def ZK5:PC :=
 (.reg [0,4,6,7] [I 12 (.mv (.s 0)),I 13 (.nilck (.s 12)),I 14 (.fadr 2 (.s 13)),I 15 (.ld false 1 (.s 14)),I 16 (.mv (.s 1)),I 17 (.look 0 ZN true (.s 15) (.s 16)),I 11 (.mv (.s 17)),I 18 (.ext (.s 11) 0),I 19 (.ext (.s 11) 1),I 6 (.box (.v ZN)),J (.st 3 (.s 6) (.s 18)),I 7 (.mv (.s 19))])
def ZK6:PC :=
 (.reg [0,4,6,21] [I 20 (.mv (.s 7)),I 21 (.un .not (.s 20))])
def ZK7:PC :=
 (.reg [4] [I 22 (.mv (.s 0)),I 23 (.nilck (.s 22)),I 24 (.fadr 5 (.s 23)),I 25 (.ld false 1 (.s 24)),I 26 (.bin .add (.s 25) (V 1)),I 27 (.nilck (.s 22)),I 28 (.fadr 5 (.s 27)),J (.st 1 (.s 28) (.s 26))])
def ZK8:PC :=
 (.reg [4,5] [I 29 (.build [(.int .i64 0),(.str []),.nils] []),J (.st 3 (.s 4) (.s 29)),I 5 (.mv (V 10))])
def ZK9:PC :=
 (.reg [4,6] [I 30 (.fadr 2 (.s 6)),I 31 (.ld false 1 (.s 30)),I 32 (C Z9 [(.s 31)]),I 33 (.fadr 2 (.s 6)),J (.st 1 (.s 33) (.s 32))])
def ZLA:PC :=
 (.reg [4,5] [I 34 (.ld true 3 (.s 6)),J (.st 3 (.s 4) (.s 34)),I 5 (.mv (V 0))])
def ZD0:PF:=⟨false,
 (.seq ZK2
 (.seq (.seq ZK3
 (.ite (.s 9)
 (.seq ZK4
 .ret)
 .skip))
 (.seq ZK5
 (.seq (.seq ZK6
 (.ite (.s 21)
 (.seq ZK7
 (.seq ZK8
 .ret))
 .skip))
 (.seq ZK9
 (.seq ZLA
 .ret)))))),
 [.c 4 true 3,.s 5]⟩
theorem ZNK:Zp Proofs.Tryz.prog false ZNJ Proofs.Tryz.f111=some ZD0:=by kernel_rfl
def ZJq:List Hint:=[H [0,1],H [0,1],H [0,1,15],H [4],H [4]]
def ZGX:PC :=
 (.reg [0,1] [I 4 (.mv (V 0))])
def ZGY:PC :=
 (.reg [0,1] [I 5 (.mv (.s 0)),I 6 (.mv (.s 1)),I 7 (.nilck (.s 5)),I 8 (.fadr 8 (.s 7)),J (.st 1 (.s 8) (.s 6))])
def ZGZ:PC :=
 (.reg [0,1,15] [I 9 (.mv (.s 0)),I 10 (.nilck (.s 9)),I 11 (.fadr 0 (.s 10)),I 12 (.fadr 1 (.s 11)),I 13 (.fadr 0 (.s 12)),I 14 (.ld false 1 (.s 13)),I 15 (.bin .eql (.s 14) (.v (.int .u64 0)))])
def ZGa:PC :=
 (.reg [4] [I 4 (.mv (V 0))])
def ZGb:PC :=
 (.reg [4] [I 16 (.mv (.s 0)),I 17 (.nilck (.s 16)),I 18 (.fadr 0 (.s 17)),I 19 (.mv (.s 0)),I 20 (.nilck (.s 19)),I 21 (.fadr 0 (.s 20)),I 22 (.mv (.s 1)),I 23 (C Yr [(.s 21),(.s 22)]),I 24 (C Qb [(.s 18),(.s 23)]),I 4 (.mv (.s 24))])
def Yt:PF:=⟨false,
 (.seq ZGX
 (.seq ZGY
 (.seq (.seq ZGZ
 (.ite (.s 15)
 (.seq ZGa
 .ret)
 .skip))
 (.seq ZGb
 .ret)))),
 [.s 4]⟩
theorem ZJr:Zp Proofs.Tryz.prog false ZJq Proofs.Tryz.f112=some Yt:=by kernel_rfl
def Zam:List Hint:=[H [0,2,4,6,8],H [0,2,4,6,8,12],H [0,2,4,6,8,12,21],H [10,11],H [0,2,4,6,8,31],H [10,11],H [0,2,4,6,8,36],H [10,11],H [0,2,4,6,8,13],H [4,13,14,15],H [4,13,14,15,50],H [10,11],H [13,15,16],H [13,15,16,62],H [10,11],H [10,11]]
def ZSc:PC :=
 (.reg [0,2,4,6,8] [I 6 (.box (.s 1)),I 8 (.box (.s 3)),I 10 (.mv (V 0)),I 11 (.mv (V 0))])
def ZSd:PC :=
 (.reg [0,2,4,6,8,12] [I 17 (.mv (.s 0)),I 18 (.ld true 5 (.s 6)),I 19 (C Y0 [(.s 17),(.s 18)]),I 12 (.mv (.s 19))])
def ZSe:PC :=
 (.reg [0,2,4,6,8,12,21] [I 20 (.mv (.s 12)),I 21 (.bin .neq (.s 20) (V 0))])
def ZSf:PC :=
 (.reg [10,11] [I 22 (.mv (.s 12)),I 10 (.mv (V 0)),I 11 (.mv (.s 22))])
def ZSg:PC :=
 (.reg [0,2,4,6,8,31] [I 23 (.mv (.s 2)),I 24 (.bin .lss (.s 23) (V 0)),I 25 (.mv (.s 24)),G 26 25 false (.mv (.s 2)),G 27 25 false (.fadr 2 (.s 6)),G 28 25 false (.fadr 0 (.s 27)),G 29 25 false (.ld false 1 (.s 28)),G 30 25 false (.bin .gtr (.s 26) (.s 29)),I 31 (.pick (.s 25) (.v (.bool true)) (.s 30))])
def ZSh:PC :=
 (.reg [10,11] [I 10 (.mv (V 0)),I 11 (.mv (V 3))])
def ZSi:PC :=
 (.reg [0,2,4,6,8,36] [I 32 (.mv (.s 2)),I 33 (.fadr 2 (.s 6)),I 34 (.fadr 0 (.s 33)),I 35 (.ld false 1 (.s 34)),I 36 (.bin .eql (.s 32) (.s 35))])
def ZSj:PC :=
 (.reg [10,11] [I 37 (.ld false 1 (.s 8)),I 38 (.fadr 2 (.s 6)),I 39 (.ld true 3 (.s 38)),I 40 (.call .norm (.s 37) [(.s 39)]),I 10 (.mv (.s 40)),I 11 (.mv (V 0))])
def ZSk:PC :=
 (.reg [0,2,4,6,8,13] [I 13 (.box (V 0)),J (.st 1 (.s 13) (V 0))])
def ZSl:PC :=
 (.reg [4,13,14,15] [I 42 (.mv (.s 0)),I 43 (.ld true 5 (.s 6)),I 44 (.mv (.s 2)),I 45 (.mkf (.func Xa) [] [(.s 13),(.s 8)]),I 46 (C ZA1 [(.s 42),(.s 43),(.s 44),(.v (.func (.func X8) [] [])),(.s 45)]),I 41 (.mv (.s 46)),I 47 (.ext (.s 41) 0),I 48 (.ext (.s 41) 1),I 14 (.box (.v (.agg [(.str []),(.int .i64 0),.nils]))),J (.st 3 (.s 14) (.s 47)),I 15 (.mv (.s 48))])
def ZPf:PC :=
 (.reg [4,13,14,15,50] [I 49 (.mv (.s 15)),I 50 (.bin .neq (.s 49) (V 0))])
def ZPg:PC :=
 (.reg [10,11] [I 51 (.mv (.s 15)),I 10 (.mv (V 0)),I 11 (.mv (.s 51))])
def ZPh:PC :=
 (.reg [13,15,16] [I 53 (.mv (.s 4)),I 54 (.fadr 0 (.s 14)),I 55 (.ld false 1 (.s 54)),I 56 (.fadr 1 (.s 14)),I 57 (.ld false 1 (.s 56)),I 58 (.call .norm (.s 53) [(.s 55),(.s 57)]),I 52 (.mv (.s 58)),I 59 (.ext (.s 52) 0),I 60 (.ext (.s 52) 1),I 16 (.mv (.s 59)),I 15 (.mv (.s 60))])
def ZPi:PC :=
 (.reg [13,15,16,62] [I 61 (.mv (.s 15)),I 62 (.bin .neq (.s 61) (V 0))])
def ZPj:PC :=
 (.reg [10,11] [I 63 (.mv (.s 15)),I 10 (.mv (V 0)),I 11 (.mv (.s 63))])
def ZPk:PC :=
 (.reg [10,11] [I 64 (.ld false 1 (.s 13)),I 65 (.mv (.s 16)),I 66 (.bin .add (.s 64) (.s 65)),I 10 (.mv (.s 66)),I 11 (.mv (V 0))])
def ZLL:PF:=⟨false,
 (.seq ZSc
 (.seq (.seq ZSd
 (.seq ZSe
 (.ite (.s 21)
 (.seq ZSf
 .ret)
 .skip)))
 (.seq (.seq ZSg
 (.ite (.s 31)
 (.seq ZSh
 .ret)
 .skip))
 (.seq (.seq ZSi
 (.ite (.s 36)
 (.seq ZSj
 .ret)
 .skip))
 (.seq ZSk
 (.seq ZSl
 (.seq (.seq ZPf
 (.ite (.s 50)
 (.seq ZPg
 .ret)
 .skip))
 (.seq ZPh
 (.seq (.seq ZPi
 (.ite (.s 62)
 (.seq ZPj
 .ret)
 .skip))
 (.seq ZPk
 .ret)))))))))),
 [.s 10,.s 11]⟩
theorem Zan:Zp Proofs.Tryz.prog false Zam Proofs.Tryz.f113=some ZLL:=by kernel_rfl
def ZSm:List Hint:=[H [1],H [2]]
def ZNL:PC :=
 (.reg [1] [I 1 (.box (.s 0)),I 2 (.mv (V 0))])
def ZNM:PC :=
 (.reg [2] [I 3 (.fadr 2 (.s 1)),I 4 (.ld false 1 (.s 3)),I 2 (.mv (.s 4))])
def ZHE:PF:=⟨false,
 (.seq ZNL
 (.seq ZNM
 .ret)),
 [.s 2]⟩
theorem ZSn:Zp Proofs.Tryz.prog false ZSm Proofs.Tryz.f114=some ZHE:=by kernel_rfl
def ZPl:List Hint:=[H [0,1],H [4,5]]
def ZMA:PC :=
 (.reg [0,1] [I 4 (.mv (V 0)),I 5 (.mv (V 0))])
def ZMB:PC :=
 (.reg [4,5] [I 6 (.mv (.s 0)),I 7 (.mv (.s 1)),I 8 (C ZAh [(.s 6),(.s 7),(.v (.func (.func J0) [] []))]),I 9 (.ext (.s 8) 0),I 10 (.ext (.s 8) 1),I 4 (.mv (.s 9)),I 5 (.mv (.s 10))])
def ZEm:PF:=⟨false,
 (.seq ZMA
 (.seq ZMB
 .ret)),
 [.s 4,.s 5]⟩
theorem ZPm:Zp Proofs.Tryz.prog false ZPl Proofs.Tryz.f115=some ZEm:=by kernel_rfl
def ZeQ:List Hint:=[H [0,3],H [0,3,9],H [4],H [0,3,12],H [4],H [0,3,15],H [4],H [3,5,6],H [3,5,6,24],H [4],H [3,5,6,7],H [45],H [4],H [4]]
def ZWy:PC :=
 (.reg [0,3] [I 3 (.box (.s 1)),I 4 (.mv (V 0))])
def ZWz:PC :=
 (.reg [0,3,9] [I 8 (.mv (.s 0)),I 9 (.eqs false 3 [] (.s 8) (.v .nilptr))])
def ZW0:PC :=
 (.reg [4] [I 4 (.mv (V 1))])
def ZW1:PC :=
 (.reg [0,3,12] [I 10 (.ld true 5 (.s 3)),I 11 (.build [(.int .u64 0),(.int .i64 0),(.int .i64 0),(.int .i64 0),(.int .i64 0)] []),I 12 (.eqs false 0 [(0,0),(1,0),(2,0),(3,0),(4,0)] (.s 10) (.s 11))])
def ZW2:PC :=
 (.reg [4] [I 4 (.mv (V 0))])
def ZW3:PC :=
 (.reg [0,3,15] [I 13 (.fadr 0 (.s 3)),I 14 (.ld false 1 (.s 13)),I 15 (.bin .eql (.s 14) (.v (.int .u64 0)))])
def ZW4:PC :=
 (.reg [4] [I 4 (.mv (V 2))])
def ZW5:PC :=
 (.reg [3,5,6] [I 17 (.mv (.s 0)),I 18 (.fadr 0 (.s 3)),I 19 (.ld false 1 (.s 18)),I 20 (C QV [(.s 17),(.s 19)]),I 16 (.mv (.s 20)),I 21 (.ext (.s 16) 0),I 22 (.ext (.s 16) 1),I 5 (.box (.v ZN)),J (.st 3 (.s 5) (.s 21)),I 6 (.mv (.s 22))])
def ZW6:PC :=
 (.reg [3,5,6,24] [I 23 (.mv (.s 6)),I 24 (.bin .neq (.s 23) (V 0))])
def ZW7:PC :=
 (.reg [4] [I 25 (.mv (.s 6)),I 4 (.mv (.s 25))])
def ZSo:PC :=
 (.reg [3,5,6,7] [I 27 (.ld true 3 (.s 5)),I 28 (C YC [(.s 27)]),I 26 (.mv (.s 28)),I 29 (.ext (.s 26) 0),I 30 (.ext (.s 26) 1),I 7 (.box (.v ZM)),J (.st 3 (.s 7) (.s 29)),I 6 (.mv (.s 30))])
def ZSp:PC :=
 (.reg [45] [I 31 (.mv (.s 6)),I 32 (.bin .neq (.s 31) (V 0)),I 33 (.mv (.s 32)),G 34 33 false (.fadr 0 (.s 5)),G 35 33 false (.ld false 1 (.s 34)),G 36 33 false (.fadr 1 (.s 3)),G 37 33 false (.ld false 1 (.s 36)),G 38 33 false (.bin .neq (.s 35) (.s 37)),I 39 (.pick (.s 33) (.v (.bool true)) (.s 38)),I 40 (.mv (.s 39)),G 41 40 false (.ld true 3 (.s 7)),G 42 40 false (.fadr 2 (.s 3)),G 43 40 false (.ld true 3 (.s 42)),G 44 40 false (.eqs true 0 [(0,0),(1,0),(2,0)] (.s 41) (.s 43)),I 45 (.pick (.s 40) (.v (.bool true)) (.s 44))])
def ZSq:PC :=
 (.reg [4] [I 4 (.mv (V 23))])
def ZSr:PC :=
 (.reg [4] [I 4 (.mv (V 0))])
def ZNN:PF:=⟨false,
 (.seq ZWy
 (.seq (.seq ZWz
 (.ite (.s 9)
 (.seq ZW0
 .ret)
 .skip))
 (.seq (.seq ZW1
 (.ite (.s 12)
 (.seq ZW2
 .ret)
 .skip))
 (.seq (.seq ZW3
 (.ite (.s 15)
 (.seq ZW4
 .ret)
 .skip))
 (.seq ZW5
 (.seq (.seq ZW6
 (.ite (.s 24)
 (.seq ZW7
 .ret)
 .skip))
 (.seq ZSo
 (.seq (.seq ZSp
 (.ite (.s 45)
 (.seq ZSq
 .ret)
 .skip))
 (.seq ZSr
 .ret))))))))),
 [.s 4]⟩
theorem ZeR:Zp Proofs.Tryz.prog false ZeQ Proofs.Tryz.f116=some ZNN:=by kernel_rfl
def Zao:List Hint:=[H [0,2,3,4,6],H [0,2,3,4,6,12],H [4,12,13,14],H [4,12,13,14,26],H [10,11],H [12,14,15],H [12,14,15,38],H [10,11],H [10,11]]
def ZSs:PC :=
 (.reg [0,2,3,4,6] [I 6 (.box (.s 1)),I 10 (.mv (V 0)),I 11 (.mv (V 0))])
def ZSt:PC :=
 (.reg [0,2,3,4,6,12] [I 12 (.box (V 0)),J (.st 1 (.s 12) (V 0))])
def ZSu:PC :=
 (.reg [4,12,13,14] [I 17 (.mv (.s 0)),I 18 (.ld true 5 (.s 6)),I 19 (.mv (.s 2)),I 20 (.mv (.s 3)),I 21 (.mkf (.func Xb) [] [(.s 12)]),I 22 (C ZA1 [(.s 17),(.s 18),(.s 19),(.s 20),(.s 21)]),I 16 (.mv (.s 22)),I 23 (.ext (.s 16) 0),I 24 (.ext (.s 16) 1),I 13 (.box (.v (.agg [(.str []),(.int .i64 0),.nils]))),J (.st 3 (.s 13) (.s 23)),I 14 (.mv (.s 24))])
def ZSv:PC :=
 (.reg [4,12,13,14,26] [I 25 (.mv (.s 14)),I 26 (.bin .neq (.s 25) (V 0))])
def ZSw:PC :=
 (.reg [10,11] [I 27 (.mv (.s 14)),I 10 (.mv (V 0)),I 11 (.mv (.s 27))])
def ZSx:PC :=
 (.reg [12,14,15] [I 29 (.mv (.s 4)),I 30 (.fadr 0 (.s 13)),I 31 (.ld false 1 (.s 30)),I 32 (.fadr 1 (.s 13)),I 33 (.ld false 1 (.s 32)),I 34 (.call .norm (.s 29) [(.s 31),(.s 33)]),I 28 (.mv (.s 34)),I 35 (.ext (.s 28) 0),I 36 (.ext (.s 28) 1),I 15 (.mv (.s 35)),I 14 (.mv (.s 36))])
def ZSy:PC :=
 (.reg [12,14,15,38] [I 37 (.mv (.s 14)),I 38 (.bin .neq (.s 37) (V 0))])
def ZSz:PC :=
 (.reg [10,11] [I 39 (.mv (.s 14)),I 10 (.mv (V 0)),I 11 (.mv (.s 39))])
def ZS0:PC :=
 (.reg [10,11] [I 40 (.ld false 1 (.s 12)),I 41 (.mv (.s 15)),I 42 (.bin .add (.s 40) (.s 41)),I 10 (.mv (.s 42)),I 11 (.mv (V 0))])
def ZLM:PF:=⟨false,
 (.seq ZSs
 (.seq ZSt
 (.seq ZSu
 (.seq (.seq ZSv
 (.ite (.s 26)
 (.seq ZSw
 .ret)
 .skip))
 (.seq ZSx
 (.seq (.seq ZSy
 (.ite (.s 38)
 (.seq ZSz
 .ret)
 .skip))
 (.seq ZS0
 .ret))))))),
 [.s 10,.s 11]⟩
theorem Zap:Zp Proofs.Tryz.prog false Zao Proofs.Tryz.f117=some ZLM:=by kernel_rfl
def Zgr:List Hint:=[H [1,2],H [1,2,11],H [9],H [9,19],H [4,5,6],H [4,5,6],H [4,5,6],H [4,5,6,30],H [4,5,6],H [4,5,6]]
def Zaq:PC :=
 (.reg [1,2] [I 2 (.box (.s 0)),I 4 (.mv (V 0)),I 5 (.mv (V 0)),I 6 (.mv (V 0))])
def Zar:PC :=
 (.reg [1,2,11] [I 10 (.mv (.s 1)),I 11 (.bin .lss (.s 10) (V 1))])
def Zas:PC :=
 (.reg [9] [I 13 (.ld true 3 (.s 2)),I 14 (C XP [(.s 13),(V 0),(.v (.func (.func ZLH) [] []))]),I 12 (.mv (.s 14)),I 15 (.ext (.s 12) 0),I 16 (.ext (.s 12) 1),I 17 (.ext (.s 12) 2),I 7 (.mv (.s 15)),I 8 (.mv (.s 16)),I 9 (.mv (.s 17))])
def Zat:PC :=
 (.reg [9,19] [I 18 (.mv (.s 9)),I 19 (.bin .neq (.s 18) (V 0))])
def Zau:PC :=
 (.reg [4,5,6] [I 20 (.mv (.s 9)),I 4 (.mv (V 0)),I 5 (.mv (V 0)),I 6 (.mv (.s 20))])
def Zav:PC :=
 (.reg [4,5,6] [I 4 (.mv (V 0)),I 5 (.mv (V 0)),I 6 (.mv (V 3))])
def Zaw:PC :=
 (.reg [4,5,6] [I 22 (.ld true 3 (.s 2)),I 23 (.mv (.s 1)),I 24 (.bin .sub (.s 23) (V 1)),I 25 (C XP [(.s 22),(.s 24),(.v (.func (.func ZED) [] []))]),I 21 (.mv (.s 25)),I 26 (.ext (.s 21) 0),I 27 (.ext (.s 21) 1),I 28 (.ext (.s 21) 2),I 4 (.mv (.s 26)),I 5 (.mv (.s 27)),I 6 (.mv (.s 28))])
def Zax:PC :=
 (.reg [4,5,6,30] [I 29 (.mv (.s 6)),I 30 (.bin .neq (.s 29) (V 0))])
def Zay:PC :=
 (.reg [4,5,6] [I 31 (.mv (.s 6)),I 4 (.mv (V 0)),I 5 (.mv (V 0)),I 6 (.mv (.s 31))])
def Zaz:PC :=
 (.reg [4,5,6] [I 32 (.mv (.s 4)),I 33 (.mv (.s 5)),I 34 (.bin .add (.s 33) (V 1)),I 4 (.mv (.s 32)),I 5 (.mv (.s 34)),I 6 (.mv (V 0))])
def ZSE:PF:=⟨false,
 (.seq Zaq
 (.seq (.seq Zar
 (.ite (.s 11)
 (.seq (.seq Zas
 (.seq Zat
 (.ite (.s 19)
 (.seq Zau
 .ret)
 .skip)))
 (.seq Zav
 .ret))
 .skip))
 (.seq Zaw
 (.seq (.seq Zax
 (.ite (.s 30)
 (.seq Zay
 .ret)
 .skip))
 (.seq Zaz
 .ret))))),
 [.s 4,.s 5,.s 6]⟩
theorem Zgs:Zp Proofs.Tryz.prog false Zgr Proofs.Tryz.f118=some ZSE:=by kernel_rfl
def ZW8:List Hint:=[H [0,1],H [0,1,9],H [4,5],H [0,1,11],H [6,7],H [6,19],H [4,5],H [4,5]]
def ZPn:PC :=
 (.reg [0,1] [I 4 (.mv (V 0)),I 5 (.mv (V 0))])
def ZPo:PC :=
 (.reg [0,1,9] [I 8 (.mv (.s 1)),I 9 (.bin .eql (.s 8) (V 0))])
def ZPp:PC :=
 (.reg [4,5] [I 4 (.mv (V 0)),I 5 (.mv (V 0))])
def ZPq:PC :=
 (.reg [0,1,11] [I 10 (.mv (.s 1)),I 11 (.bin .gtr (.s 10) (V 0))])
def ZPr:PC :=
 (.reg [6,7] [I 13 (.mv (.s 0)),I 14 (.mv (.s 1)),I 15 (.bin .sub (.s 14) (V 1)),I 16 (C ZCd [(.s 13),(.v (.func (.func J0) [] [])),(.s 15)]),I 12 (.mv (.s 16)),I 17 (.ext (.s 12) 0),I 18 (.ext (.s 12) 1),I 6 (.mv (.s 17)),I 7 (.mv (.s 18))])
def ZPs:PC :=
 (.reg [6,19] [I 19 (.mv (.s 7))])
def ZPt:PC :=
 (.reg [4,5] [I 20 (.mv (.s 6)),I 21 (.bin .add (.s 20) (V 1)),I 4 (.mv (.s 21)),I 5 (.mv (V 0))])
def ZPu:PC :=
 (.reg [4,5] [I 4 (.mv (V 0)),I 5 (.mv (V 3))])
def ZJs:PF:=⟨false,
 (.seq ZPn
 (.seq (.seq ZPo
 (.ite (.s 9)
 (.seq ZPp
 .ret)
 .skip))
 (.seq (.seq ZPq
 (.ite (.s 11)
 (.seq ZPr
 (.seq ZPs
 (.ite (.s 19)
 (.seq ZPt
 .ret)
 .skip)))
 .skip))
 (.seq ZPu
 .ret)))),
 [.s 4,.s 5]⟩
theorem ZW9:Zp Proofs.Tryz.prog false ZW8 Proofs.Tryz.f119=some ZJs:=by kernel_rfl
def ZGc:List Hint:=[H [0,1],H [4]]
def ZEM:PC :=
 (.reg [0,1] [I 4 (.mv (.v (.bool false)))])
def ZEN:PC :=
 (.reg [4] [I 5 (.mv (.s 0)),I 6 (.bin .eql (.s 5) (V 0)),I 7 (.mv (.s 6)),G 8 7 false (.mv (.s 1)),G 9 7 false (C ZEC [(.s 8)]),I 10 (.pick (.s 7) (.v (.bool true)) (.s 9)),I 4 (.mv (.s 10))])
def ZAD:PF:=⟨false,
 (.seq ZEM
 (.seq ZEN
 .ret)),
 [.s 4]⟩
theorem ZGd:Zp Proofs.Tryz.prog false ZGc Proofs.Tryz.f120=some ZAD:=by kernel_rfl
def Za0:List Hint:=[H [0],H [2]]
def ZS1:PC :=
 (.reg [0] [I 2 (.mv (.v (.bool false)))])
def ZS2:PC :=
 (.reg [2] [I 3 (.mv (.s 0)),I 4 (.bin .geq (.s 3) (.v (.int .u8 128))),I 5 (.mv (.s 4)),G 6 5 true (.mv (.s 0)),G 7 5 true (.bin .lss (.s 6) (.v (.int .u8 192))),I 8 (.pick (.s 5) (.s 7) (.v (.bool false))),I 2 (.mv (.s 8))])
def ZLN:PF:=⟨false,
 (.seq ZS1
 (.seq ZS2
 .ret)),
 [.s 2]⟩
theorem Za1:Zp Proofs.Tryz.prog false Za0 Proofs.Tryz.f121=some ZLN:=by kernel_rfl
def ZMC:List Hint:=[H [0],H [0,11],H [2,3,4],H [5],H [2,3,4]]
def ZJt:PC :=
 (.reg [0] [I 2 (.mv (.v (.str []))),I 3 (.mv (V 0)),I 4 (.mv (V 0))])
def ZJu:PC :=
 (.reg [0,11] [I 6 (.mv (.s 0)),I 7 (.nilck (.s 6)),I 8 (.fadr 6 (.s 7)),I 9 (.ld false 1 (.s 8)),I 10 (.len 1 (.s 9)),I 11 (.bin .eql (.s 10) (V 0))])
def ZJv:PC :=
 (.reg [2,3,4] [I 2 (.mv (.v (.str []))),I 3 (.mv (V 0)),I 4 (.mv (V 0))])
def ZJw:PC :=
 (.reg [5] [I 12 (.mv (.s 0)),I 13 (.nilck (.s 12)),I 14 (.fadr 6 (.s 13)),I 15 (.ld false 1 (.s 14)),I 16 (.mv (.s 0)),I 17 (.nilck (.s 16)),I 18 (.fadr 6 (.s 17)),I 19 (.ld false 1 (.s 18)),I 20 (.len 1 (.s 19)),I 21 (.bin .sub (.s 20) (V 1)),I 22 (.ixS 5 (.s 15) (.s 21)),I 23 (.ld true 5 (.s 22)),I 5 (.box (.v (.agg [(.int .i64 0),(.str []),.nils,(.int .i64 0),(.int .i64 0)]))),J (.st 5 (.s 5) (.s 23))])
def ZJx:PC :=
 (.reg [2,3,4] [I 24 (.fadr 0 (.s 5)),I 25 (.fadr 1 (.s 24)),I 26 (.ld false 1 (.s 25)),I 27 (.fadr 3 (.s 5)),I 28 (.ld false 1 (.s 27)),I 29 (.fadr 4 (.s 5)),I 30 (.ld false 1 (.s 29)),I 2 (.mv (.s 26)),I 3 (.mv (.s 28)),I 4 (.mv (.s 30))])
def ZDG:PF:=⟨false,
 (.seq ZJt
 (.seq (.seq ZJu
 (.ite (.s 11)
 (.seq ZJv
 .ret)
 .skip))
 (.seq ZJw
 (.seq ZJx
 .ret)))),
 [.s 2,.s 3,.s 4]⟩
theorem ZMD:Zp Proofs.Tryz.prog false ZMC Proofs.Tryz.f125=some ZDG:=by kernel_rfl
def ZXA:List Hint:=[H [0,1],H [0,1,21],H [4,5],⟨[0,6],[],[],[],[(1,(.here 1)),(5,(.here 5)),(3,(.here 3))],[3,1,5]⟩,H [0,6,31,32],H [0,6,31,32,33],H [0,6,7,31,32],H [0,6,7,31,32],H [0,6,31,32],H [0,6,31,32],H [4,5]]
def ZPv:PC :=
 (.reg [0,1] [I 4 (.mv (.v .nilptr)),I 5 (.mv (V 0))])
def ZPw:PC :=
 (.reg [0,1,21] [I 8 (.mv (.s 0)),I 9 (.bin .lss (.s 8) (V 1)),I 10 (.mv (.s 9)),G 11 10 false (.mv (.s 0)),G 12 10 false (.bin .gtr (.s 11) (V 16384)),I 13 (.pick (.s 10) (.v (.bool true)) (.s 12)),I 14 (.mv (.s 13)),G 15 14 false (.mv (.s 1)),G 16 14 false (.bin .lss (.s 15) (.v (.int .u64 1))),I 17 (.pick (.s 14) (.v (.bool true)) (.s 16)),I 18 (.mv (.s 17)),G 19 18 false (.mv (.s 1)),G 20 18 false (.bin .gtr (.s 19) (.v (.int .u64 4294967295))),I 21 (.pick (.s 18) (.v (.bool true)) (.s 20))])
def ZPx:PC :=
 (.reg [4,5] [I 4 (.mv (.v .nilptr)),I 5 (.mv (V 3))])
def ZPy:PC :=
 (.regH [3,1,5] [0,6] [I 22 (.mv (.s 0)),I 23 (.w (.here 1) (.mkslice 1 8 (.int .i64 0) (.s 22) (.s 22))),I 24 (.mv (.s 0)),I 25 (.w (.here 3) (.mkslice 1 1 (.int .u8 0) (.s 24) (.s 24))),I 26 (.mv (.s 0)),I 27 (.w (.here 5) (.mkslice 1 8 (.int .u64 0) (.s 26) (.s 26))),I 28 (.mv (.s 1)),I 29 (.build [.nils,.nils,.nils,(.int .u64 0)] [(0,1,(.s 23)),(1,1,(.s 25)),(2,1,(.s 27)),(3,1,(.s 28))]),I 30 (.box (.s 29)),I 6 (.mv (.s 30))])
def ZPz:PC :=
 (.reg [0,6,31,32] [I 31 (.mv (.s 0)),I 32 (.mv (V 0))])
def ZP0:PC :=
 (.reg [0,6,31,32,33] [I 33 (.bin .lss (.s 32) (.s 31))])
def ZP1:PC :=
 (.reg [0,6,7,31,32] [I 34 (.mv (.s 32)),I 7 (.mv (.s 34))])
def ZP2:PC :=
 (.reg [0,6,7,31,32] [I 35 (.mv (.s 6)),I 36 (.nilck (.s 35)),I 37 (.fadr 0 (.s 36)),I 38 (.ld false 1 (.s 37)),I 39 (.mv (.s 7)),I 40 (.mv (.s 0)),I 41 (.bin .sub (.s 40) (V 1)),I 42 (.mv (.s 7)),I 43 (.bin .sub (.s 41) (.s 42)),I 44 (.ixS 1 (.s 38) (.s 39)),J (.st 1 (.s 44) (.s 43))])
def ZP3:PC :=
 (.reg [0,6,31,32] [I 45 (.mv (.s 6)),I 46 (.nilck (.s 45)),I 47 (.fadr 2 (.s 46)),I 48 (.ld false 1 (.s 47)),I 49 (.mv (.s 7)),I 50 (.ixS 1 (.s 48) (.s 49)),J (.st 1 (.s 50) (.v (.int .u64 1)))])
def ZP4:PC :=
 (.reg [0,6,31,32] [I 51 (.bin .add (.s 32) (V 1)),I 32 (.mv (.s 51))])
def ZNO:PC :=
 (.seq ZP0
 (.seq (.ite (.s 33)
 .skip
 (.exit 0))
 (.seq (.block 1
 (.seq ZP1
 (.seq ZP2
 ZP3)))
 ZP4)))
def ZNP:PC :=
 (.reg [4,5] [I 52 (.mv (.s 6)),I 4 (.mv (.s 52)),I 5 (.mv (V 0))])
def ZJy:PF:=⟨true,
 (.seq ZPv
 (.seq (.seq ZPw
 (.ite (.s 21)
 (.seq ZPx
 .ret)
 .skip))
 (.seq ZPy
 (.seq (.seq ZPz
 (.block 0
 (.loop ZNO)))
 (.seq ZNP
 .ret))))),
 [.s 4,.s 5]⟩
theorem ZXB:Zp Proofs.Tryz.prog true ZXA Proofs.Tryz.f126=some ZJy:=by kernel_rfl
def ZeS:List Hint:=[H [0,2],H [0,2,14],H [2,3],⟨[0,2,4],[0],[],[],[],[]⟩,H [2,4,17,18,19],H [2,4,17,18,19,20],H [2,4,6,17,18,19],H [2,4,17,18,19],H [2,4,17,18,19],H [2,4,31],H [2,4,7,8],H [2,4,7,8,39],H [2,3],⟨[2,4,7,9],[0],[],[],[],[]⟩,H [2,4,9,42,43,44],H [2,4,9,42,43,44,45],H [2,4,9,11,42,43,44],H [2,4,9,11,42,43,44],H [2,4,9,42,43,44],H [2,4,9,42,43,44],H [2,4],H [2,3]]
def ZXC:PC :=
 (.reg [0,2] [I 2 (.box (.v ZT)),I 3 (.mv (V 0))])
def ZXD:PC :=
 (.reg [0,2,14] [I 12 (.mv (.s 0)),I 13 (.len 0 (.s 12)),I 14 (.bin .gtr (.s 13) (V 65536))])
def ZXE:PC :=
 (.reg [2,3] [I 15 (.build [(.int .u64 0),(.int .i64 0),(.int .i64 0),(.int .i64 0),(.int .i64 0),(.str []),.nils] []),J (.st 7 (.s 2) (.s 15)),I 3 (.mv (V 5))])
def ZXF:PC :=
 (.reg [0,2,4] [I 4 (.onil 7)])
def ZXG:PC :=
 (.reg [2,4,17,18,19] [I 16 (.mv (.s 0)),I 17 (C ZCe [(.s 16)]),I 18 (.len 1 (.s 17)),I 19 (.mv (V 0))])
def ZXH:PC :=
 (.reg [2,4,17,18,19,20] [I 20 (.bin .lss (.s 19) (.s 18))])
def ZXI:PC :=
 (.reg [2,4,6,17,18,19] [I 21 (.ixS 1 (.s 17) (.s 19)),I 22 (.ld false 1 (.s 21)),I 6 (.mv (.s 22))])
def ZXJ:PC :=
 (.reg [2,4,17,18,19] [I 23 (.mv (.s 4)),I 24 (.mv (.s 6)),I 25 (.build [(.int .u64 0),(.int .i64 0),(.int .i64 0),(.int .i64 0),(.int .i64 0),(.str []),.nils] [(5,1,(.s 24))]),I 26 (.bslice false 7 [ZT] [(0,(.s 25))]),I 27 (.app 7 80 (.s 23) (.s 26)),I 4 (.mv (.s 27))])
def ZXK:PC :=
 (.reg [2,4,17,18,19] [I 28 (.bin .add (.s 19) (V 1)),I 19 (.mv (.s 28))])
def ZXL:PC :=
 (.seq ZXH
 (.seq (.ite (.s 20)
 .skip
 (.exit 0))
 (.seq (.block 1
 (.seq ZXI
 ZXJ))
 ZXK)))
def ZS3:PC :=
 (.reg [2,4,31] [I 29 (.mv (.s 4)),I 30 (.len 1 (.s 29)),I 31 (.bin .gtr (.s 30) (V 1))])
def ZS4:PC :=
 (.reg [2,4,7,8] [I 33 (.mv (.s 4)),I 34 (.len 1 (.s 33)),I 35 (C ZFd [(.s 34),(V 4)]),I 32 (.mv (.s 35)),I 36 (.ext (.s 32) 0),I 37 (.ext (.s 32) 1),I 7 (.mv (.s 36)),I 8 (.mv (.s 37))])
def ZS5:PC :=
 (.reg [2,4,7,8,39] [I 38 (.mv (.s 8)),I 39 (.bin .neq (.s 38) (V 0))])
def ZS6:PC :=
 (.reg [2,3] [I 40 (.build [(.int .u64 0),(.int .i64 0),(.int .i64 0),(.int .i64 0),(.int .i64 0),(.str []),.nils] []),I 41 (.mv (.s 8)),J (.st 7 (.s 2) (.s 40)),I 3 (.mv (.s 41))])
def ZS7:PC :=
 (.reg [2,4,7,9] [I 9 (.onil 7)])
def ZS8:PC :=
 (.reg [2,4,9,42,43,44] [I 42 (.mv (.s 7)),I 43 (.len 1 (.s 42)),I 44 (.mv (V 0))])
def ZS9:PC :=
 (.reg [2,4,9,42,43,44,45] [I 45 (.bin .lss (.s 44) (.s 43))])
def ZTA:PC :=
 (.reg [2,4,9,11,42,43,44] [I 46 (.ixS 1 (.s 42) (.s 44)),I 47 (.ld false 1 (.s 46)),I 11 (.mv (.s 47))])
def ZTB:PC :=
 (.reg [2,4,9,11,42,43,44] [I 48 (.mv (.s 9)),I 49 (.mv (.s 4)),I 50 (.mv (.s 11)),I 51 (.slc 7 (.s 49) none (some (.s 50))),I 52 (C QS [(.s 51)]),I 53 (.bslice false 7 [ZT] [(0,(.s 52))]),I 54 (.app 7 80 (.s 48) (.s 53)),I 9 (.mv (.s 54))])
def ZTC:PC :=
 (.reg [2,4,9,42,43,44] [I 55 (.mv (.s 4)),I 56 (.mv (.s 11)),I 57 (.slc 7 (.s 55) (some (.s 56)) none),I 4 (.mv (.s 57))])
def ZTD:PC :=
 (.reg [2,4,9,42,43,44] [I 58 (.bin .add (.s 44) (V 1)),I 44 (.mv (.s 58))])
def ZTE:PC :=
 (.seq ZS9
 (.seq (.ite (.s 45)
 .skip
 (.exit 4))
 (.seq (.block 5
 (.seq ZTA
 (.seq ZTB
 ZTC)))
 ZTD)))
def ZTF:PC :=
 (.reg [2,4] [I 59 (.mv (.s 9)),I 4 (.mv (.s 59))])
def ZHF:PC :=
 (.seq (.seq ZS3
 (.ite (.s 31)
 .skip
 (.exit 2)))
 (.block 3
 (.seq ZS4
 (.seq (.seq ZS5
 (.ite (.s 39)
 (.seq ZS6
 .ret)
 .skip))
 (.seq ZS7
 (.seq (.seq ZS8
 (.block 4
 (.loop ZTE)))
 ZTF))))))
def ZHG:PC :=
 (.reg [2,3] [I 60 (.mv (.s 4)),I 61 (C QS [(.s 60)]),J (.st 7 (.s 2) (.s 61)),I 3 (.mv (V 0))])
def ZNQ:PF:=⟨false,
 (.seq ZXC
 (.seq (.seq ZXD
 (.ite (.s 14)
 (.seq ZXE
 .ret)
 .skip))
 (.seq ZXF
 (.seq (.seq ZXG
 (.block 0
 (.loop ZXL)))
 (.seq (.block 2
 (.loop ZHF))
 (.seq ZHG
 .ret)))))),
 [.c 2 true 7,.s 3]⟩
theorem ZeT:Zp Proofs.Tryz.prog false ZeS Proofs.Tryz.f127=some ZNQ:=by kernel_rfl
def ZXM:List Hint:=[H [0,2,3,4,6,10],H [0,2,3,4,6,10,12],H [0,2,3,4,6,10,12,24],H [10,11],H [0,2,3,4,6,10,13],H [0,2,3,4,6,10,13,46],H [10,11],H [0,2,3,4,6,10,60],H [10,11],H [0,2,3,4,6,10,67],H [10,11],H [0,3,4,10,14,15,16],H [0,3,4,10,14,15,16,79],H [10,11],H [0,4,10,14,16,18],H [0,4,10,14,16,18,91],H [10,11],H [0,10,14,16,18,19],H [0,10,14,16,18,19,100],H [10,11],H [0,10,14,16,18],H [0,10,14,16,18,111],H [10,11],H [10,14,16],H [10,11]]
def ZP5:PC :=
 (.reg [0,2,3,4,6,10] [I 6 (.box (.s 1)),I 10 (.box (.v ZT)),I 11 (.mv (V 0))])
def ZP6:PC :=
 (.reg [0,2,3,4,6,10,12] [I 20 (.mv (.s 0)),I 21 (.ld true 7 (.s 6)),I 22 (C YQ [(.s 20),(.s 21)]),I 12 (.mv (.s 22))])
def ZP7:PC :=
 (.reg [0,2,3,4,6,10,12,24] [I 23 (.mv (.s 12)),I 24 (.bin .neq (.s 23) (V 0))])
def ZP8:PC :=
 (.reg [10,11] [I 25 (.build [(.int .u64 0),(.int .i64 0),(.int .i64 0),(.int .i64 0),(.int .i64 0),(.str []),.nils] []),I 26 (.mv (.s 12)),J (.st 7 (.s 10) (.s 25)),I 11 (.mv (.s 26))])
def ZP9:PC :=
 (.reg [0,2,3,4,6,10,13] [I 27 (.ld true 7 (.s 6)),I 28 (C Qs [(.s 27)]),I 13 (.mv (.s 28))])
def ZQA:PC :=
 (.reg [0,2,3,4,6,10,13,46] [I 29 (.mv (.s 2)),I 30 (.bin .lss (.s 29) (V 0)),I 31 (.mv (.s 30)),G 32 31 false (.mv (.s 2)),G 33 31 false (.mv (.s 13)),G 34 31 false (.bin .gtr (.s 32) (.s 33)),I 35 (.pick (.s 31) (.v (.bool true)) (.s 34)),I 36 (.mv (.s 35)),G 37 36 false (.mv (.s 3)),G 38 36 false (.bin .lss (.s 37) (V 0)),I 39 (.pick (.s 36) (.v (.bool true)) (.s 38)),I 40 (.mv (.s 39)),G 41 40 false (.mv (.s 3)),G 42 40 false (.mv (.s 13)),G 43 40 false (.mv (.s 2)),G 44 40 false (.bin .sub (.s 42) (.s 43)),G 45 40 false (.bin .gtr (.s 41) (.s 44)),I 46 (.pick (.s 40) (.v (.bool true)) (.s 45))])
def ZQB:PC :=
 (.reg [10,11] [I 47 (.build [(.int .u64 0),(.int .i64 0),(.int .i64 0),(.int .i64 0),(.int .i64 0),(.str []),.nils] []),J (.st 7 (.s 10) (.s 47)),I 11 (.mv (V 3))])
def ZQC:PC :=
 (.reg [0,2,3,4,6,10,60] [I 48 (.mv (.s 13)),I 49 (.mv (.s 3)),I 50 (.bin .sub (.s 48) (.s 49)),I 51 (.mv (.s 4)),I 52 (.len 0 (.s 51)),I 53 (.mnx false (.s 52) (V 65536)),I 54 (.bin .sub (V 65536) (.s 53)),I 55 (.bin .gtr (.s 50) (.s 54)),I 56 (.mv (.s 55)),G 57 56 false (.mv (.s 4)),G 58 56 false (.len 0 (.s 57)),G 59 56 false (.bin .gtr (.s 58) (V 65536)),I 60 (.pick (.s 56) (.v (.bool true)) (.s 59))])
def ZQD:PC :=
 (.reg [10,11] [I 61 (.build [(.int .u64 0),(.int .i64 0),(.int .i64 0),(.int .i64 0),(.int .i64 0),(.str []),.nils] []),J (.st 7 (.s 10) (.s 61)),I 11 (.mv (V 5))])
def ZQE:PC :=
 (.reg [0,2,3,4,6,10,67] [I 62 (.mv (.s 3)),I 63 (.bin .eql (.s 62) (V 0)),I 64 (.mv (.s 63)),G 65 64 true (.mv (.s 4)),G 66 64 true (.bin .eql (.s 65) (.v (.str []))),I 67 (.pick (.s 64) (.s 66) (.v (.bool false)))])
def ZNR:PC :=
 (.reg [10,11] [I 68 (.ld true 7 (.s 6)),I 69 (C ZCc [(.s 68)]),J (.st 7 (.s 10) (.s 69)),I 11 (.mv (V 0))])
def ZNS:PC :=
 (.reg [0,3,4,10,14,15,16] [I 71 (.mv (.s 0)),I 72 (.ld true 7 (.s 6)),I 73 (.mv (.s 2)),I 74 (C ZAg [(.s 71),(.s 72),(.s 73)]),I 70 (.mv (.s 74)),I 75 (.ext (.s 70) 0),I 76 (.ext (.s 70) 1),I 77 (.ext (.s 70) 2),I 14 (.box (.v ZT)),I 15 (.box (.v ZT)),J (.st 7 (.s 14) (.s 75)),J (.st 7 (.s 15) (.s 76)),I 16 (.mv (.s 77))])
def ZNT:PC :=
 (.reg [0,3,4,10,14,15,16,79] [I 78 (.mv (.s 16)),I 79 (.bin .neq (.s 78) (V 0))])
def ZNU:PC :=
 (.reg [10,11] [I 80 (.build [(.int .u64 0),(.int .i64 0),(.int .i64 0),(.int .i64 0),(.int .i64 0),(.str []),.nils] []),I 81 (.mv (.s 16)),J (.st 7 (.s 10) (.s 80)),I 11 (.mv (.s 81))])
def ZNV:PC :=
 (.reg [0,4,10,14,16,18] [I 83 (.mv (.s 0)),I 84 (.ld true 7 (.s 15)),I 85 (.mv (.s 3)),I 86 (C ZAg [(.s 83),(.s 84),(.s 85)]),I 82 (.mv (.s 86)),I 87 (.ext (.s 82) 0),I 88 (.ext (.s 82) 1),I 89 (.ext (.s 82) 2),I 17 (.box (.v ZT)),I 18 (.box (.v ZT)),J (.st 7 (.s 17) (.s 87)),J (.st 7 (.s 18) (.s 88)),I 16 (.mv (.s 89))])
def ZNW:PC :=
 (.reg [0,4,10,14,16,18,91] [I 90 (.mv (.s 16)),I 91 (.bin .neq (.s 90) (V 0))])
def ZNX:PC :=
 (.reg [10,11] [I 92 (.build [(.int .u64 0),(.int .i64 0),(.int .i64 0),(.int .i64 0),(.int .i64 0),(.str []),.nils] []),I 93 (.mv (.s 16)),J (.st 7 (.s 10) (.s 92)),I 11 (.mv (.s 93))])
def ZNY:PC :=
 (.reg [0,10,14,16,18,19] [I 95 (.mv (.s 4)),I 96 (C X7 [(.s 95)]),I 94 (.mv (.s 96)),I 97 (.ext (.s 94) 0),I 98 (.ext (.s 94) 1),I 19 (.box (.v ZT)),J (.st 7 (.s 19) (.s 97)),I 16 (.mv (.s 98))])
def ZNZ:PC :=
 (.reg [0,10,14,16,18,19,100] [I 99 (.mv (.s 16)),I 100 (.bin .neq (.s 99) (V 0))])
def ZNa:PC :=
 (.reg [10,11] [I 101 (.build [(.int .u64 0),(.int .i64 0),(.int .i64 0),(.int .i64 0),(.int .i64 0),(.str []),.nils] []),I 102 (.mv (.s 16)),J (.st 7 (.s 10) (.s 101)),I 11 (.mv (.s 102))])
def ZNb:PC :=
 (.reg [0,10,14,16,18] [I 104 (.mv (.s 0)),I 105 (.ld true 7 (.s 14)),I 106 (.ld true 7 (.s 19)),I 107 (C Yb [(.s 104),(.s 105),(.s 106)]),I 103 (.mv (.s 107)),I 108 (.ext (.s 103) 0),I 109 (.ext (.s 103) 1),J (.st 7 (.s 14) (.s 108)),I 16 (.mv (.s 109))])
def ZNc:PC :=
 (.reg [0,10,14,16,18,111] [I 110 (.mv (.s 16)),I 111 (.bin .neq (.s 110) (V 0))])
def ZNd:PC :=
 (.reg [10,11] [I 112 (.build [(.int .u64 0),(.int .i64 0),(.int .i64 0),(.int .i64 0),(.int .i64 0),(.str []),.nils] []),I 113 (.mv (.s 16)),J (.st 7 (.s 10) (.s 112)),I 11 (.mv (.s 113))])
def ZNe:PC :=
 (.reg [10,14,16] [I 115 (.mv (.s 0)),I 116 (.ld true 7 (.s 14)),I 117 (.ld true 7 (.s 18)),I 118 (C Yb [(.s 115),(.s 116),(.s 117)]),I 114 (.mv (.s 118)),I 119 (.ext (.s 114) 0),I 120 (.ext (.s 114) 1),J (.st 7 (.s 14) (.s 119)),I 16 (.mv (.s 120))])
def ZNf:PC :=
 (.reg [10,11] [I 121 (.ld true 7 (.s 14)),I 122 (C ZCc [(.s 121)]),I 123 (.mv (.s 16)),J (.st 7 (.s 10) (.s 122)),I 11 (.mv (.s 123))])
def ZJz:PF:=⟨false,
 (.seq ZP5
 (.seq (.seq ZP6
 (.seq ZP7
 (.ite (.s 24)
 (.seq ZP8
 .ret)
 .skip)))
 (.seq ZP9
 (.seq (.seq ZQA
 (.ite (.s 46)
 (.seq ZQB
 .ret)
 .skip))
 (.seq (.seq ZQC
 (.ite (.s 60)
 (.seq ZQD
 .ret)
 .skip))
 (.seq (.seq ZQE
 (.ite (.s 67)
 (.seq ZNR
 .ret)
 .skip))
 (.seq ZNS
 (.seq (.seq ZNT
 (.ite (.s 79)
 (.seq ZNU
 .ret)
 .skip))
 (.seq ZNV
 (.seq (.seq ZNW
 (.ite (.s 91)
 (.seq ZNX
 .ret)
 .skip))
 (.seq ZNY
 (.seq (.seq ZNZ
 (.ite (.s 100)
 (.seq ZNa
 .ret)
 .skip))
 (.seq (.seq ZNb
 (.seq ZNc
 (.ite (.s 111)
 (.seq ZNd
 .ret)
 .skip)))
 (.seq ZNe
 (.seq ZNf
 .ret))))))))))))))),
 [.c 10 true 7,.s 11]⟩
theorem ZXN:Zp Proofs.Tryz.prog false ZXM Proofs.Tryz.f134=some ZJz:=by kernel_rfl
def ZeU:List Hint:=[H [0,3],H [0,3,7],H [4],H [0,3,10],H [4],H [3,5],H [3,5,15],H [4],H [19],H [4],H [4]]
def ZXO:PC :=
 (.reg [0,3] [I 3 (.box (.s 1)),I 4 (.mv (V 0))])
def ZXP:PC :=
 (.reg [0,3,7] [I 6 (.mv (.s 0)),I 7 (.eqs false 3 [] (.s 6) (.v .nilptr))])
def ZXQ:PC :=
 (.reg [4] [I 4 (.mv (V 1))])
def ZXR:PC :=
 (.reg [0,3,10] [I 8 (.ld true 7 (.s 3)),I 9 (C Qm [(.s 8)]),I 10 (.bin .eql (.s 9) (V 1))])
def ZXS:PC :=
 (.reg [4] [I 4 (.mv (V 0))])
def ZXT:PC :=
 (.reg [3,5] [I 11 (.mv (.s 0)),I 12 (.ld true 7 (.s 3)),I 13 (C ZBv [(.s 11),(.s 12),(.v (.bool false)),(V 0)]),I 5 (.mv (.s 13))])
def ZXU:PC :=
 (.reg [3,5,15] [I 14 (.mv (.s 5)),I 15 (.bin .neq (.s 14) (V 0))])
def ZXV:PC :=
 (.reg [4] [I 16 (.mv (.s 5)),I 4 (.mv (.s 16))])
def ZXW:PC :=
 (.reg [19] [I 17 (.ld true 7 (.s 3)),I 18 (C Qs [(.s 17)]),I 19 (.bin .gtr (.s 18) (V 65536))])
def ZXX:PC :=
 (.reg [4] [I 4 (.mv (V 5))])
def ZTG:PC :=
 (.reg [4] [I 4 (.mv (V 0))])
def ZNg:PF:=⟨false,
 (.seq ZXO
 (.seq (.seq ZXP
 (.ite (.s 7)
 (.seq ZXQ
 .ret)
 .skip))
 (.seq (.seq ZXR
 (.ite (.s 10)
 (.seq ZXS
 .ret)
 .skip))
 (.seq (.seq ZXT
 (.seq ZXU
 (.ite (.s 15)
 (.seq ZXV
 .ret)
 .skip)))
 (.seq (.seq ZXW
 (.ite (.s 19)
 (.seq ZXX
 .ret)
 .skip))
 (.seq ZTG
 .ret)))))),
 [.s 4]⟩
theorem ZeV:Zp Proofs.Tryz.prog false ZeU Proofs.Tryz.f135=some ZNg:=by kernel_rfl
def Za2:List Hint:=[H [1,2,3,4],H [1,2,3,4,15],H [2,6,7],H [7],H [5],H [3,8,9],H [3,8,9,33],H [5],H [3,35,36,37],H [3,35,36,37,38],H [3,11,35,36,37],H [3,12,35,36,37],H [3,12,35,36,37,45],H [5],H [3,35,36,37],H [5]]
def ZTH:PC :=
 (.reg [1,2,3,4] [I 4 (.box (.s 0)),I 5 (.mv (V 0))])
def ZTI:PC :=
 (.reg [1,2,3,4,15] [I 13 (.fadr 1 (.s 4)),I 14 (.ld false 1 (.s 13)),I 15 (.bin .eql (.s 14) (V 0))])
def ZTJ:PC :=
 (.reg [2,6,7] [I 17 (.ld false 1 (.s 1)),I 18 (.ld true 7 (.s 4)),I 19 (C Xt [(.s 17),(.s 18)]),I 16 (.mv (.s 19)),I 20 (.ext (.s 16) 0),I 21 (.ext (.s 16) 1),I 6 (.mv (.s 20)),I 7 (.mv (.s 21))])
def ZTK:PC :=
 (.reg [7] [I 22 (.ld false 1 (.s 2)),I 23 (.mv (.s 6)),I 24 (.app 1 1 (.s 22) (.s 23)),J (.st 1 (.s 2) (.s 24))])
def ZTL:PC :=
 (.reg [5] [I 25 (.mv (.s 7)),I 5 (.mv (.s 25))])
def ZTM:PC :=
 (.reg [3,8,9] [I 27 (.ld false 1 (.s 1)),I 28 (.ld true 7 (.s 4)),I 29 (C Jz [(.s 27),(.s 28)]),I 26 (.mv (.s 29)),I 30 (.ext (.s 26) 0),I 31 (.ext (.s 26) 1),I 8 (.mv (.s 30)),I 9 (.mv (.s 31))])
def ZTN:PC :=
 (.reg [3,8,9,33] [I 32 (.mv (.s 9)),I 33 (.bin .neq (.s 32) (V 0))])
def ZTO:PC :=
 (.reg [5] [I 34 (.mv (.s 9)),I 5 (.mv (.s 34))])
def ZTP:PC :=
 (.reg [3,35,36,37] [I 35 (.mv (.s 8)),I 36 (.len 1 (.s 35)),I 37 (.mv (V 0))])
def ZTQ:PC :=
 (.reg [3,35,36,37,38] [I 38 (.bin .lss (.s 37) (.s 36))])
def ZQF:PC :=
 (.reg [3,11,35,36,37] [I 39 (.ixS 7 (.s 35) (.s 37)),I 40 (.ld true 7 (.s 39)),I 11 (.box (.v ZT)),J (.st 7 (.s 11) (.s 40))])
def ZQG:PC :=
 (.reg [3,12,35,36,37] [I 41 (.ld false 1 (.s 3)),I 42 (.ld true 7 (.s 11)),I 43 (.call .norm (.s 41) [(.s 42)]),I 12 (.mv (.s 43))])
def ZQH:PC :=
 (.reg [3,12,35,36,37,45] [I 44 (.mv (.s 12)),I 45 (.bin .neq (.s 44) (V 0))])
def ZQI:PC :=
 (.reg [5] [I 46 (.mv (.s 12)),I 5 (.mv (.s 46))])
def ZQJ:PC :=
 (.reg [3,35,36,37] [I 47 (.bin .add (.s 37) (V 1)),I 37 (.mv (.s 47))])
def ZQK:PC :=
 (.seq ZTQ
 (.seq (.ite (.s 38)
 .skip
 (.exit 0))
 (.seq (.block 1
 (.seq ZQF
 (.seq ZQG
 (.seq ZQH
 (.ite (.s 45)
 (.seq ZQI
 .ret)
 .skip)))))
 ZQJ)))
def ZQL:PC :=
 (.reg [5] [I 5 (.mv (V 0))])
def ZLO:PF:=⟨false,
 (.seq ZTH
 (.seq (.seq ZTI
 (.ite (.s 15)
 (.seq ZTJ
 (.seq ZTK
 (.seq ZTL
 .ret)))
 .skip))
 (.seq ZTM
 (.seq (.seq ZTN
 (.ite (.s 33)
 (.seq ZTO
 .ret)
 .skip))
 (.seq (.seq ZTP
 (.block 0
 (.loop ZQK)))
 (.seq ZQL
 .ret)))))),
 [.s 5]⟩
theorem Za3:Zp Proofs.Tryz.prog false Za2 Proofs.Tryz.f136=some ZLO:=by kernel_rfl
def Zgt:List Hint:=[H [0,3],H [0,3,10],H [4,5],H [6,7],H [4,5]]
def Za4:PC :=
 (.reg [0,3] [I 3 (.box (.s 1)),I 4 (.mv (.v (.str []))),I 5 (.mv (V 0))])
def Za5:PC :=
 (.reg [0,3,10] [I 8 (.fadr 0 (.s 3)),I 9 (.ld false 1 (.s 8)),I 10 (.bin .eql (.s 9) (.v (.int .u64 0)))])
def Za6:PC :=
 (.reg [4,5] [I 11 (.fadr 5 (.s 3)),I 12 (.ld false 1 (.s 11)),I 4 (.mv (.s 12)),I 5 (.mv (V 0))])
def Za7:PC :=
 (.reg [6,7] [I 14 (.mv (.s 0)),I 15 (.fadr 0 (.s 3)),I 16 (.ld false 1 (.s 15)),I 17 (C QV [(.s 14),(.s 16)]),I 13 (.mv (.s 17)),I 18 (.ext (.s 13) 0),I 19 (.ext (.s 13) 1),I 6 (.box (.v ZN)),J (.st 3 (.s 6) (.s 18)),I 7 (.mv (.s 19))])
def Za8:PC :=
 (.reg [4,5] [I 20 (.fadr 1 (.s 6)),I 21 (.ld false 1 (.s 20)),I 22 (.mv (.s 7)),I 4 (.mv (.s 21)),I 5 (.mv (.s 22))])
def ZSF:PF:=⟨false,
 (.seq Za4
 (.seq (.seq Za5
 (.ite (.s 10)
 (.seq Za6
 .ret)
 .skip))
 (.seq Za7
 (.seq Za8
 .ret)))),
 [.s 4,.s 5]⟩
theorem Zgu:Zp Proofs.Tryz.prog false Zgt Proofs.Tryz.f137=some ZSF:=by kernel_rfl
def ZTR:List Hint:=[H [0,3],H [0,3,13],H [4,5],H [6,7],H [6,7,24],H [4,5],⟨[6,8],[0],[],[],[],[]⟩,H [6,8,27,28,29],H [6,8,27,28,29,30],H [6,8,10,27,28,29],H [6,8,27,28,29],H [6,8,27,28,29],H [8,47],H [4,5],H [4,5]]
def ZNh:PC :=
 (.reg [0,3] [I 3 (.box (.s 1)),I 4 (.mv (.v .nils)),I 5 (.mv (V 0))])
def ZNi:PC :=
 (.reg [0,3,13] [I 11 (.fadr 0 (.s 3)),I 12 (.ld false 1 (.s 11)),I 13 (.bin .eql (.s 12) (.v (.int .u64 0)))])
def ZNj:PC :=
 (.reg [4,5] [I 14 (.fadr 6 (.s 3)),I 15 (.ld false 1 (.s 14)),I 4 (.mv (.s 15)),I 5 (.mv (V 0))])
def ZNk:PC :=
 (.reg [6,7] [I 17 (.mv (.s 0)),I 18 (.fadr 0 (.s 3)),I 19 (.ld false 1 (.s 18)),I 20 (C QV [(.s 17),(.s 19)]),I 16 (.mv (.s 20)),I 21 (.ext (.s 16) 0),I 22 (.ext (.s 16) 1),I 6 (.box (.v ZN)),J (.st 3 (.s 6) (.s 21)),I 7 (.mv (.s 22))])
def ZNl:PC :=
 (.reg [6,7,24] [I 23 (.mv (.s 7)),I 24 (.bin .neq (.s 23) (V 0))])
def ZNm:PC :=
 (.reg [4,5] [I 25 (.mv (.s 7)),I 4 (.mv (.v .nils)),I 5 (.mv (.s 25))])
def ZNn:PC :=
 (.reg [6,8] [I 8 (.onil 7)])
def ZNo:PC :=
 (.reg [6,8,27,28,29] [I 26 (.fadr 2 (.s 6)),I 27 (.ld false 1 (.s 26)),I 28 (.len 1 (.s 27)),I 29 (.mv (V 0))])
def ZNp:PC :=
 (.reg [6,8,27,28,29,30] [I 30 (.bin .lss (.s 29) (.s 28))])
def ZNq:PC :=
 (.reg [6,8,10,27,28,29] [I 31 (.ixS 4 (.s 27) (.s 29)),I 32 (.ld true 4 (.s 31)),I 10 (.box (.v ZK)),J (.st 4 (.s 10) (.s 32))])
def ZME:PC :=
 (.reg [6,8,27,28,29] [I 33 (.mv (.s 8)),I 34 (.fadr 0 (.s 10)),I 35 (.ld false 1 (.s 34)),I 36 (.fadr 0 (.s 6)),I 37 (.ld false 1 (.s 36)),I 38 (.bin .sub (.s 37) (V 1)),I 39 (.fadr 1 (.s 10)),I 40 (.ld true 3 (.s 39)),I 41 (.build [(.int .u64 0),(.int .i64 0),(.int .i64 0),(.int .i64 0),(.int .i64 0),(.str []),.nils] [(0,1,(.s 35)),(1,1,(.s 38)),(2,3,(.s 40))]),I 42 (.bslice false 7 [ZT] [(0,(.s 41))]),I 43 (.app 7 80 (.s 33) (.s 42)),I 8 (.mv (.s 43))])
def ZMF:PC :=
 (.reg [6,8,27,28,29] [I 44 (.bin .add (.s 29) (V 1)),I 29 (.mv (.s 44))])
def ZDH:PC :=
 (.seq ZNp
 (.seq (.ite (.s 30)
 .skip
 (.exit 0))
 (.seq (.block 1
 (.seq ZNq
 ZME))
 ZMF)))
def ZMG:PC :=
 (.reg [8,47] [I 45 (.mv (.s 8)),I 46 (.len 1 (.s 45)),I 47 (.bin .eql (.s 46) (V 0))])
def ZMH:PC :=
 (.reg [4,5] [I 4 (.mv (.v .nils)),I 5 (.mv (V 23))])
def ZMI:PC :=
 (.reg [4,5] [I 48 (.mv (.s 8)),I 4 (.mv (.s 48)),I 5 (.mv (V 0))])
def ZHH:PF:=⟨false,
 (.seq ZNh
 (.seq (.seq ZNi
 (.ite (.s 13)
 (.seq ZNj
 .ret)
 .skip))
 (.seq ZNk
 (.seq (.seq ZNl
 (.ite (.s 24)
 (.seq ZNm
 .ret)
 .skip))
 (.seq ZNn
 (.seq (.seq ZNo
 (.block 0
 (.loop ZDH)))
 (.seq (.seq ZMG
 (.ite (.s 47)
 (.seq ZMH
 .ret)
 .skip))
 (.seq ZMI
 .ret)))))))),
 [.s 4,.s 5]⟩
theorem ZTS:Zp Proofs.Tryz.prog false ZTR Proofs.Tryz.f138=some ZHH:=by kernel_rfl
def Zgv:List Hint:=[H [1],H [1,3],H [1,3,13],H [2],H [1,3,31],H [2],H [1,3,46],H [2],H [65],H [2],H [2]]
def Za9:PC :=
 (.reg [1] [I 1 (.box (.s 0)),I 2 (.mv (V 0))])
def ZbA:PC :=
 (.reg [1,3] [I 4 (.fadr 2 (.s 1)),I 5 (.ld true 3 (.s 4)),I 6 (.build [(.int .i64 0),(.int .i64 0),(.int .i64 0)] []),I 7 (.eqs false 0 [(0,0),(1,0),(2,0)] (.s 5) (.s 6)),I 8 (.mv (.s 7)),G 9 8 true (.fadr 0 (.s 1)),G 10 8 true (.ld false 1 (.s 9)),G 11 8 true (.bin .eql (.s 10) (.v (.int .u64 0))),I 12 (.pick (.s 8) (.s 11) (.v (.bool false))),I 3 (.mv (.s 12))])
def ZbB:PC :=
 (.reg [1,3,13] [I 14 (.mv (.s 3)),I 15 (.mv (.s 14)),G 16 15 true (.fadr 1 (.s 1)),G 17 15 true (.ld false 1 (.s 16)),G 18 15 true (.bin .eql (.s 17) (V 0)),I 19 (.pick (.s 15) (.s 18) (.v (.bool false))),I 20 (.mv (.s 19)),G 21 20 true (.fadr 5 (.s 1)),G 22 20 true (.ld false 1 (.s 21)),G 23 20 true (.bin .eql (.s 22) (.v (.str []))),I 24 (.pick (.s 20) (.s 23) (.v (.bool false))),I 25 (.mv (.s 24)),G 26 25 true (.fadr 6 (.s 1)),G 27 25 true (.ld false 1 (.s 26)),G 28 25 true (.len 1 (.s 27)),G 29 25 true (.bin .eql (.s 28) (V 0)),I 30 (.pick (.s 25) (.s 29) (.v (.bool false))),I 13 (.mv (.s 30))])
def ZbC:PC :=
 (.reg [2] [I 2 (.mv (V 1))])
def ZbD:PC :=
 (.reg [1,3,31] [I 32 (.fadr 0 (.s 1)),I 33 (.ld false 1 (.s 32)),I 34 (.bin .neq (.s 33) (.v (.int .u64 0))),I 35 (.mv (.s 34)),G 36 35 true (.fadr 5 (.s 1)),G 37 35 true (.ld false 1 (.s 36)),G 38 35 true (.bin .eql (.s 37) (.v (.str []))),I 39 (.pick (.s 35) (.s 38) (.v (.bool false))),I 40 (.mv (.s 39)),G 41 40 true (.fadr 6 (.s 1)),G 42 40 true (.ld false 1 (.s 41)),G 43 40 true (.len 1 (.s 42)),G 44 40 true (.bin .eql (.s 43) (V 0)),I 45 (.pick (.s 40) (.s 44) (.v (.bool false))),I 31 (.mv (.s 45))])
def ZbE:PC :=
 (.reg [2] [I 2 (.mv (V 2))])
def ZbF:PC :=
 (.reg [1,3,46] [I 47 (.mv (.s 3)),I 48 (.mv (.s 47)),G 49 48 true (.fadr 1 (.s 1)),G 50 48 true (.ld false 1 (.s 49)),G 51 48 true (.bin .eql (.s 50) (V 0)),I 52 (.pick (.s 48) (.s 51) (.v (.bool false))),I 53 (.mv (.s 52)),G 54 53 true (.fadr 6 (.s 1)),G 55 53 true (.ld false 1 (.s 54)),G 56 53 true (.len 1 (.s 55)),G 57 53 true (.bin .eql (.s 56) (V 0)),I 58 (.pick (.s 53) (.s 57) (.v (.bool false))),I 59 (.mv (.s 58)),G 60 59 true (.fadr 5 (.s 1)),G 61 59 true (.ld false 1 (.s 60)),G 62 59 true (.len 0 (.s 61)),G 63 59 true (.bin .leq (.s 62) (V 16)),I 64 (.pick (.s 59) (.s 63) (.v (.bool false))),I 46 (.mv (.s 64))])
def ZbG:PC :=
 (.reg [2] [I 2 (.mv (V 3))])
def ZbH:PC :=
 (.reg [65] [I 66 (.mv (.s 3)),I 67 (.mv (.s 66)),G 68 67 true (.fadr 5 (.s 1)),G 69 67 true (.ld false 1 (.s 68)),G 70 67 true (.bin .eql (.s 69) (.v (.str []))),I 71 (.pick (.s 67) (.s 70) (.v (.bool false))),I 72 (.mv (.s 71)),G 73 72 true (.fadr 1 (.s 1)),G 74 72 true (.ld false 1 (.s 73)),G 75 72 true (.bin .geq (.s 74) (V 1)),I 76 (.pick (.s 72) (.s 75) (.v (.bool false))),I 77 (.mv (.s 76)),G 78 77 true (.fadr 1 (.s 1)),G 79 77 true (.ld false 1 (.s 78)),G 80 77 true (.bin .leq (.s 79) (V 16)),I 81 (.pick (.s 77) (.s 80) (.v (.bool false))),I 82 (.mv (.s 81)),G 83 82 true (.fadr 6 (.s 1)),G 84 82 true (.ld false 1 (.s 83)),G 85 82 true (.len 1 (.s 84)),G 86 82 true (.bin .geq (.s 85) (V 2)),I 87 (.pick (.s 82) (.s 86) (.v (.bool false))),I 88 (.mv (.s 87)),G 89 88 true (.fadr 6 (.s 1)),G 90 88 true (.ld false 1 (.s 89)),G 91 88 true (.len 1 (.s 90)),G 92 88 true (.bin .leq (.s 91) (V 4)),I 93 (.pick (.s 88) (.s 92) (.v (.bool false))),I 65 (.mv (.s 93))])
def ZbI:PC :=
 (.reg [2] [I 2 (.mv (V 4))])
def ZXY:PC :=
 (.reg [2] [I 2 (.mv (V 0))])
def ZSG:PF:=⟨false,
 (.seq Za9
 (.seq ZbA
 (.seq (.block 0
 (.seq ZbB
 (.ite (.s 13)
 (.seq ZbC
 .ret)
 (.seq ZbD
 (.ite (.s 31)
 (.seq ZbE
 .ret)
 (.seq ZbF
 (.ite (.s 46)
 (.seq ZbG
 .ret)
 (.seq ZbH
 (.ite (.s 65)
 (.seq ZbI
 .ret)
 .skip)))))))))
 (.seq ZXY
 .ret)))),
 [.s 2]⟩
theorem Zgw:Zp Proofs.Tryz.prog false Zgv Proofs.Tryz.f139=some ZSG:=by kernel_rfl
def ZeW:List Hint:=[H [0,3],H [0,3,6],H [0,3,6,12],H [4,5],H [0,3,19],H [4,5],H [3,7],H [7],H [4,5]]
def ZXZ:PC :=
 (.reg [0,3] [I 3 (.box (.s 1)),I 4 (.mv (.v .nilptr)),I 5 (.mv (V 0))])
def ZXa:PC :=
 (.reg [0,3,6] [I 8 (.mv (.s 0)),I 9 (.ld true 7 (.s 3)),I 10 (C YQ [(.s 8),(.s 9)]),I 6 (.mv (.s 10))])
def ZXb:PC :=
 (.reg [0,3,6,12] [I 11 (.mv (.s 6)),I 12 (.bin .neq (.s 11) (V 0))])
def ZXc:PC :=
 (.reg [4,5] [I 13 (.mv (.s 6)),I 4 (.mv (.v .nilptr)),I 5 (.mv (.s 13))])
def ZXd:PC :=
 (.reg [0,3,19] [I 14 (.ld true 7 (.s 3)),I 15 (C ZAi [(.s 14)]),I 16 (.mv (.s 0)),I 17 (C XH [(.s 16)]),I 18 (.fld false 1 1 (.s 17)),I 19 (.bin .gtr (.s 15) (.s 18))])
def ZXe:PC :=
 (.reg [4,5] [I 4 (.mv (.v .nilptr)),I 5 (.mv (V 6))])
def ZXf:PC :=
 (.reg [3,7] [I 20 (.mv (.s 0)),I 21 (.build [.nilptr,.nils,.nilptr] [(0,1,(.s 20))]),I 22 (.box (.s 21)),I 7 (.mv (.s 22))])
def ZXg:PC :=
 (.reg [7] [I 23 (.mv (.s 7)),I 24 (.mv (.s 7)),I 25 (.ld true 7 (.s 3)),I 26 (C Qq [(.s 24),(.s 25)]),I 27 (.nilck (.s 23)),I 28 (.fadr 2 (.s 27)),J (.st 1 (.s 28) (.s 26))])
def ZXh:PC :=
 (.reg [4,5] [I 29 (.mv (.s 7)),I 4 (.mv (.s 29)),I 5 (.mv (V 0))])
def ZNr:PF:=⟨true,
 (.seq ZXZ
 (.seq (.seq ZXa
 (.seq ZXb
 (.ite (.s 12)
 (.seq ZXc
 .ret)
 .skip)))
 (.seq (.seq ZXd
 (.ite (.s 19)
 (.seq ZXe
 .ret)
 .skip))
 (.seq ZXf
 (.seq ZXg
 (.seq ZXh
 .ret)))))),
 [.s 4,.s 5]⟩
theorem ZeX:Zp Proofs.Tryz.prog true ZeW Proofs.Tryz.f140=some ZNr:=by kernel_rfl
def ZTT:List Hint:=[H [0],H [0,6],H [2,3,4],H [0,12],H [2,3,4],H [0,2,4],H [0,2,4,24],H [2,3,4],H [0,2],H [2,3,4]]
def ZNs:PC :=
 (.reg [0] [I 2 (.mv (.v (.int .u64 0))),I 3 (.mv (.v (.bool false))),I 4 (.mv (V 0))])
def ZNt:PC :=
 (.reg [0,6] [I 5 (.mv (.s 0)),I 6 (.eqs false 3 [] (.s 5) (.v .nilptr))])
def ZNu:PC :=
 (.reg [2,3,4] [I 2 (.mv (.v (.int .u64 0))),I 3 (.mv (.v (.bool false))),I 4 (.mv (V 1))])
def ZNv:PC :=
 (.reg [0,12] [I 7 (.mv (.s 0)),I 8 (.nilck (.s 7)),I 9 (.fadr 1 (.s 8)),I 10 (.ld false 1 (.s 9)),I 11 (.len 1 (.s 10)),I 12 (.bin .eql (.s 11) (V 0))])
def ZNw:PC :=
 (.reg [2,3,4] [I 2 (.mv (.v (.int .u64 0))),I 3 (.mv (.v (.bool true))),I 4 (.mv (V 0))])
def ZNx:PC :=
 (.reg [0,2,4] [I 14 (.mv (.s 0)),I 15 (.nilck (.s 14)),I 16 (.fadr 1 (.s 15)),I 17 (.ld false 1 (.s 16)),I 18 (.ixS 1 (.s 17) (V 0)),I 19 (.ld false 1 (.s 18)),I 20 (.call .norm (.s 19) []),I 13 (.mv (.s 20)),I 21 (.ext (.s 13) 0),I 22 (.ext (.s 13) 1),I 2 (.mv (.s 21)),I 4 (.mv (.s 22))])
def ZNy:PC :=
 (.reg [0,2,4,24] [I 23 (.mv (.s 4)),I 24 (.bin .neq (.s 23) (V 0))])
def ZNz:PC :=
 (.reg [2,3,4] [I 25 (.mv (.s 4)),I 2 (.mv (.v (.int .u64 0))),I 3 (.mv (.v (.bool false))),I 4 (.mv (.s 25))])
def ZN0:PC :=
 (.reg [0,2] [I 26 (.mv (.s 0)),I 27 (.mv (.s 0)),I 28 (.nilck (.s 27)),I 29 (.fadr 1 (.s 28)),I 30 (.ld false 1 (.s 29)),I 31 (.slc 1 (.s 30) (some (V 1)) none),I 32 (.nilck (.s 26)),I 33 (.fadr 1 (.s 32)),J (.st 1 (.s 33) (.s 31))])
def ZN1:PC :=
 (.reg [2,3,4] [I 34 (.mv (.s 2)),I 35 (.mv (.s 0)),I 36 (.nilck (.s 35)),I 37 (.fadr 1 (.s 36)),I 38 (.ld false 1 (.s 37)),I 39 (.len 1 (.s 38)),I 40 (.bin .eql (.s 39) (V 0)),I 2 (.mv (.s 34)),I 3 (.mv (.s 40)),I 4 (.mv (V 0))])
def ZHI:PF:=⟨false,
 (.seq ZNs
 (.seq (.seq ZNt
 (.ite (.s 6)
 (.seq ZNu
 .ret)
 .skip))
 (.seq (.seq ZNv
 (.ite (.s 12)
 (.seq ZNw
 .ret)
 .skip))
 (.seq ZNx
 (.seq (.seq ZNy
 (.ite (.s 24)
 (.seq ZNz
 .ret)
 .skip))
 (.seq ZN0
 (.seq ZN1
 .ret))))))),
 [.s 2,.s 3,.s 4]⟩
theorem ZTU:Zp Proofs.Tryz.prog false ZTT Proofs.Tryz.f141=some ZHI:=by kernel_rfl
def ZTV:List Hint:=[H [0,2],H [0,2,5],H [2,3],H [0,2,12],H [2,3],H [2,3]]
def ZN2:PC :=
 (.reg [0,2] [I 2 (.box (.v ZR)),I 3 (.mv (V 0))])
def ZN3:PC :=
 (.reg [0,2,5] [I 4 (.mv (.s 0)),I 5 (.eqs false 3 [] (.s 4) (.v .nilptr))])
def ZN4:PC :=
 (.reg [2,3] [I 6 (.build [(.int .u64 0),(.int .i64 0),(.int .i64 0),(.int .i64 0),(.int .i64 0)] []),J (.st 5 (.s 2) (.s 6)),I 3 (.mv (V 1))])
def ZN5:PC :=
 (.reg [0,2,12] [I 7 (.mv (.s 0)),I 8 (.nilck (.s 7)),I 9 (.fadr 1 (.s 8)),I 10 (.ld false 1 (.s 9)),I 11 (.len 1 (.s 10)),I 12 (.bin .gtr (.s 11) (V 0))])
def ZN6:PC :=
 (.reg [2,3] [I 13 (.build [(.int .u64 0),(.int .i64 0),(.int .i64 0),(.int .i64 0),(.int .i64 0)] []),J (.st 5 (.s 2) (.s 13)),I 3 (.mv (V 8))])
def ZN7:PC :=
 (.reg [2,3] [I 14 (.mv (.s 0)),I 15 (.nilck (.s 14)),I 16 (.fadr 2 (.s 15)),I 17 (.ld false 1 (.s 16)),I 18 (.nilck (.s 17)),I 19 (.ld true 5 (.s 18)),J (.st 5 (.s 2) (.s 19)),I 3 (.mv (V 0))])
def ZHJ:PF:=⟨false,
 (.seq ZN2
 (.seq (.seq ZN3
 (.ite (.s 5)
 (.seq ZN4
 .ret)
 .skip))
 (.seq (.seq ZN5
 (.ite (.s 12)
 (.seq ZN6
 .ret)
 .skip))
 (.seq ZN7
 .ret)))),
 [.c 2 true 5,.s 3]⟩
theorem ZTW:Zp Proofs.Tryz.prog false ZTV Proofs.Tryz.f142=some ZHJ:=by kernel_rfl
def Zgx:List Hint:=[H [0,2,4],H [0,2,4,10],H [0,2,4,10,16],H [6,7,8,9],H [0,2,4,26],H [6,7,8,9],H [9,11],H [6,7,8,9]]
def ZbJ:PC :=
 (.reg [0,2,4] [I 4 (.box (.s 1)),I 6 (.mv (.v (.str []))),I 7 (.mv (V 0)),I 8 (.mv (.v .nils)),I 9 (.mv (V 0))])
def ZbK:PC :=
 (.reg [0,2,4,10] [I 12 (.mv (.s 0)),I 13 (.ld true 5 (.s 4)),I 14 (C Y0 [(.s 12),(.s 13)]),I 10 (.mv (.s 14))])
def ZbL:PC :=
 (.reg [0,2,4,10,16] [I 15 (.mv (.s 10)),I 16 (.bin .neq (.s 15) (V 0))])
def ZbM:PC :=
 (.reg [6,7,8,9] [I 17 (.mv (.s 10)),I 6 (.mv (.v (.str []))),I 7 (.mv (V 0)),I 8 (.mv (.v .nils)),I 9 (.mv (.s 17))])
def ZbN:PC :=
 (.reg [0,2,4,26] [I 18 (.mv (.s 2)),I 19 (.bin .lss (.s 18) (V 0)),I 20 (.mv (.s 19)),G 21 20 false (.mv (.s 2)),G 22 20 false (.fadr 2 (.s 4)),G 23 20 false (.fadr 0 (.s 22)),G 24 20 false (.ld false 1 (.s 23)),G 25 20 false (.bin .geq (.s 21) (.s 24)),I 26 (.pick (.s 20) (.v (.bool true)) (.s 25))])
def ZbO:PC :=
 (.reg [6,7,8,9] [I 6 (.mv (.v (.str []))),I 7 (.mv (V 0)),I 8 (.mv (.v .nils)),I 9 (.mv (V 3))])
def ZbP:PC :=
 (.reg [9,11] [I 28 (.mv (.s 0)),I 29 (.ld true 5 (.s 4)),I 30 (.mv (.s 2)),I 31 (C ZA1 [(.s 28),(.s 29),(.s 30),(.v (.func (.func X8) [] [])),(.v (.func (.func ZAr) [] []))]),I 27 (.mv (.s 31)),I 32 (.ext (.s 27) 0),I 33 (.ext (.s 27) 1),I 11 (.box (.v (.agg [(.str []),(.int .i64 0),.nils]))),J (.st 3 (.s 11) (.s 32)),I 9 (.mv (.s 33))])
def ZbQ:PC :=
 (.reg [6,7,8,9] [I 34 (.fadr 0 (.s 11)),I 35 (.ld false 1 (.s 34)),I 36 (.fadr 1 (.s 11)),I 37 (.ld false 1 (.s 36)),I 38 (.fadr 2 (.s 11)),I 39 (.ld false 1 (.s 38)),I 40 (.mv (.s 9)),I 6 (.mv (.s 35)),I 7 (.mv (.s 37)),I 8 (.mv (.s 39)),I 9 (.mv (.s 40))])
def ZSH:PF:=⟨false,
 (.seq ZbJ
 (.seq (.seq ZbK
 (.seq ZbL
 (.ite (.s 16)
 (.seq ZbM
 .ret)
 .skip)))
 (.seq (.seq ZbN
 (.ite (.s 26)
 (.seq ZbO
 .ret)
 .skip))
 (.seq ZbP
 (.seq ZbQ
 .ret))))),
 [.s 6,.s 7,.s 8,.s 9]⟩
theorem Zgy:Zp Proofs.Tryz.prog false Zgx Proofs.Tryz.f144=some ZSH:=by kernel_rfl
def Zgz:List Hint:=[H [0,1,2,7],H [2,7,9,10],H [2,7,9,10,19],H [8],H [2,7,9,10,11],H [38],H [8],H [8]]
def ZbR:PC :=
 (.reg [0,1,2,7] [I 7 (.box (.s 3)),I 8 (.mv (V 0))])
def ZbS:PC :=
 (.reg [2,7,9,10] [I 13 (.mv (.s 0)),I 14 (.mv (.s 1)),I 15 (C QV [(.s 13),(.s 14)]),I 12 (.mv (.s 15)),I 16 (.ext (.s 12) 0),I 17 (.ext (.s 12) 1),I 9 (.box (.v ZN)),J (.st 3 (.s 9) (.s 16)),I 10 (.mv (.s 17))])
def ZbT:PC :=
 (.reg [2,7,9,10,19] [I 18 (.mv (.s 10)),I 19 (.bin .neq (.s 18) (V 0))])
def ZbU:PC :=
 (.reg [8] [I 20 (.mv (.s 10)),I 8 (.mv (.s 20))])
def ZbV:PC :=
 (.reg [2,7,9,10,11] [I 22 (.ld true 3 (.s 9)),I 23 (C YC [(.s 22)]),I 21 (.mv (.s 23)),I 24 (.ext (.s 21) 0),I 25 (.ext (.s 21) 1),I 11 (.box (.v ZM)),J (.st 3 (.s 11) (.s 24)),I 10 (.mv (.s 25))])
def ZbW:PC :=
 (.reg [38] [I 26 (.mv (.s 10)),I 27 (.bin .neq (.s 26) (V 0)),I 28 (.mv (.s 27)),G 29 28 false (.fadr 0 (.s 9)),G 30 28 false (.ld false 1 (.s 29)),G 31 28 false (.mv (.s 2)),G 32 28 false (.bin .neq (.s 30) (.s 31)),I 33 (.pick (.s 28) (.v (.bool true)) (.s 32)),I 34 (.mv (.s 33)),G 35 34 false (.ld true 3 (.s 11)),G 36 34 false (.ld true 3 (.s 7)),G 37 34 false (.eqs true 0 [(0,0),(1,0),(2,0)] (.s 35) (.s 36)),I 38 (.pick (.s 34) (.v (.bool true)) (.s 37))])
def ZbX:PC :=
 (.reg [8] [I 8 (.mv (V 23))])
def ZbY:PC :=
 (.reg [8] [I 8 (.mv (V 0))])
def ZSI:PF:=⟨false,
 (.seq ZbR
 (.seq ZbS
 (.seq (.seq ZbT
 (.ite (.s 19)
 (.seq ZbU
 .ret)
 .skip))
 (.seq ZbV
 (.seq (.seq ZbW
 (.ite (.s 38)
 (.seq ZbX
 .ret)
 .skip))
 (.seq ZbY
 .ret)))))),
 [.s 8]⟩
theorem Zg0:Zp Proofs.Tryz.prog false Zgz Proofs.Tryz.f149=some ZSI:=by kernel_rfl
def ZeY:List Hint:=[H [1],H [1,3],H [3,14,15,16],H [3,14,15,16,17],H [3,5,14,15,16],H [3,14,15,16],H [3,14,15,16],H [2]]
def ZXi:PC :=
 (.reg [1] [I 1 (.box (.s 0)),I 2 (.mv (V 0))])
def ZXj:PC :=
 (.reg [1,3] [I 6 (.fadr 2 (.s 1)),I 7 (.fadr 0 (.s 6)),I 8 (.ld false 1 (.s 7)),I 9 (.fadr 5 (.s 1)),I 10 (.ld false 1 (.s 9)),I 11 (.len 0 (.s 10)),I 12 (.bin .add (.s 8) (.s 11)),I 3 (.mv (.s 12))])
def ZXk:PC :=
 (.reg [3,14,15,16] [I 13 (.fadr 6 (.s 1)),I 14 (.ld false 1 (.s 13)),I 15 (.len 1 (.s 14)),I 16 (.mv (V 0))])
def ZXl:PC :=
 (.reg [3,14,15,16,17] [I 17 (.bin .lss (.s 16) (.s 15))])
def ZXm:PC :=
 (.reg [3,5,14,15,16] [I 18 (.ixS 7 (.s 14) (.s 16)),I 19 (.ld true 7 (.s 18)),I 5 (.box (.v ZT)),J (.st 7 (.s 5) (.s 19))])
def ZXn:PC :=
 (.reg [3,14,15,16] [I 20 (.mv (.s 3)),I 21 (.ld true 7 (.s 5)),I 22 (C Qs [(.s 21)]),I 23 (.bin .add (.s 20) (.s 22)),I 3 (.mv (.s 23))])
def ZXo:PC :=
 (.reg [3,14,15,16] [I 24 (.bin .add (.s 16) (V 1)),I 16 (.mv (.s 24))])
def ZXp:PC :=
 (.seq ZXl
 (.seq (.ite (.s 17)
 .skip
 (.exit 0))
 (.seq (.block 1
 (.seq ZXm
 ZXn))
 ZXo)))
def ZXq:PC :=
 (.reg [2] [I 25 (.mv (.s 3)),I 2 (.mv (.s 25))])
def ZN8:PF:=⟨false,
 (.seq ZXi
 (.seq ZXj
 (.seq (.seq ZXk
 (.block 0
 (.loop ZXp)))
 (.seq ZXq
 .ret)))),
 [.s 2]⟩
theorem ZeZ:Zp Proofs.Tryz.prog false ZeY Proofs.Tryz.f157=some ZN8:=by kernel_rfl
def Zic:List Hint:=[H [0,2,4,6,7],H [0,2,4,6,7,18],⟨[6,7,8],[],[],[],[(1,(.hide [(.s 6)])),(2,(.plain (.s 6)))],[]⟩,H [0,2,4,6,7,24],H [6,7,8],H [0,2,4,6,7,29],H [2,6,7,9,10],H [2,6,7,9,10,37],H [6,7,8],H [6,7,10,11,12],H [6,7,8],H [0,2,6,7,8,13],H [0,2,6,7,8,13,60],H [6,7,8],H [0,2,6,7,13,14],H [0,2,6,7,13,14,77],H [0,2,6,7,13,14],H [0,2,6,7,13,14],H [0,2,6,7,13,14,88],⟨[6,7,8],[],[(3,.pure)],[],[],[]⟩,H [0,6,7,8,13,14,15,16],H [0,6,7,8,13,14,15,16,109],H [6,7,8],⟨[0,6,7,8,13,14,16],[],[(4,.pure)],[],[],[]⟩,H [0,6,7,8,13,14,16,124],H [6,7,8],⟨[6,7,8],[],[(6,.pure)],[],[],[]⟩,H [6,7,8,140],H [6,7,8],⟨[6,7,8],[],[],[],[(1,(.hide [(.s 6)])),(2,(.plain (.s 6)))],[]⟩]
def Zea:PC :=
 (.reg [0,2,4,6,7] [I 4 (.box (.s 1)),I 6 (.box (.v ZT)),I 7 (.box (.v ZT)),I 8 (.mv (V 0))])
def Zeb:PC :=
 (.reg [0,2,4,6,7,18] [I 17 (.mv (.s 2)),I 18 (.bin .eql (.s 17) (V 0))])
def Zec:PC :=
 (.reg [6,7,8] [I 19 (.build [(.int .u64 0),(.int .i64 0),(.int .i64 0),(.int .i64 0),(.int .i64 0),(.str []),.nils] []),I 20 (.w (.hide [(.s 6)]) (.ld true 7 (.s 4))),J (.w (.plain (.s 6)) (.st 7 (.s 6) (.s 19))),J (.st 7 (.s 7) (.s 20)),I 8 (.mv (V 0))])
def Zed:PC :=
 (.reg [0,2,4,6,7,24] [I 21 (.mv (.s 2)),I 22 (.ld true 7 (.s 4)),I 23 (C Qs [(.s 22)]),I 24 (.bin .eql (.s 21) (.s 23))])
def Zee:PC :=
 (.reg [6,7,8] [I 25 (.ld true 7 (.s 4)),I 26 (.build [(.int .u64 0),(.int .i64 0),(.int .i64 0),(.int .i64 0),(.int .i64 0),(.str []),.nils] []),J (.st 7 (.s 6) (.s 25)),J (.st 7 (.s 7) (.s 26)),I 8 (.mv (V 0))])
def Zef:PC :=
 (.reg [0,2,4,6,7,29] [I 27 (.fadr 1 (.s 4)),I 28 (.ld false 1 (.s 27)),I 29 (.bin .eql (.s 28) (V 0))])
def Zeg:PC :=
 (.reg [2,6,7,9,10] [I 31 (.mv (.s 0)),I 32 (.ld true 7 (.s 4)),I 33 (C Xt [(.s 31),(.s 32)]),I 30 (.mv (.s 33)),I 34 (.ext (.s 30) 0),I 35 (.ext (.s 30) 1),I 9 (.mv (.s 34)),I 10 (.mv (.s 35))])
def Zeh:PC :=
 (.reg [2,6,7,9,10,37] [I 36 (.mv (.s 10)),I 37 (.bin .neq (.s 36) (V 0))])
def Zei:PC :=
 (.reg [6,7,8] [I 38 (.build [(.int .u64 0),(.int .i64 0),(.int .i64 0),(.int .i64 0),(.int .i64 0),(.str []),.nils] []),I 39 (.build [(.int .u64 0),(.int .i64 0),(.int .i64 0),(.int .i64 0),(.int .i64 0),(.str []),.nils] []),I 40 (.mv (.s 10)),J (.st 7 (.s 6) (.s 38)),J (.st 7 (.s 7) (.s 39)),I 8 (.mv (.s 40))])
def Zej:PC :=
 (.reg [6,7,10,11,12] [I 42 (.mv (.s 9)),I 43 (.mv (.s 2)),I 44 (C ZIx [(.s 42),(.s 43)]),I 41 (.mv (.s 44)),I 45 (.ext (.s 41) 0),I 46 (.ext (.s 41) 1),I 47 (.ext (.s 41) 2),I 11 (.mv (.s 45)),I 12 (.mv (.s 46)),I 10 (.mv (.s 47))])
def ZbZ:PC :=
 (.reg [6,7,8] [I 48 (.mv (.s 11)),I 49 (.build [(.int .u64 0),(.int .i64 0),(.int .i64 0),(.int .i64 0),(.int .i64 0),(.str []),.nils] [(5,1,(.s 48))]),I 50 (.mv (.s 12)),I 51 (.build [(.int .u64 0),(.int .i64 0),(.int .i64 0),(.int .i64 0),(.int .i64 0),(.str []),.nils] [(5,1,(.s 50))]),I 52 (.mv (.s 10)),J (.st 7 (.s 6) (.s 49)),J (.st 7 (.s 7) (.s 51)),I 8 (.mv (.s 52))])
def Zba:PC :=
 (.reg [0,2,6,7,8,13] [I 54 (.mv (.s 0)),I 55 (.ld true 7 (.s 4)),I 56 (C Jz [(.s 54),(.s 55)]),I 53 (.mv (.s 56)),I 57 (.ext (.s 53) 0),I 58 (.ext (.s 53) 1),I 13 (.mv (.s 57)),I 8 (.mv (.s 58))])
def Zbb:PC :=
 (.reg [0,2,6,7,8,13,60] [I 59 (.mv (.s 8)),I 60 (.bin .neq (.s 59) (V 0))])
def Zbc:PC :=
 (.reg [6,7,8] [I 61 (.build [(.int .u64 0),(.int .i64 0),(.int .i64 0),(.int .i64 0),(.int .i64 0),(.str []),.nils] []),I 62 (.build [(.int .u64 0),(.int .i64 0),(.int .i64 0),(.int .i64 0),(.int .i64 0),(.str []),.nils] []),I 63 (.mv (.s 8)),J (.st 7 (.s 6) (.s 61)),J (.st 7 (.s 7) (.s 62)),I 8 (.mv (.s 63))])
def Zbd:PC :=
 (.reg [0,2,6,7,13,14] [I 14 (.mv (V 0))])
def Zbe:PC :=
 (.reg [0,2,6,7,13,14,77] [I 64 (.mv (.s 14)),I 65 (.bin .add (.s 64) (V 1)),I 66 (.mv (.s 13)),I 67 (.len 1 (.s 66)),I 68 (.bin .lss (.s 65) (.s 67)),I 69 (.mv (.s 68)),G 70 69 true (.mv (.s 2)),G 71 69 true (.mv (.s 13)),G 72 69 true (.mv (.s 14)),G 73 69 true (.ixS 7 (.s 71) (.s 72)),G 74 69 true (.ld true 7 (.s 73)),G 75 69 true (C Qs [(.s 74)]),G 76 69 true (.bin .geq (.s 70) (.s 75)),I 77 (.pick (.s 69) (.s 76) (.v (.bool false)))])
def Zbf:PC :=
 (.reg [0,2,6,7,13,14] [I 78 (.mv (.s 2)),I 79 (.mv (.s 13)),I 80 (.mv (.s 14)),I 81 (.ixS 7 (.s 79) (.s 80)),I 82 (.ld true 7 (.s 81)),I 83 (C Qs [(.s 82)]),I 84 (.bin .sub (.s 78) (.s 83)),I 2 (.mv (.s 84))])
def Zbg:PC :=
 (.reg [0,2,6,7,13,14] [I 85 (.mv (.s 14)),I 86 (.bin .add (.s 85) (V 1)),I 14 (.mv (.s 86))])
def ZLP:PC :=
 (.seq (.seq Zbe
 (.ite (.s 77)
 .skip
 (.exit 0)))
 (.block 1
 (.seq Zbf
 Zbg)))
def Zbh:PC :=
 (.reg [0,2,6,7,13,14,88] [I 87 (.mv (.s 2)),I 88 (.bin .eql (.s 87) (V 0))])
def Zbi:PC :=
 (.reg [6,7,8] [I 89 (.mv (.s 13)),I 90 (.mv (.s 14)),I 91 (.slc 7 (.s 89) none (some (.s 90))),I 92 (.call .pure (.v (.func (.func QS) [] [])) [(.s 91)]),I 93 (.mv (.s 13)),I 94 (.mv (.s 14)),I 95 (.slc 7 (.s 93) (some (.s 94)) none),I 96 (C QS [(.s 95)]),J (.st 7 (.s 6) (.s 92)),J (.st 7 (.s 7) (.s 96)),I 8 (.mv (V 0))])
def Zbj:PC :=
 (.reg [0,6,7,8,13,14,15,16] [I 98 (.mv (.s 0)),I 99 (.mv (.s 13)),I 100 (.mv (.s 14)),I 101 (.ixS 7 (.s 99) (.s 100)),I 102 (.ld true 7 (.s 101)),I 103 (.mv (.s 2)),I 104 (C ZAg [(.s 98),(.s 102),(.s 103)]),I 97 (.mv (.s 104)),I 105 (.ext (.s 97) 0),I 106 (.ext (.s 97) 1),I 107 (.ext (.s 97) 2),I 15 (.box (.v ZT)),I 16 (.box (.v ZT)),J (.st 7 (.s 15) (.s 105)),J (.st 7 (.s 16) (.s 106)),I 8 (.mv (.s 107))])
def Zbk:PC :=
 (.reg [0,6,7,8,13,14,15,16,109] [I 108 (.mv (.s 8)),I 109 (.bin .neq (.s 108) (V 0))])
def Zbl:PC :=
 (.reg [6,7,8] [I 110 (.build [(.int .u64 0),(.int .i64 0),(.int .i64 0),(.int .i64 0),(.int .i64 0),(.str []),.nils] []),I 111 (.build [(.int .u64 0),(.int .i64 0),(.int .i64 0),(.int .i64 0),(.int .i64 0),(.str []),.nils] []),I 112 (.mv (.s 8)),J (.st 7 (.s 6) (.s 110)),J (.st 7 (.s 7) (.s 111)),I 8 (.mv (.s 112))])
def Zbm:PC :=
 (.reg [0,6,7,8,13,14,16] [I 114 (.mv (.s 0)),I 115 (.mv (.s 13)),I 116 (.mv (.s 14)),I 117 (.slc 7 (.s 115) none (some (.s 116))),I 118 (.call .pure (.v (.func (.func QS) [] [])) [(.s 117)]),I 119 (.ld true 7 (.s 15)),I 120 (C Yb [(.s 114),(.s 118),(.s 119)]),I 113 (.mv (.s 120)),I 121 (.ext (.s 113) 0),I 122 (.ext (.s 113) 1),J (.st 7 (.s 6) (.s 121)),I 8 (.mv (.s 122))])
def Zbn:PC :=
 (.reg [0,6,7,8,13,14,16,124] [I 123 (.mv (.s 8)),I 124 (.bin .neq (.s 123) (V 0))])
def Zbo:PC :=
 (.reg [6,7,8] [I 125 (.build [(.int .u64 0),(.int .i64 0),(.int .i64 0),(.int .i64 0),(.int .i64 0),(.str []),.nils] []),I 126 (.build [(.int .u64 0),(.int .i64 0),(.int .i64 0),(.int .i64 0),(.int .i64 0),(.str []),.nils] []),I 127 (.mv (.s 8)),J (.st 7 (.s 6) (.s 125)),J (.st 7 (.s 7) (.s 126)),I 8 (.mv (.s 127))])
def Zbp:PC :=
 (.reg [6,7,8] [I 129 (.mv (.s 0)),I 130 (.ld true 7 (.s 16)),I 131 (.mv (.s 13)),I 132 (.mv (.s 14)),I 133 (.bin .add (.s 132) (V 1)),I 134 (.slc 7 (.s 131) (some (.s 133)) none),I 135 (.call .pure (.v (.func (.func QS) [] [])) [(.s 134)]),I 136 (C Yb [(.s 129),(.s 130),(.s 135)]),I 128 (.mv (.s 136)),I 137 (.ext (.s 128) 0),I 138 (.ext (.s 128) 1),J (.st 7 (.s 7) (.s 137)),I 8 (.mv (.s 138))])
def Zbq:PC :=
 (.reg [6,7,8,140] [I 139 (.mv (.s 8)),I 140 (.bin .neq (.s 139) (V 0))])
def Zbr:PC :=
 (.reg [6,7,8] [I 141 (.build [(.int .u64 0),(.int .i64 0),(.int .i64 0),(.int .i64 0),(.int .i64 0),(.str []),.nils] []),I 142 (.build [(.int .u64 0),(.int .i64 0),(.int .i64 0),(.int .i64 0),(.int .i64 0),(.str []),.nils] []),I 143 (.mv (.s 8)),J (.st 7 (.s 6) (.s 141)),J (.st 7 (.s 7) (.s 142)),I 8 (.mv (.s 143))])
def Zbs:PC :=
 (.reg [6,7,8] [I 144 (.ld true 7 (.s 6)),I 145 (.w (.hide [(.s 6)]) (.ld true 7 (.s 7))),J (.w (.plain (.s 6)) (.st 7 (.s 6) (.s 144))),J (.st 7 (.s 7) (.s 145)),I 8 (.mv (V 0))])
def ZXr:PF:=⟨false,
 (.seq Zea
 (.seq (.seq Zeb
 (.ite (.s 18)
 (.seq Zec
 .ret)
 .skip))
 (.seq (.seq Zed
 (.ite (.s 24)
 (.seq Zee
 .ret)
 .skip))
 (.seq (.seq Zef
 (.ite (.s 29)
 (.seq Zeg
 (.seq (.seq Zeh
 (.ite (.s 37)
 (.seq Zei
 .ret)
 .skip))
 (.seq Zej
 (.seq ZbZ
 .ret))))
 .skip))
 (.seq Zba
 (.seq (.seq Zbb
 (.ite (.s 60)
 (.seq Zbc
 .ret)
 .skip))
 (.seq Zbd
 (.seq (.block 0
 (.loop ZLP))
 (.seq (.seq Zbh
 (.ite (.s 88)
 (.seq Zbi
 .ret)
 .skip))
 (.seq Zbj
 (.seq (.seq Zbk
 (.ite (.s 109)
 (.seq Zbl
 .ret)
 .skip))
 (.seq (.seq Zbm
 (.seq Zbn
 (.ite (.s 124)
 (.seq Zbo
 .ret)
 .skip)))
 (.seq (.seq Zbp
 (.seq Zbq
 (.ite (.s 140)
 (.seq Zbr
 .ret)
 .skip)))
 (.seq Zbs
 .ret)))))))))))))),
 [.c 6 true 7,.c 7 true 7,.s 8]⟩
theorem Zid:Zp Proofs.Tryz.prog false Zic Proofs.Tryz.f158=some ZXr:=by kernel_rfl
def Zie:List Hint:=[H [1,2],H [1,2,9],H [1,2],H [2],H [1,2,3],H [1,2,3,17,18,19],H [1,2,3,17,18,19,20],H [1,2,3,4,5,17,18,19],H [1,2,3,17,18,19],H [1,2,3,17,18,19],H [1,2],H [2]]
def Zek:PC :=
 (.reg [1,2] [I 1 (.box (.s 0)),I 2 (.box (.v ZT))])
def Zel:PC :=
 (.reg [1,2,9] [I 6 (.fadr 6 (.s 1)),I 7 (.ld false 1 (.s 6)),I 8 (.len 1 (.s 7)),I 9 (.bin .eql (.s 8) (V 0))])
def Zem:PC :=
 (.reg [1,2] [I 10 (.fadr 6 (.s 1)),J (.st 1 (.s 10) (.v .nils))])
def Zen:PC :=
 (.reg [2] [I 11 (.ld true 7 (.s 1)),J (.st 7 (.s 2) (.s 11))])
def Zeo:PC :=
 (.reg [1,2,3] [I 12 (.fadr 6 (.s 1)),I 13 (.ld false 1 (.s 12)),I 14 (.len 1 (.s 13)),I 15 (.mkslice 7 80 ZT (.s 14) (.s 14)),I 3 (.mv (.s 15))])
def Zep:PC :=
 (.reg [1,2,3,17,18,19] [I 16 (.fadr 6 (.s 1)),I 17 (.ld false 1 (.s 16)),I 18 (.len 1 (.s 17)),I 19 (.mv (V 0))])
def Zeq:PC :=
 (.reg [1,2,3,17,18,19,20] [I 20 (.bin .lss (.s 19) (.s 18))])
def Zer:PC :=
 (.reg [1,2,3,4,5,17,18,19] [I 21 (.mv (.s 19)),I 22 (.ixS 7 (.s 17) (.s 19)),I 23 (.ld true 7 (.s 22)),I 5 (.box (.v ZT)),I 4 (.mv (.s 21)),J (.st 7 (.s 5) (.s 23))])
def Zes:PC :=
 (.reg [1,2,3,17,18,19] [I 24 (.mv (.s 3)),I 25 (.mv (.s 4)),I 26 (.ld true 7 (.s 5)),I 27 (C ZCc [(.s 26)]),I 28 (.ixS 7 (.s 24) (.s 25)),J (.st 7 (.s 28) (.s 27))])
def Zet:PC :=
 (.reg [1,2,3,17,18,19] [I 29 (.bin .add (.s 19) (V 1)),I 19 (.mv (.s 29))])
def Zbt:PC :=
 (.seq Zeq
 (.seq (.ite (.s 20)
 .skip
 (.exit 0))
 (.seq (.block 1
 (.seq Zer
 Zes))
 Zet)))
def Zbu:PC :=
 (.reg [1,2] [I 30 (.mv (.s 3)),I 31 (.fadr 6 (.s 1)),J (.st 1 (.s 31) (.s 30))])
def Zbv:PC :=
 (.reg [2] [I 32 (.ld true 7 (.s 1)),J (.st 7 (.s 2) (.s 32))])
def ZXs:PF:=⟨false,
 (.seq Zek
 (.seq (.seq Zel
 (.ite (.s 9)
 (.seq Zem
 (.seq Zen
 .ret))
 .skip))
 (.seq Zeo
 (.seq (.seq Zep
 (.block 0
 (.loop Zbt)))
 (.seq Zbu
 (.seq Zbv
 .ret)))))),
 [.c 2 true 7]⟩
theorem Zif:Zp Proofs.Tryz.prog false Zie Proofs.Tryz.f159=some ZXs:=by kernel_rfl
def ZIR:List Hint:=[H [0,1],⟨[0,1,5],[0],[],[],[],[]⟩,H [0,1,5,9],H [4],H [1,5,14,15,16],H [1,5,14,15,16,17],H [1,5,6,7,14,15,16],H [1,5,6,14,15,16,23],H [1,5,14,15,16],H [1,5,14,15,16],H [4]]
def ZEn:PC :=
 (.reg [0,1] [I 4 (.mv (.v .nils))])
def ZEo:PC :=
 (.reg [0,1,5] [I 5 (.onil 1)])
def ZEp:PC :=
 (.reg [0,1,5,9] [I 8 (.mv (.s 0)),I 9 (.eqs false 3 [] (.s 8) (.v .nilptr))])
def ZEq:PC :=
 (.reg [4] [I 10 (.mv (.s 5)),I 4 (.mv (.s 10))])
def ZEr:PC :=
 (.reg [1,5,14,15,16] [I 11 (.mv (.s 0)),I 12 (.nilck (.s 11)),I 13 (.fadr 1 (.s 12)),I 14 (.ld false 1 (.s 13)),I 15 (.len 1 (.s 14)),I 16 (.mv (V 0))])
def ZEs:PC :=
 (.reg [1,5,14,15,16,17] [I 17 (.bin .lss (.s 16) (.s 15))])
def ZEt:PC :=
 (.reg [1,5,6,7,14,15,16] [I 18 (.mv (.s 16)),I 19 (.ixS 1 (.s 14) (.s 16)),I 20 (.ld false 1 (.s 19)),I 6 (.mv (.s 18)),I 7 (.mv (.s 20))])
def ZEu:PC :=
 (.reg [1,5,6,14,15,16,23] [I 21 (.mv (.s 7)),I 22 (.mv (.s 1)),I 23 (.bin .eql (.s 21) (.s 22))])
def ZEv:PC :=
 (.reg [1,5,14,15,16] [I 24 (.mv (.s 5)),I 25 (.mv (.s 6)),I 26 (.bslice false 1 [(.int .i64 0)] [(0,(.s 25))]),I 27 (.app 1 8 (.s 24) (.s 26)),I 5 (.mv (.s 27))])
def ZEw:PC :=
 (.reg [1,5,14,15,16] [I 28 (.bin .add (.s 16) (V 1)),I 16 (.mv (.s 28))])
def ZEO:PC :=
 (.seq ZEs
 (.seq (.ite (.s 17)
 .skip
 (.exit 0))
 (.seq (.block 1
 (.seq ZEt
 (.seq ZEu
 (.ite (.s 23)
 ZEv
 .skip))))
 ZEw)))
def ZEP:PC :=
 (.reg [4] [I 29 (.mv (.s 5)),I 4 (.mv (.s 29))])
def ZAS:PF:=⟨false,
 (.seq ZEn
 (.seq ZEo
 (.seq (.seq ZEp
 (.ite (.s 9)
 (.seq ZEq
 .ret)
 .skip))
 (.seq (.seq ZEr
 (.block 0
 (.loop ZEO)))
 (.seq ZEP
 .ret))))),
 [.s 4]⟩
theorem ZIS:Zp Proofs.Tryz.prog false ZIR Proofs.Tryz.f164=some ZAS:=by kernel_rfl
def ZTX:List Hint:=[H [0,2,4],H [0,2,4,8],H [0,2,4,8,15],H [6,7],H [0,2,4,25],H [6,7],H [0,2,4,30],H [6,7],H [9,10],H [6,7]]
def ZN9:PC :=
 (.reg [0,2,4] [I 4 (.box (.s 1)),I 6 (.mv (.v (.bool false))),I 7 (.mv (V 0))])
def ZOA:PC :=
 (.reg [0,2,4,8] [I 11 (.mv (.s 0)),I 12 (.ld true 5 (.s 4)),I 13 (C Y0 [(.s 11),(.s 12)]),I 8 (.mv (.s 13))])
def ZOB:PC :=
 (.reg [0,2,4,8,15] [I 14 (.mv (.s 8)),I 15 (.bin .neq (.s 14) (V 0))])
def ZOC:PC :=
 (.reg [6,7] [I 16 (.mv (.s 8)),I 6 (.mv (.v (.bool false))),I 7 (.mv (.s 16))])
def ZOD:PC :=
 (.reg [0,2,4,25] [I 17 (.mv (.s 2)),I 18 (.bin .lss (.s 17) (V 0)),I 19 (.mv (.s 18)),G 20 19 false (.mv (.s 2)),G 21 19 false (.fadr 2 (.s 4)),G 22 19 false (.fadr 0 (.s 21)),G 23 19 false (.ld false 1 (.s 22)),G 24 19 false (.bin .gtr (.s 20) (.s 23)),I 25 (.pick (.s 19) (.v (.bool true)) (.s 24))])
def ZOE:PC :=
 (.reg [6,7] [I 6 (.mv (.v (.bool false))),I 7 (.mv (V 3))])
def ZOF:PC :=
 (.reg [0,2,4,30] [I 26 (.mv (.s 2)),I 27 (.fadr 2 (.s 4)),I 28 (.fadr 0 (.s 27)),I 29 (.ld false 1 (.s 28)),I 30 (.bin .eql (.s 26) (.s 29))])
def ZOG:PC :=
 (.reg [6,7] [I 6 (.mv (.v (.bool true))),I 7 (.mv (V 0))])
def ZOH:PC :=
 (.reg [9,10] [I 32 (.mv (.s 0)),I 33 (.ld true 5 (.s 4)),I 34 (.mv (.s 2)),I 35 (C ZDx [(.s 32),(.s 33),(.s 34)]),I 31 (.mv (.s 35)),I 36 (.ext (.s 31) 0),I 37 (.ext (.s 31) 1),I 9 (.mv (.s 36)),I 10 (.mv (.s 37))])
def ZOI:PC :=
 (.reg [6,7] [I 38 (.mv (.s 10)),I 39 (.bin .eql (.s 38) (V 0)),I 40 (.mv (.s 39)),G 41 40 true (.mv (.s 9)),G 42 40 true (.bin .lss (.s 41) (.v (.int .u8 128))),G 43 40 true (.mv (.s 42)),G 44 43 false (.mv (.s 9)),G 45 43 false (.bin .gtr (.s 44) (.v (.int .u8 191))),G 46 40 true (.pick (.s 43) (.v (.bool true)) (.s 45)),I 47 (.pick (.s 40) (.s 46) (.v (.bool false))),I 48 (.mv (.s 10)),I 6 (.mv (.s 47)),I 7 (.mv (.s 48))])
def ZHK:PF:=⟨false,
 (.seq ZN9
 (.seq (.seq ZOA
 (.seq ZOB
 (.ite (.s 15)
 (.seq ZOC
 .ret)
 .skip)))
 (.seq (.seq ZOD
 (.ite (.s 25)
 (.seq ZOE
 .ret)
 .skip))
 (.seq (.seq ZOF
 (.ite (.s 30)
 (.seq ZOG
 .ret)
 .skip))
 (.seq ZOH
 (.seq ZOI
 .ret)))))),
 [.s 6,.s 7]⟩
theorem ZTY:Zp Proofs.Tryz.prog false ZTX Proofs.Tryz.f176=some ZHK:=by kernel_rfl
def ZLB:List Hint:=[H [0,1,2,3],H [0,2,3,9,10],H [0,2,3,9,10,21],H [8],⟨[0],[],[],[],[(9,.imm)],[]⟩,H [],H [8]]
def ZIT:PC :=
 (.reg [0,1,2,3] [I 8 (.mv (V 0))])
def ZIU:PC :=
 (.reg [0,2,3,9,10] [I 12 (.mv (.s 0)),I 13 (.nilck (.s 12)),I 14 (.fadr 0 (.s 13)),I 15 (.ld false 1 (.s 14)),I 16 (.mv (.s 1)),I 17 (C QV [(.s 15),(.s 16)]),I 11 (.mv (.s 17)),I 18 (.ext (.s 11) 0),I 19 (.ext (.s 11) 1),I 9 (.box (.v ZN)),J (.st 3 (.s 9) (.s 18)),I 10 (.mv (.s 19))])
def ZIV:PC :=
 (.reg [0,2,3,9,10,21] [I 20 (.mv (.s 10)),I 21 (.bin .neq (.s 20) (V 0))])
def ZIW:PC :=
 (.reg [8] [I 22 (.mv (.s 10)),I 8 (.mv (.s 22))])
def ZIX:PC :=
 (.reg [0] [I 23 (.mv (.s 0)),I 24 (.mv (.s 0)),I 25 (.nilck (.s 24)),I 26 (.fadr 6 (.s 25)),I 27 (.ld false 1 (.s 26)),I 28 (.ld true 3 (.s 9)),I 29 (.mv (.s 2)),I 30 (.mv (.s 3)),I 31 (.build [(.int .i64 0),(.str []),.nils,(.int .i64 0),(.int .i64 0)] [(0,3,(.s 28)),(3,1,(.s 29)),(4,1,(.s 30))]),I 32 (.w .imm (.bslice false 5 [(.agg [(.int .i64 0),(.str []),.nils,(.int .i64 0),(.int .i64 0)])] [(0,(.s 31))])),I 33 (.app 5 64 (.s 27) (.s 32)),I 34 (.nilck (.s 23)),I 35 (.fadr 6 (.s 34)),J (.st 1 (.s 35) (.s 33))])
def ZIY:PC :=
 (.reg [] [I 36 (.mv (.s 0)),I 37 (.nilck (.s 36)),I 38 (.fadr 7 (.s 37)),I 39 (.ld false 1 (.s 38)),I 40 (.bin .add (.s 39) (V 1)),I 41 (.nilck (.s 36)),I 42 (.fadr 7 (.s 41)),J (.st 1 (.s 42) (.s 40))])
def ZIZ:PC :=
 (.reg [8] [I 8 (.mv (V 0))])
def ZBm:PF:=⟨true,
 (.seq ZIT
 (.seq ZIU
 (.seq (.seq ZIV
 (.ite (.s 21)
 (.seq ZIW
 .ret)
 .skip))
 (.seq ZIX
 (.seq ZIY
 (.seq ZIZ
 .ret)))))),
 [.s 8]⟩
theorem ZLC:Zp Proofs.Tryz.prog true ZLB Proofs.Tryz.f177=some ZBm:=by kernel_rfl
def ZDl:List Hint:=[H []]
def ZCC:PC :=
 (.reg [] [I 3 (.ld false 1 (.s 1)),I 4 (.mv (.s 0)),I 5 (.bslice false 1 [(.int .u8 0)] [(0,(.s 4))]),I 6 (.app 1 1 (.s 3) (.s 5)),J (.st 1 (.s 1) (.s 6))])
def XC:PF:=⟨false,
 ZCC,
 []⟩
theorem ZDm:Zp Proofs.Tryz.prog false ZDl Proofs.Tryz.f178=some XC:=by kernel_rfl
def ZJ0:List Hint:=[H [0,1],H [4]]
def ZGe:PC :=
 (.reg [0,1] [I 4 (.mv (V 0))])
def ZGf:PC :=
 (.reg [4] [I 5 (.mv (.s 1)),I 6 (.mv (.s 0)),I 7 (.nilck (.s 6)),I 8 (.fadr 1 (.s 7)),I 9 (.fadr 2 (.s 8)),I 10 (.fadr 0 (.s 9)),I 11 (.ld false 1 (.s 10)),I 12 (.bin .sub (.s 11) (V 1)),I 13 (.mnx false (.s 5) (.s 12)),I 4 (.mv (.s 13))])
def ZA6:PF:=⟨false,
 (.seq ZGe
 (.seq ZGf
 .ret)),
 [.s 4]⟩
theorem ZJ1:Zp Proofs.Tryz.prog false ZJ0 Proofs.Tryz.f180=some ZA6:=by kernel_rfl
def Zg1:List Hint:=[H [0,2,3,4,6,10],H [0,3,4,6,10,12],H [0,3,4,10,12,13],H [0,3,4,10,12,13,14,15],H [0,3,4,10,12,13,14,15,31],H [10,11],H [0,3,4,10,12,14],H [0,3,4,10,12,14,42],H [10,12],H [10,11],H [0,3,4,10,12,14,15,16,17],H [0,3,4,10,12,14,15,16,17,57],H [10,11],H [0,3,4,10,12,14,16,17,63,64,65],H [0,3,4,10,12,14,16,17,63,64,65,66],H [0,3,4,10,12,14,16,17,19,63,64,65],H [0,3,4,10,12,14,16,17,63,64,65],H [0,3,4,10,12,14,16,17,63,64,65],⟨[0,3,4,10,12,13],[],[],[],[(6,(.hide [(.s 12)])),(8,(.plain (.s 12))),(4,(.hide [(.s 12)])),(2,(.hide [(.s 12)]))],[]⟩]
def Zbw:PC :=
 (.reg [0,2,3,4,6,10] [I 6 (.box (.s 1)),I 10 (.box (.v (.agg [(.str []),(.int .i64 0),.nils]))),I 11 (.mv (V 0))])
def Zbx:PC :=
 (.reg [0,3,4,6,10,12] [I 20 (.mv (.s 2)),I 21 (.build [(.str []),(.int .i64 0),.nils] [(1,1,(.s 20))]),I 12 (.box (.v (.agg [(.str []),(.int .i64 0),.nils]))),J (.st 3 (.s 12) (.s 21))])
def Zby:PC :=
 (.reg [0,3,4,10,12,13] [I 22 (.fadr 0 (.s 6)),I 23 (.ld false 1 (.s 22)),I 13 (.mv (.s 23))])
def Zbz:PC :=
 (.reg [0,3,4,10,12,13,14,15] [I 25 (.mv (.s 0)),I 26 (.mv (.s 13)),I 27 (C QV [(.s 25),(.s 26)]),I 24 (.mv (.s 27)),I 28 (.ext (.s 24) 0),I 29 (.ext (.s 24) 1),I 14 (.box (.v ZN)),J (.st 3 (.s 14) (.s 28)),I 15 (.mv (.s 29))])
def Zb0:PC :=
 (.reg [0,3,4,10,12,13,14,15,31] [I 30 (.mv (.s 15)),I 31 (.bin .neq (.s 30) (V 0))])
def Zb1:PC :=
 (.reg [10,11] [I 32 (.build [(.str []),(.int .i64 0),.nils] []),I 33 (.mv (.s 15)),J (.st 3 (.s 10) (.s 32)),I 11 (.mv (.s 33))])
def ZLQ:PC :=
 (.reg [0,3,4,10,12,14] [I 34 (.fadr 2 (.s 12)),I 35 (.ld false 1 (.s 34)),I 36 (.mv (.s 13)),I 37 (.bslice false 1 [(.int .u64 0)] [(0,(.s 36))]),I 38 (.app 1 8 (.s 35) (.s 37)),I 39 (.fadr 2 (.s 12)),J (.st 1 (.s 39) (.s 38))])
def Zb2:PC :=
 (.reg [0,3,4,10,12,14,42] [I 40 (.fadr 0 (.s 14)),I 41 (.ld false 1 (.s 40)),I 42 (.bin .eql (.s 41) (V 0))])
def Zb3:PC :=
 (.reg [10,12] [I 43 (.fadr 1 (.s 14)),I 44 (.ld false 1 (.s 43)),I 45 (.fadr 0 (.s 12)),J (.st 1 (.s 45) (.s 44))])
def Zb4:PC :=
 (.reg [10,11] [I 46 (.ld true 3 (.s 12)),J (.st 3 (.s 10) (.s 46)),I 11 (.mv (V 0))])
def ZXt:PC :=
 (.reg [0,3,4,10,12,14,15,16,17] [I 48 (.mv (.s 3)),I 49 (.ld true 3 (.s 14)),I 50 (.fadr 1 (.s 12)),I 51 (.ld false 1 (.s 50)),I 52 (.call .norm (.s 48) [(.s 49),(.s 51)]),I 47 (.mv (.s 52)),I 53 (.ext (.s 47) 0),I 54 (.ext (.s 47) 1),I 55 (.ext (.s 47) 2),I 16 (.mv (.s 53)),I 17 (.mv (.s 54)),I 15 (.mv (.s 55))])
def ZXu:PC :=
 (.reg [0,3,4,10,12,14,15,16,17,57] [I 56 (.mv (.s 15)),I 57 (.bin .neq (.s 56) (V 0))])
def ZXv:PC :=
 (.reg [10,11] [I 58 (.build [(.str []),(.int .i64 0),.nils] []),I 59 (.mv (.s 15)),J (.st 3 (.s 10) (.s 58)),I 11 (.mv (.s 59))])
def ZXw:PC :=
 (.reg [0,3,4,10,12,14,16,17,63,64,65] [I 60 (.fadr 2 (.s 14)),I 61 (.ld false 1 (.s 60)),I 62 (.mv (.s 16)),I 63 (.slc 4 (.s 61) none (some (.s 62))),I 64 (.len 1 (.s 63)),I 65 (.mv (V 0))])
def ZXx:PC :=
 (.reg [0,3,4,10,12,14,16,17,63,64,65,66] [I 66 (.bin .lss (.s 65) (.s 64))])
def ZXy:PC :=
 (.reg [0,3,4,10,12,14,16,17,19,63,64,65] [I 67 (.ixS 4 (.s 63) (.s 65)),I 68 (.ld true 4 (.s 67)),I 19 (.box (.v ZK)),J (.st 4 (.s 19) (.s 68))])
def ZXz:PC :=
 (.reg [0,3,4,10,12,14,16,17,63,64,65] [I 69 (.mv (.s 4)),I 70 (.fadr 1 (.s 19)),I 71 (.ld true 3 (.s 70)),I 72 (.call .norm (.s 69) [(.s 71)])])
def ZX0:PC :=
 (.reg [0,3,4,10,12,14,16,17,63,64,65] [I 73 (.bin .add (.s 65) (V 1)),I 65 (.mv (.s 73))])
def p_seek_walk_18:PC :=
 (.seq ZXx
 (.seq (.ite (.s 66)
 .skip
 (.exit 2))
 (.seq (.block 3
 (.seq ZXy
 ZXz))
 ZX0)))
def ZX1:PC :=
 (.reg [0,3,4,10,12,13] [I 74 (.mv (.s 17)),I 75 (.fadr 2 (.s 14)),I 76 (.w (.hide [(.s 12)]) (.ld false 1 (.s 75))),I 77 (.mv (.s 16)),I 78 (.w (.hide [(.s 12)]) (.ixS 4 (.s 76) (.s 77))),I 79 (.fadr 0 (.s 78)),I 80 (.w (.hide [(.s 12)]) (.ld false 1 (.s 79))),I 81 (.fadr 1 (.s 12)),J (.w (.plain (.s 12)) (.st 1 (.s 81) (.s 74))),I 13 (.mv (.s 80))])
def ZX2:PC :=
 (.block 1
 (.seq Zbz
 (.seq (.seq Zb0
 (.ite (.s 31)
 (.seq Zb1
 .ret)
 .skip))
 (.seq ZLQ
 (.seq (.seq Zb2
 (.ite (.s 42)
 (.seq Zb3
 (.seq Zb4
 .ret))
 .skip))
 (.seq ZXt
 (.seq (.seq ZXu
 (.ite (.s 57)
 (.seq ZXv
 .ret)
 .skip))
 (.seq (.seq ZXw
 (.block 2
 (.loop p_seek_walk_18)))
 ZX1))))))))
def ZSJ:PF:=⟨false,
 (.seq Zbw
 (.seq Zbx
 (.seq Zby
 (.block 0
 (.loop ZX2))))),
 [.c 10 true 3,.s 11]⟩
theorem Zg2:Zp Proofs.Tryz.prog false Zg1 Proofs.Tryz.f181=some ZSJ:=by kernel_rfl
def Zeu:List Hint:=[H [1,2],H [4,5,6]]
def ZX3:PC :=
 (.reg [1,2] [I 2 (.box (.s 0)),I 4 (.mv (V 0)),I 5 (.mv (V 0)),I 6 (.mv (V 0))])
def ZX4:PC :=
 (.reg [4,5,6] [I 7 (.ld true 3 (.s 2)),I 8 (.mv (.s 1)),I 9 (C XP [(.s 7),(.s 8),(.v (.func (.func ZCf) [] []))]),I 10 (.ext (.s 9) 0),I 11 (.ext (.s 9) 1),I 12 (.ext (.s 9) 2),I 4 (.mv (.s 10)),I 5 (.mv (.s 11)),I 6 (.mv (.s 12))])
def ZOJ:PF:=⟨false,
 (.seq ZX3
 (.seq ZX4
 .ret)),
 [.s 4,.s 5,.s 6]⟩
theorem Zev:Zp Proofs.Tryz.prog false Zeu Proofs.Tryz.f182=some ZOJ:=by kernel_rfl
def ZTZ:List Hint:=[H [1,2,3],⟨[],[],[(3,.pure)],[],[],[]⟩]
def ZOK:PC :=
 (.reg [1,2,3] [I 3 (.box (.s 0))])
def ZOL:PC :=
 (.reg [] [I 4 (.ld false 1 (.s 1)),I 5 (.ld false 1 (.s 2)),I 6 (.ld true 3 (.s 3)),I 7 (.call .pure (.s 5) [(.s 6)]),I 8 (.bin .add (.s 4) (.s 7)),J (.st 1 (.s 1) (.s 8))])
def ZHL:PF:=⟨false,
 (.seq ZOK
 ZOL),
 []⟩
theorem ZTa:Zp Proofs.Tryz.prog false ZTZ Proofs.Tryz.f183=some ZHL:=by kernel_rfl
def ZQM:List Hint:=[H [0,1,2],H [0,1,2,15],H [6,7],H [6,7]]
def ZMJ:PC :=
 (.reg [0,1,2] [I 6 (.mv (V 0)),I 7 (.mv (V 0))])
def ZMK:PC :=
 (.reg [0,1,2,15] [I 8 (.mv (.s 1)),I 9 (.bin .lss (.s 8) (V 0)),I 10 (.mv (.s 9)),G 11 10 false (.mv (.s 1)),G 12 10 false (.mv (.s 0)),G 13 10 false (.len 0 (.s 12)),G 14 10 false (.bin .gtr (.s 11) (.s 13)),I 15 (.pick (.s 10) (.v (.bool true)) (.s 14))])
def ZML:PC :=
 (.reg [6,7] [I 6 (.mv (V 0)),I 7 (.mv (V 3))])
def ZMM:PC :=
 (.reg [6,7] [I 16 (.mv (.s 0)),I 17 (.mv (.s 1)),I 18 (.slcS (.s 16) none (some (.s 17))),I 19 (.mv (.s 2)),I 20 (C Xc [(.s 18),(.s 19)]),I 6 (.mv (.s 20)),I 7 (.mv (V 0))])
def ZEx:PF:=⟨false,
 (.seq ZMJ
 (.seq (.seq ZMK
 (.ite (.s 15)
 (.seq ZML
 .ret)
 .skip))
 (.seq ZMM
 .ret))),
 [.s 6,.s 7]⟩
theorem ZQN:Zp Proofs.Tryz.prog false ZQM Proofs.Tryz.f184=some ZEx:=by kernel_rfl
def ZTb:List Hint:=[H [0],H [2]]
def ZOM:PC :=
 (.reg [0] [I 2 (.mv (.v (.bool false)))])
def ZON:PC :=
 (.reg [2] [I 3 (.mv (.s 0)),I 4 (.bin .eql (.s 3) (.v (.int .u8 10))),I 2 (.mv (.s 4))])
def ZHM:PF:=⟨false,
 (.seq ZOM
 (.seq ZON
 .ret)),
 [.s 2]⟩
theorem ZTc:Zp Proofs.Tryz.prog false ZTb Proofs.Tryz.f185=some ZHM:=by kernel_rfl
def ZX5:List Hint:=[H [1,2],H [1,2,4],H [1,2,4,8],H [2,3],H [2,3]]
def ZQO:PC :=
 (.reg [1,2] [I 1 (.box (.s 0)),I 2 (.box (.v ZM)),I 3 (.mv (V 0))])
def ZQP:PC :=
 (.reg [1,2,4] [I 5 (.ld true 3 (.s 1)),I 6 (C X9 [(.s 5)]),I 4 (.mv (.s 6))])
def ZQQ:PC :=
 (.reg [1,2,4,8] [I 7 (.mv (.s 4)),I 8 (.bin .neq (.s 7) (V 0))])
def ZQR:PC :=
 (.reg [2,3] [I 9 (.build [(.int .i64 0),(.int .i64 0),(.int .i64 0)] []),I 10 (.mv (.s 4)),J (.st 3 (.s 2) (.s 9)),I 3 (.mv (.s 10))])
def ZQS:PC :=
 (.reg [2,3] [I 11 (.ld true 3 (.s 1)),I 12 (C ZCg [(.s 11)]),J (.st 3 (.s 2) (.s 12)),I 3 (.mv (V 0))])
def ZJ2:PF:=⟨false,
 (.seq ZQO
 (.seq (.seq ZQP
 (.seq ZQQ
 (.ite (.s 8)
 (.seq ZQR
 .ret)
 .skip)))
 (.seq ZQS
 .ret))),
 [.c 2 true 3,.s 3]⟩
theorem ZX6:Zp Proofs.Tryz.prog false ZX5 Proofs.Tryz.f186=some ZJ2:=by kernel_rfl
def ZTd:List Hint:=[H [1,2],H []]
def ZOO:PC :=
 (.reg [1,2] [I 2 (.box (.s 0))])
def ZOP:PC :=
 (.reg [] [I 3 (.ld false 1 (.s 1)),I 4 (.fadr 0 (.s 2)),I 5 (.ld false 1 (.s 4)),I 6 (.bin .add (.s 3) (.s 5)),J (.st 1 (.s 1) (.s 6))])
def ZHN:PF:=⟨false,
 (.seq ZOO
 ZOP),
 []⟩
theorem ZTe:Zp Proofs.Tryz.prog false ZTd Proofs.Tryz.f187=some ZHN:=by kernel_rfl
def Zb5:List Hint:=[H [1,2,3],H [1,2,3,9],H [1,2,3,9,15],H [6,7,8],H [1,2,3,19],H [6,7,8],H [1,2,3,21],H [6,7,8],H [1,2,23,24,25],H [1,2,23,24,25,26],H [1,2,10,11,23,24,25],H [1,2,10,11,23,24,25,35],H [6,7,8],H [1,2,23,24,25],H [1,2,23,24,25],H [6,7,8]]
def ZTf:PC :=
 (.reg [1,2,3] [I 3 (.box (.s 0)),I 6 (.mv (V 0)),I 7 (.mv (V 0)),I 8 (.mv (V 0))])
def ZTg:PC :=
 (.reg [1,2,3,9] [I 12 (.ld true 3 (.s 3)),I 13 (C X9 [(.s 12)]),I 9 (.mv (.s 13))])
def ZTh:PC :=
 (.reg [1,2,3,9,15] [I 14 (.mv (.s 9)),I 15 (.bin .neq (.s 14) (V 0))])
def ZTi:PC :=
 (.reg [6,7,8] [I 16 (.mv (.s 9)),I 6 (.mv (V 0)),I 7 (.mv (V 0)),I 8 (.mv (.s 16))])
def ZTj:PC :=
 (.reg [1,2,3,19] [I 17 (.fadr 0 (.s 3)),I 18 (.ld false 1 (.s 17)),I 19 (.bin .eql (.s 18) (V 0))])
def ZTk:PC :=
 (.reg [6,7,8] [I 6 (.mv (V 0)),I 7 (.mv (V 0)),I 8 (.mv (V 8))])
def ZTl:PC :=
 (.reg [1,2,3,21] [I 20 (.mv (.s 1)),I 21 (.bin .lss (.s 20) (V 0))])
def ZTm:PC :=
 (.reg [6,7,8] [I 6 (.mv (V 0)),I 7 (.mv (V 0)),I 8 (.mv (V 3))])
def ZTn:PC :=
 (.reg [1,2,23,24,25] [I 22 (.fadr 2 (.s 3)),I 23 (.ld false 1 (.s 22)),I 24 (.len 1 (.s 23)),I 25 (.mv (V 0))])
def ZTo:PC :=
 (.reg [1,2,23,24,25,26] [I 26 (.bin .lss (.s 25) (.s 24))])
def ZQT:PC :=
 (.reg [1,2,10,11,23,24,25] [I 27 (.mv (.s 25)),I 28 (.ixS 4 (.s 23) (.s 25)),I 29 (.ld true 4 (.s 28)),I 11 (.box (.v ZK)),I 10 (.mv (.s 27)),J (.st 4 (.s 11) (.s 29))])
def ZQU:PC :=
 (.reg [1,2,10,11,23,24,25,35] [I 30 (.mv (.s 1)),I 31 (.mv (.s 2)),I 32 (.fadr 1 (.s 11)),I 33 (.ld true 3 (.s 32)),I 34 (.call .norm (.s 31) [(.s 33)]),I 35 (.bin .lss (.s 30) (.s 34))])
def ZQV:PC :=
 (.reg [6,7,8] [I 36 (.mv (.s 10)),I 37 (.mv (.s 1)),I 6 (.mv (.s 36)),I 7 (.mv (.s 37)),I 8 (.mv (V 0))])
def ZQW:PC :=
 (.reg [1,2,23,24,25] [I 38 (.mv (.s 1)),I 39 (.mv (.s 2)),I 40 (.fadr 1 (.s 11)),I 41 (.ld true 3 (.s 40)),I 42 (.call .norm (.s 39) [(.s 41)]),I 43 (.bin .sub (.s 38) (.s 42)),I 1 (.mv (.s 43))])
def ZQX:PC :=
 (.reg [1,2,23,24,25] [I 44 (.bin .add (.s 25) (V 1)),I 25 (.mv (.s 44))])
def ZQY:PC :=
 (.seq ZTo
 (.seq (.ite (.s 26)
 .skip
 (.exit 0))
 (.seq (.block 1
 (.seq ZQT
 (.seq (.seq ZQU
 (.ite (.s 35)
 (.seq ZQV
 .ret)
 .skip))
 ZQW)))
 ZQX)))
def ZQZ:PC :=
 (.reg [6,7,8] [I 6 (.mv (V 0)),I 7 (.mv (V 0)),I 8 (.mv (V 3))])
def ZLR:PF:=⟨false,
 (.seq ZTf
 (.seq (.seq ZTg
 (.seq ZTh
 (.ite (.s 15)
 (.seq ZTi
 .ret)
 .skip)))
 (.seq (.seq ZTj
 (.ite (.s 19)
 (.seq ZTk
 .ret)
 .skip))
 (.seq (.seq ZTl
 (.ite (.s 21)
 (.seq ZTm
 .ret)
 .skip))
 (.seq (.seq ZTn
 (.block 0
 (.loop ZQY)))
 (.seq ZQZ
 .ret)))))),
 [.s 6,.s 7,.s 8]⟩
theorem Zb6:Zp Proofs.Tryz.prog false Zb5 Proofs.Tryz.f188=some ZLR:=by kernel_rfl
def Zb7:List Hint:=[H [1],H [2]]
def ZTp:PC :=
 (.reg [1] [I 1 (.box (.s 0)),I 2 (.mv (V 0))])
def ZTq:PC :=
 (.reg [2] [I 3 (.fadr 0 (.s 1)),I 4 (.ld false 1 (.s 3)),I 2 (.mv (.s 4))])
def ZLS:PF:=⟨false,
 (.seq ZTp
 (.seq ZTq
 .ret)),
 [.s 2]⟩
theorem Zb8:Zp Proofs.Tryz.prog false Zb7 Proofs.Tryz.f189=some ZLS:=by kernel_rfl
def Zb9:List Hint:=[H [1],H [2]]
def ZTr:PC :=
 (.reg [1] [I 1 (.box (.s 0)),I 2 (.mv (V 0))])
def ZTs:PC :=
 (.reg [2] [I 3 (.fadr 2 (.s 1)),I 4 (.ld false 1 (.s 3)),I 2 (.mv (.s 4))])
def ZLT:PF:=⟨false,
 (.seq ZTr
 (.seq ZTs
 .ret)),
 [.s 2]⟩
theorem ZcA:Zp Proofs.Tryz.prog false Zb9 Proofs.Tryz.f190=some ZLT:=by kernel_rfl
def ZX7:List Hint:=[H [0,1,2],H [0,1,2,10,11],H [0,1,2,10,11,12],H [0,1,2,8,10,11],H [0,1,2,8,10,11,19],H [0,1,2,8,10,11,21],H [6,7],H [0,1,2,10,11],H [0,1,2,10,11],H [6,7]]
def ZQa:PC :=
 (.reg [0,1,2] [I 6 (.mv (V 0)),I 7 (.mv (.v (.bool false)))])
def ZQb:PC :=
 (.reg [0,1,2,10,11] [I 9 (.mv (.s 0)),I 10 (.len 0 (.s 9)),I 11 (.mv (V 0))])
def ZQc:PC :=
 (.reg [0,1,2,10,11,12] [I 12 (.bin .lss (.s 11) (.s 10))])
def ZQd:PC :=
 (.reg [0,1,2,8,10,11] [I 13 (.mv (.s 11)),I 8 (.mv (.s 13))])
def ZQe:PC :=
 (.reg [0,1,2,8,10,11,19] [I 14 (.mv (.s 1)),I 15 (.mv (.s 0)),I 16 (.mv (.s 8)),I 17 (.ixStr (.s 15) (.s 16)),I 18 (.call .norm (.s 14) [(.s 17)]),I 19 (.un .not (.s 18))])
def ZQf:PC :=
 (.reg [0,1,2,8,10,11,21] [I 20 (.mv (.s 2)),I 21 (.bin .eql (.s 20) (V 0))])
def ZQg:PC :=
 (.reg [6,7] [I 22 (.mv (.s 8)),I 6 (.mv (.s 22)),I 7 (.mv (.v (.bool true)))])
def ZQh:PC :=
 (.reg [0,1,2,10,11] [I 23 (.mv (.s 2)),I 24 (.bin .sub (.s 23) (V 1)),I 2 (.mv (.s 24))])
def ZQi:PC :=
 (.reg [0,1,2,10,11] [I 25 (.bin .add (.s 11) (V 1)),I 11 (.mv (.s 25))])
def ZQj:PC :=
 (.seq ZQc
 (.seq (.ite (.s 12)
 .skip
 (.exit 0))
 (.seq (.block 1
 (.seq ZQd
 (.seq (.seq ZQe
 (.ite (.s 19)
 (.exit 1)
 .skip))
 (.seq (.seq ZQf
 (.ite (.s 21)
 (.seq ZQg
 .ret)
 .skip))
 ZQh))))
 ZQi)))
def ZOQ:PC :=
 (.reg [6,7] [I 6 (.mv (V 0)),I 7 (.mv (.v (.bool false)))])
def ZJ3:PF:=⟨false,
 (.seq ZQa
 (.seq (.seq ZQb
 (.block 0
 (.loop ZQj)))
 (.seq ZOQ
 .ret))),
 [.s 6,.s 7]⟩
theorem ZX8:Zp Proofs.Tryz.prog false ZX7 Proofs.Tryz.f191=some ZJ3:=by kernel_rfl
def ZX9:List Hint:=[H [0],⟨[0,3],[0],[],[],[],[]⟩,H [0,3,8,9,10],H [0,3,8,9,10,11],H [0,3,5,8,9,10],H [0,3,5,8,9,10],H [0,3,8,9,10],H [0,3,8,9,10],H [2]]
def ZQk:PC :=
 (.reg [0] [I 2 (.mv (.v .nils))])
def ZQl:PC :=
 (.reg [0,3] [I 3 (.onil 1)])
def ZQm:PC :=
 (.reg [0,3,8,9,10] [I 6 (.mv (.s 0)),I 7 (.len 0 (.s 6)),I 8 (C ZAs [(.s 7),(V 16)]),I 9 (.len 1 (.s 8)),I 10 (.mv (V 0))])
def ZQn:PC :=
 (.reg [0,3,8,9,10,11] [I 11 (.bin .lss (.s 10) (.s 9))])
def ZQo:PC :=
 (.reg [0,3,5,8,9,10] [I 12 (.ixS 1 (.s 8) (.s 10)),I 13 (.ld false 1 (.s 12)),I 5 (.mv (.s 13))])
def ZQp:PC :=
 (.reg [0,3,5,8,9,10] [I 14 (.mv (.s 3)),I 15 (.mv (.s 0)),I 16 (.mv (.s 5)),I 17 (.slcS (.s 15) none (some (.s 16))),I 18 (.bslice false 1 [(.str [])] [(0,(.s 17))]),I 19 (.app 1 16 (.s 14) (.s 18)),I 3 (.mv (.s 19))])
def ZQq:PC :=
 (.reg [0,3,8,9,10] [I 20 (.mv (.s 0)),I 21 (.mv (.s 5)),I 22 (.slcS (.s 20) (some (.s 21)) none),I 0 (.mv (.s 22))])
def ZQr:PC :=
 (.reg [0,3,8,9,10] [I 23 (.bin .add (.s 10) (V 1)),I 10 (.mv (.s 23))])
def ZQs:PC :=
 (.seq ZQn
 (.seq (.ite (.s 11)
 .skip
 (.exit 0))
 (.seq (.block 1
 (.seq ZQo
 (.seq ZQp
 ZQq)))
 ZQr)))
def ZQt:PC :=
 (.reg [2] [I 24 (.mv (.s 3)),I 2 (.mv (.s 24))])
def ZJ4:PF:=⟨false,
 (.seq ZQk
 (.seq ZQl
 (.seq (.seq ZQm
 (.block 0
 (.loop ZQs)))
 (.seq ZQt
 .ret)))),
 [.s 2]⟩
theorem ZYA:Zp Proofs.Tryz.prog false ZX9 Proofs.Tryz.f197=some ZJ4:=by kernel_rfl
def Zew:List Hint:=[H [0,1],H [0,1,11],H [4,5],H [0,1,13],H [4,5],H [4,5]]
def ZYB:PC :=
 (.reg [0,1] [I 4 (.mv (.v .nils)),I 5 (.mv (V 0))])
def ZYC:PC :=
 (.reg [0,1,11] [I 6 (.mv (.s 0)),I 7 (.bin .lss (.s 6) (V 0)),I 8 (.mv (.s 7)),G 9 8 false (.mv (.s 1)),G 10 8 false (.bin .lss (.s 9) (V 1)),I 11 (.pick (.s 8) (.v (.bool true)) (.s 10))])
def ZYD:PC :=
 (.reg [4,5] [I 4 (.mv (.v .nils)),I 5 (.mv (V 2))])
def ZYE:PC :=
 (.reg [0,1,13] [I 12 (.mv (.s 0)),I 13 (.bin .gtr (.s 12) (V 65536))])
def ZYF:PC :=
 (.reg [4,5] [I 4 (.mv (.v .nils)),I 5 (.mv (V 5))])
def ZYG:PC :=
 (.reg [4,5] [I 14 (.mv (.s 0)),I 15 (.mv (.s 1)),I 16 (C ZAs [(.s 14),(.s 15)]),I 4 (.mv (.s 16)),I 5 (.mv (V 0))])
def ZOR:PF:=⟨false,
 (.seq ZYB
 (.seq (.seq ZYC
 (.ite (.s 11)
 (.seq ZYD
 .ret)
 .skip))
 (.seq (.seq ZYE
 (.ite (.s 13)
 (.seq ZYF
 .ret)
 .skip))
 (.seq ZYG
 .ret)))),
 [.s 4,.s 5]⟩
theorem Zex:Zp Proofs.Tryz.prog false Zew Proofs.Tryz.f198=some ZOR:=by kernel_rfl
def Zey:List Hint:=[H [0,2],H [0,2,3],H [2],H [0,2,8],H [2],⟨[2],[],[],[],[(7,.app0),(5,.imm)],[]⟩]
def ZYH:PC :=
 (.reg [0,2] [I 2 (.box (.v ZT))])
def ZYI:PC :=
 (.reg [0,2,3] [I 4 (.mv (.s 0)),I 5 (.len 1 (.s 4)),I 6 (.bin .eql (.s 5) (V 0)),I 3 (.mv (.s 6))])
def ZYJ:PC :=
 (.reg [2] [I 7 (.build [(.int .u64 0),(.int .i64 0),(.int .i64 0),(.int .i64 0),(.int .i64 0),(.str []),.nils] []),J (.st 7 (.s 2) (.s 7))])
def ZYK:PC :=
 (.reg [0,2,8] [I 9 (.mv (.s 0)),I 10 (.len 1 (.s 9)),I 11 (.bin .eql (.s 10) (V 1)),I 8 (.mv (.s 11))])
def ZYL:PC :=
 (.reg [2] [I 12 (.mv (.s 0)),I 13 (.ixS 7 (.s 12) (V 0)),I 14 (.ld true 7 (.s 13)),J (.st 7 (.s 2) (.s 14))])
def ZYM:PC :=
 (.reg [2] [I 15 (.mv (.s 0)),I 16 (.ixS 7 (.s 15) (V 0)),I 17 (.fadr 1 (.s 16)),I 18 (.ld false 1 (.s 17)),I 19 (.bin .add (.s 18) (V 1)),I 20 (.w .imm (.bslice false 7 [] [])),I 21 (.mv (.s 0)),I 22 (.w .app0 (.app 7 80 (.s 20) (.s 21))),I 23 (.build [(.int .u64 0),(.int .i64 0),(.int .i64 0),(.int .i64 0),(.int .i64 0),(.str []),.nils] [(1,1,(.s 19)),(6,1,(.s 22))]),J (.st 7 (.s 2) (.s 23))])
def ZOS:PF:=⟨false,
 (.seq ZYH
 (.seq (.block 0
 (.seq ZYI
 (.ite (.s 3)
 (.seq ZYJ
 .ret)
 (.seq ZYK
 (.ite (.s 8)
 (.seq ZYL
 .ret)
 .skip)))))
 (.seq ZYM
 .ret))),
 [.c 2 true 7]⟩
theorem Zez:Zp Proofs.Tryz.prog false Zey Proofs.Tryz.f199=some ZOS:=by kernel_rfl
def ZcB:List Hint:=[H [0,1],H [0,1,19],H [4,5],H [4,5]]
def ZTt:PC :=
 (.reg [0,1] [I 4 (.mv (.v (.int .u64 0))),I 5 (.mv (V 0))])
def ZTu:PC :=
 (.reg [0,1,19] [I 6 (.mv (.s 0)),I 7 (.bin .lss (.s 6) (V 0)),I 8 (.mv (.s 7)),G 9 8 false (.mv (.s 0)),G 10 8 false (.bin .geq (.s 9) (V 16384)),I 11 (.pick (.s 8) (.v (.bool true)) (.s 10)),I 12 (.mv (.s 11)),G 13 12 false (.mv (.s 1)),G 14 12 false (.bin .lss (.s 13) (.v (.int .u64 1))),I 15 (.pick (.s 12) (.v (.bool true)) (.s 14)),I 16 (.mv (.s 15)),G 17 16 false (.mv (.s 1)),G 18 16 false (.bin .gtr (.s 17) (.v (.int .u64 4294967295))),I 19 (.pick (.s 16) (.v (.bool true)) (.s 18))])
def ZTv:PC :=
 (.reg [4,5] [I 4 (.mv (.v (.int .u64 0))),I 5 (.mv (V 3))])
def ZTw:PC :=
 (.reg [4,5] [I 20 (.mv (.s 1)),I 21 (.bin .shl (.s 20) (.v (.int .u64 16))),I 22 (.mv (.s 0)),I 23 (.cint .u64 (.s 22)),I 24 (.bin .or (.s 21) (.s 23)),I 4 (.mv (.s 24)),I 5 (.mv (V 0))])
def ZLU:PF:=⟨false,
 (.seq ZTt
 (.seq (.seq ZTu
 (.ite (.s 19)
 (.seq ZTv
 .ret)
 .skip))
 (.seq ZTw
 .ret))),
 [.s 4,.s 5]⟩
theorem ZcC:Zp Proofs.Tryz.prog false ZcB Proofs.Tryz.f201=some ZLU:=by kernel_rfl
def ZcD:List Hint:=[H [0,4,5,6],H [0,4,5,6,12],H [6,7],H [0,4,5,6,16],H [6,7],H [6,8,9],H [6,8,9,26],H [6,7],H [6,7]]
def ZTx:PC :=
 (.reg [0,4,5,6] [I 4 (.box (.s 1)),I 5 (.box (.s 2)),I 6 (.box (.v ZT)),I 7 (.mv (V 0))])
def ZTy:PC :=
 (.reg [0,4,5,6,12] [I 10 (.ld true 7 (.s 4)),I 11 (C Qm [(.s 10)]),I 12 (.bin .eql (.s 11) (V 1))])
def ZTz:PC :=
 (.reg [6,7] [I 13 (.ld true 7 (.s 5)),J (.st 7 (.s 6) (.s 13)),I 7 (.mv (V 0))])
def ZT0:PC :=
 (.reg [0,4,5,6,16] [I 14 (.ld true 7 (.s 5)),I 15 (C Qm [(.s 14)]),I 16 (.bin .eql (.s 15) (V 1))])
def ZT1:PC :=
 (.reg [6,7] [I 17 (.ld true 7 (.s 4)),J (.st 7 (.s 6) (.s 17)),I 7 (.mv (V 0))])
def ZT2:PC :=
 (.reg [6,8,9] [I 19 (.mv (.s 0)),I 20 (.ld true 7 (.s 4)),I 21 (.ld true 7 (.s 5)),I 22 (C ZAA [(.s 19),(.s 20),(.s 21)]),I 18 (.mv (.s 22)),I 23 (.ext (.s 18) 0),I 24 (.ext (.s 18) 1),I 8 (.mv (.s 23)),I 9 (.mv (.s 24))])
def ZT3:PC :=
 (.reg [6,8,9,26] [I 25 (.mv (.s 9)),I 26 (.bin .neq (.s 25) (V 0))])
def ZT4:PC :=
 (.reg [6,7] [I 27 (.build [(.int .u64 0),(.int .i64 0),(.int .i64 0),(.int .i64 0),(.int .i64 0),(.str []),.nils] []),I 28 (.mv (.s 9)),J (.st 7 (.s 6) (.s 27)),I 7 (.mv (.s 28))])
def ZT5:PC :=
 (.reg [6,7] [I 29 (.mv (.s 8)),I 30 (C QS [(.s 29)]),J (.st 7 (.s 6) (.s 30)),I 7 (.mv (V 0))])
def ZLV:PF:=⟨false,
 (.seq ZTx
 (.seq (.seq ZTy
 (.ite (.s 12)
 (.seq ZTz
 .ret)
 .skip))
 (.seq (.seq ZT0
 (.ite (.s 16)
 (.seq ZT1
 .ret)
 .skip))
 (.seq ZT2
 (.seq (.seq ZT3
 (.ite (.s 26)
 (.seq ZT4
 .ret)
 .skip))
 (.seq ZT5
 .ret)))))),
 [.c 6 true 7,.s 7]⟩
theorem ZcE:Zp Proofs.Tryz.prog false ZcD Proofs.Tryz.f203=some ZLV:=by kernel_rfl
def Ze0:List Hint:=[H [0,2,3,5],H [0,2,3,5,9],H [0,2,5,9,30],H [8],H [0,2,5,32],H [0,2,5,10],H [0,2,5,10,42],H [8],H [0,5,54],H [8],H [0,5,56,57,58],H [0,5,56,57,58,59],H [0,5,12,56,57,58],H [0,5,13,56,57,58],H [0,5,13,56,57,58,69],H [8],H [0,5,56,57,58],H [8]]
def ZYN:PC :=
 (.reg [0,2,3,5] [I 5 (.box (.s 1)),I 8 (.mv (V 0))])
def ZYO:PC :=
 (.reg [0,2,3,5,9] [I 14 (.ld true 7 (.s 5)),I 15 (C Qm [(.s 14)]),I 9 (.mv (.s 15))])
def ZYP:PC :=
 (.reg [0,2,5,9,30] [I 16 (.mv (.s 9)),I 17 (.bin .eql (.s 16) (V 0)),I 18 (.mv (.s 17)),G 19 18 false (.mv (.s 9)),G 20 18 false (.bin .eql (.s 19) (V 1)),I 21 (.pick (.s 18) (.v (.bool true)) (.s 20)),I 22 (.mv (.s 21)),G 23 22 false (.mv (.s 2)),G 24 22 false (.mv (.s 23)),G 25 24 true (.fadr 1 (.s 5)),G 26 24 true (.ld false 1 (.s 25)),G 27 24 true (.mv (.s 3)),G 28 24 true (.bin .neq (.s 26) (.s 27)),G 29 22 false (.pick (.s 24) (.s 28) (.v (.bool false))),I 30 (.pick (.s 22) (.v (.bool true)) (.s 29))])
def ZYQ:PC :=
 (.reg [8] [I 8 (.mv (V 23))])
def ZYR:PC :=
 (.reg [0,2,5,32] [I 31 (.mv (.s 9)),I 32 (.bin .eql (.s 31) (V 2))])
def ZYS:PC :=
 (.reg [0,2,5,10] [I 33 (.mv (.s 0)),I 34 (.fadr 0 (.s 5)),I 35 (.ld false 1 (.s 34)),I 36 (.fadr 1 (.s 5)),I 37 (.ld false 1 (.s 36)),I 38 (.fadr 2 (.s 5)),I 39 (.ld true 3 (.s 38)),I 40 (C ZDw [(.s 33),(.s 35),(.s 37),(.s 39)]),I 10 (.mv (.s 40))])
def ZYT:PC :=
 (.reg [0,2,5,10,42] [I 41 (.mv (.s 10)),I 42 (.bin .neq (.s 41) (V 0))])
def ZYU:PC :=
 (.reg [8] [I 43 (.mv (.s 10)),I 8 (.mv (.s 43))])
def ZYV:PC :=
 (.reg [0,5,54] [I 44 (.mv (.s 2)),I 45 (.mv (.s 44)),G 46 45 true (.fadr 1 (.s 5)),G 47 45 true (.ld false 1 (.s 46)),G 48 45 true (.bin .eql (.s 47) (V 0)),I 49 (.pick (.s 45) (.s 48) (.v (.bool false))),I 50 (.mv (.s 49)),G 51 50 true (.ld true 7 (.s 5)),G 52 50 true (C Qs [(.s 51)]),G 53 50 true (.bin .lss (.s 52) (V 8)),I 54 (.pick (.s 50) (.s 53) (.v (.bool false)))])
def ZYW:PC :=
 (.reg [8] [I 8 (.mv (V 23))])
def ZT6:PC :=
 (.reg [0,5,56,57,58] [I 55 (.fadr 6 (.s 5)),I 56 (.ld false 1 (.s 55)),I 57 (.len 1 (.s 56)),I 58 (.mv (V 0))])
def ZT7:PC :=
 (.reg [0,5,56,57,58,59] [I 59 (.bin .lss (.s 58) (.s 57))])
def ZT8:PC :=
 (.reg [0,5,12,56,57,58] [I 60 (.ixS 7 (.s 56) (.s 58)),I 61 (.ld true 7 (.s 60)),I 12 (.box (.v ZT)),J (.st 7 (.s 12) (.s 61))])
def ZT9:PC :=
 (.reg [0,5,13,56,57,58] [I 62 (.mv (.s 0)),I 63 (.ld true 7 (.s 12)),I 64 (.fadr 1 (.s 5)),I 65 (.ld false 1 (.s 64)),I 66 (.bin .sub (.s 65) (V 1)),I 67 (C ZBv [(.s 62),(.s 63),(.v (.bool true)),(.s 66)]),I 13 (.mv (.s 67))])
def ZUA:PC :=
 (.reg [0,5,13,56,57,58,69] [I 68 (.mv (.s 13)),I 69 (.bin .neq (.s 68) (V 0))])
def ZUB:PC :=
 (.reg [8] [I 70 (.mv (.s 13)),I 8 (.mv (.s 70))])
def ZUC:PC :=
 (.reg [0,5,56,57,58] [I 71 (.bin .add (.s 58) (V 1)),I 58 (.mv (.s 71))])
def ZHO:PC :=
 (.seq ZT7
 (.seq (.ite (.s 59)
 .skip
 (.exit 0))
 (.seq (.block 1
 (.seq ZT8
 (.seq ZT9
 (.seq ZUA
 (.ite (.s 69)
 (.seq ZUB
 .ret)
 .skip)))))
 ZUC)))
def ZUD:PC :=
 (.reg [8] [I 8 (.mv (V 0))])
def ZOT:PF:=⟨false,
 (.seq ZYN
 (.seq ZYO
 (.seq (.seq ZYP
 (.ite (.s 30)
 (.seq ZYQ
 .ret)
 .skip))
 (.seq (.seq ZYR
 (.ite (.s 32)
 (.seq ZYS
 (.seq ZYT
 (.ite (.s 42)
 (.seq ZYU
 .ret)
 .skip)))
 .skip))
 (.seq (.seq ZYV
 (.ite (.s 54)
 (.seq ZYW
 .ret)
 .skip))
 (.seq (.seq ZT6
 (.block 0
 (.loop ZHO)))
 (.seq ZUD
 .ret))))))),
 [.s 8]⟩
theorem Ze1:Zp Proofs.Tryz.prog false Ze0 Proofs.Tryz.f204=some ZOT:=by kernel_rfl
def Zig:List Hint:=[H [1],H [1,3],H [1,3,4],H [1,3,14],H [1,3],H [3,16,17,18],H [3,16,17,18,19],H [3,6,16,17,18],H [3,16,17,18],H [3,16,17,18],H [2]]
def Ze2:PC :=
 (.reg [1] [I 1 (.box (.s 0)),I 2 (.mv (V 0))])
def Ze3:PC :=
 (.reg [1,3] [I 3 (.mv (V 0))])
def Ze4:PC :=
 (.reg [1,3,4] [I 7 (.ld true 7 (.s 1)),I 8 (C Qm [(.s 7)]),I 4 (.mv (.s 8))])
def Ze5:PC :=
 (.reg [1,3,14] [I 9 (.mv (.s 4)),I 10 (.bin .eql (.s 9) (V 3)),I 11 (.mv (.s 10)),G 12 11 false (.mv (.s 4)),G 13 11 false (.bin .eql (.s 12) (V 4)),I 14 (.pick (.s 11) (.v (.bool true)) (.s 13))])
def Ze6:PC :=
 (.reg [1,3] [I 3 (.mv (V 1))])
def Ze7:PC :=
 (.reg [3,16,17,18] [I 15 (.fadr 6 (.s 1)),I 16 (.ld false 1 (.s 15)),I 17 (.len 1 (.s 16)),I 18 (.mv (V 0))])
def Ze8:PC :=
 (.reg [3,16,17,18,19] [I 19 (.bin .lss (.s 18) (.s 17))])
def Ze9:PC :=
 (.reg [3,6,16,17,18] [I 20 (.ixS 7 (.s 16) (.s 18)),I 21 (.ld true 7 (.s 20)),I 6 (.box (.v ZT)),J (.st 7 (.s 6) (.s 21))])
def ZfA:PC :=
 (.reg [3,16,17,18] [I 22 (.mv (.s 3)),I 23 (.ld true 7 (.s 6)),I 24 (C ZAi [(.s 23)]),I 25 (.bin .add (.s 22) (.s 24)),I 3 (.mv (.s 25))])
def ZfB:PC :=
 (.reg [3,16,17,18] [I 26 (.bin .add (.s 18) (V 1)),I 18 (.mv (.s 26))])
def ZcF:PC :=
 (.seq Ze8
 (.seq (.ite (.s 19)
 .skip
 (.exit 0))
 (.seq (.block 1
 (.seq Ze9
 ZfA))
 ZfB)))
def ZcG:PC :=
 (.reg [2] [I 27 (.mv (.s 3)),I 2 (.mv (.s 27))])
def ZYX:PF:=⟨false,
 (.seq Ze2
 (.seq Ze3
 (.seq (.seq Ze4
 (.seq Ze5
 (.ite (.s 14)
 Ze6
 .skip)))
 (.seq (.seq Ze7
 (.block 0
 (.loop ZcF)))
 (.seq ZcG
 .ret))))),
 [.s 2]⟩
theorem Zih:Zp Proofs.Tryz.prog false Zig Proofs.Tryz.f205=some ZYX:=by kernel_rfl
def ZYY:List Hint:=[H [0,3],H [0,3,5],H [0,3,5,80],H [0,3,5,95],H [0,5,6],H [0,5,6],H [5],⟨[0,3,5,7],[0],[],[],[],[]⟩,H [0,3,5,7,20,21,22],H [0,3,5,7,20,21,22,23],H [0,3,5,7,9,20,21,22],H [0,3,5,7,10,20,21,22],⟨[0,3,5,7,10,20,21,22],[2],[],[],[],[]⟩,H [0,3,5,7,10,20,21,22],H [0,3,5,7,10,20,21,22],H [0,3,5,7,20,21,22],H [0,3,5,7,20,21,22],H [5],H [4]]
def ZQu:PC :=
 (.reg [0,3] [I 3 (.box (.s 1)),I 4 (.mv (.v .nilptr))])
def ZQv:PC :=
 (.reg [0,3,5] [I 11 (.fadr 1 (.s 3)),I 12 (.ld false 1 (.s 11)),I 13 (.fadr 2 (.s 3)),I 14 (.ld true 3 (.s 13)),I 15 (.fadr 0 (.s 3)),I 16 (.ld false 1 (.s 15)),I 17 (.build [(.int .u64 0),(.int .i64 0),(.int .i64 0),(.int .i64 0),(.int .i64 0)] [(1,1,(.s 12)),(2,3,(.s 14)),(0,1,(.s 16))]),I 18 (.box (.s 17)),I 5 (.mv (.s 18))])
def ZQw:PC :=
 (.reg [0,3,5,80] [I 81 (.fadr 0 (.s 3)),I 82 (.ld false 1 (.s 81)),I 83 (.bin .neq (.s 82) (.v (.int .u64 0))),I 84 (.mv (.s 83)),G 85 84 false (.fadr 5 (.s 3)),G 86 84 false (.ld false 1 (.s 85)),G 87 84 false (.bin .eql (.s 86) (.v (.str []))),G 88 84 false (.mv (.s 87)),G 89 88 true (.fadr 6 (.s 3)),G 90 88 true (.ld false 1 (.s 89)),G 91 88 true (.len 1 (.s 90)),G 92 88 true (.bin .eql (.s 91) (V 0)),G 93 84 false (.pick (.s 88) (.s 92) (.v (.bool false))),I 94 (.pick (.s 84) (.v (.bool true)) (.s 93)),I 80 (.mv (.s 94))])
def ZQx:PC :=
 (.reg [0,3,5,95] [I 96 (.fadr 1 (.s 3)),I 97 (.ld false 1 (.s 96)),I 98 (.bin .eql (.s 97) (V 0)),I 95 (.mv (.s 98))])
def ZQy:PC :=
 (.reg [0,5,6] [I 99 (.fadr 5 (.s 3)),I 100 (.ld false 1 (.s 99)),I 101 (.build [(.int .i64 0),(.str []),.nils] [(1,1,(.s 100))]),I 6 (.box (.v ZN)),J (.st 3 (.s 6) (.s 101))])
def ZQz:PC :=
 (.reg [0,5,6] [I 103 (.mv (.s 5)),I 104 (.ld true 3 (.s 6)),I 105 (C YC [(.s 104)]),I 102 (.mv (.s 105)),I 106 (.ext (.s 102) 0),I 107 (.ext (.s 102) 1),I 108 (.nilck (.s 103)),I 109 (.fadr 2 (.s 108)),J (.st 3 (.s 109) (.s 106))])
def ZQ0:PC :=
 (.reg [5] [I 110 (.mv (.s 0)),I 111 (.mv (.s 5)),I 112 (.mkf (.func Jq) [] [(.s 6)]),I 113 (C ZAB [(.s 110),(.s 111),(.s 112)])])
def ZQ1:PC :=
 (.reg [0,3,5,7] [I 7 (.boxnil 1)])
def ZQ2:PC :=
 (.reg [0,3,5,7,20,21,22] [I 19 (.fadr 6 (.s 3)),I 20 (.ld false 1 (.s 19)),I 21 (.len 1 (.s 20)),I 22 (.mv (V 0))])
def ZQ3:PC :=
 (.reg [0,3,5,7,20,21,22,23] [I 23 (.bin .lss (.s 22) (.s 21))])
def ZOU:PC :=
 (.reg [0,3,5,7,9,20,21,22] [I 24 (.ixS 7 (.s 20) (.s 22)),I 25 (.ld true 7 (.s 24)),I 9 (.box (.v ZT)),J (.st 7 (.s 9) (.s 25))])
def ZOV:PC :=
 (.reg [0,3,5,7,10,20,21,22] [I 26 (.mv (.s 0)),I 27 (.ld true 7 (.s 9)),I 28 (C Qq [(.s 26),(.s 27)]),I 10 (.mv (.s 28))])
def ZOW:PC :=
 (.reg [0,3,5,7,10,20,21,22] [I 29 (.ld false 1 (.s 7)),I 30 (.mv (.s 10)),I 31 (.bslice true 1 [.nilptr] [(0,(.s 30))]),I 32 (.app 1 8 (.s 29) (.s 31)),J (.st 1 (.s 7) (.s 32))])
def ZD1:PC :=
 (.reg [0,3,5,7,10,20,21,22] [I 33 (.mv (.s 5)),I 34 (.nilck (.s 33)),I 35 (.fadr 2 (.s 34)),I 36 (.fadr 0 (.s 35)),I 37 (.ld false 1 (.s 36)),I 38 (.mv (.s 10)),I 39 (.nilck (.s 38)),I 40 (.fadr 2 (.s 39)),I 41 (.fadr 0 (.s 40)),I 42 (.ld false 1 (.s 41)),I 43 (.bin .add (.s 37) (.s 42)),I 44 (.nilck (.s 33)),I 45 (.fadr 2 (.s 44)),I 46 (.fadr 0 (.s 45)),J (.st 1 (.s 46) (.s 43))])
def ZD2:PC :=
 (.reg [0,3,5,7,10,20,21,22] [I 47 (.mv (.s 5)),I 48 (.nilck (.s 47)),I 49 (.fadr 2 (.s 48)),I 50 (.fadr 1 (.s 49)),I 51 (.ld false 1 (.s 50)),I 52 (.mv (.s 10)),I 53 (.nilck (.s 52)),I 54 (.fadr 2 (.s 53)),I 55 (.fadr 1 (.s 54)),I 56 (.ld false 1 (.s 55)),I 57 (.bin .add (.s 51) (.s 56)),I 58 (.nilck (.s 47)),I 59 (.fadr 2 (.s 58)),I 60 (.fadr 1 (.s 59)),J (.st 1 (.s 60) (.s 57))])
def ZD3:PC :=
 (.reg [0,3,5,7,20,21,22] [I 61 (.mv (.s 5)),I 62 (.nilck (.s 61)),I 63 (.fadr 2 (.s 62)),I 64 (.fadr 2 (.s 63)),I 65 (.ld false 1 (.s 64)),I 66 (.mv (.s 10)),I 67 (.nilck (.s 66)),I 68 (.fadr 2 (.s 67)),I 69 (.fadr 2 (.s 68)),I 70 (.ld false 1 (.s 69)),I 71 (.bin .add (.s 65) (.s 70)),I 72 (.nilck (.s 61)),I 73 (.fadr 2 (.s 72)),I 74 (.fadr 2 (.s 73)),J (.st 1 (.s 74) (.s 71))])
def ZOX:PC :=
 (.reg [0,3,5,7,20,21,22] [I 75 (.bin .add (.s 22) (V 1)),I 22 (.mv (.s 75))])
def ZOY:PC :=
 (.seq ZQ3
 (.seq (.ite (.s 23)
 .skip
 (.exit 1))
 (.seq (.block 2
 (.seq ZOU
 (.seq ZOV
 (.seq ZOW
 (.seq ZD1
 (.seq ZD2
 ZD3))))))
 ZOX)))
def ZOZ:PC :=
 (.reg [5] [I 76 (.mv (.s 0)),I 77 (.mv (.s 5)),I 78 (.mkf (.func JP) [] [(.s 3),(.s 7)]),I 79 (C ZAB [(.s 76),(.s 77),(.s 78)])])
def ZOa:PC :=
 (.reg [4] [I 114 (.mv (.s 5)),I 4 (.mv (.s 114))])
def ZJ5:PF:=⟨true,
 (.seq ZQu
 (.seq ZQv
 (.seq (.block 0
 (.seq ZQw
 (.ite (.s 80)
 .skip
 (.seq ZQx
 (.ite (.s 95)
 (.seq ZQy
 (.seq ZQz
 ZQ0))
 (.seq ZQ1
 (.seq (.seq ZQ2
 (.block 1
 (.loop ZOY)))
 ZOZ)))))))
 (.seq ZOa
 .ret)))),
 [.s 4]⟩
theorem ZYZ:Zp Proofs.Tryz.prog true ZYY Proofs.Tryz.f206=some ZJ5:=by kernel_rfl
def ZcH:List Hint:=[H []]
def ZUE:PC :=
 (.reg [] [I 1 (.box (.s 0))])
def ZLW:PF:=⟨false,
 ZUE,
 []⟩
theorem ZcI:Zp Proofs.Tryz.prog false ZcH Proofs.Tryz.f207=some ZLW:=by kernel_rfl
def ZQ4:List Hint:=[H [0],H [2]]
def ZMN:PC :=
 (.reg [0] [I 2 (.mv (.v (.bool false)))])
def ZMO:PC :=
 (.reg [2] [I 3 (.mv (.s 0)),I 4 (.bin .lss (.s 3) (.v (.int .u8 128))),I 5 (.mv (.s 4)),G 6 5 false (.mv (.s 0)),G 7 5 false (.bin .gtr (.s 6) (.v (.int .u8 191))),I 8 (.pick (.s 5) (.v (.bool true)) (.s 7)),I 2 (.mv (.s 8))])
def ZEy:PF:=⟨false,
 (.seq ZMN
 (.seq ZMO
 .ret)),
 [.s 2]⟩
theorem ZQ5:Zp Proofs.Tryz.prog false ZQ4 Proofs.Tryz.f208=some ZEy:=by kernel_rfl
def Zg3:List Hint:=[H [0,1],H [0,1,9],H [4,5,6],H [0,1,17],H [4,5,6],H [4,5,6]]
def ZcJ:PC :=
 (.reg [0,1] [I 4 (.mv (.v (.str []))),I 5 (.mv (.v (.str []))),I 6 (.mv (V 0))])
def ZcK:PC :=
 (.reg [0,1,9] [I 7 (.mv (.s 0)),I 8 (C ZAC [(.s 7)]),I 9 (.un .not (.s 8))])
def ZcL:PC :=
 (.reg [4,5,6] [I 4 (.mv (.v (.str []))),I 5 (.mv (.v (.str []))),I 6 (.mv (V 2))])
def ZcM:PC :=
 (.reg [0,1,17] [I 10 (.mv (.s 1)),I 11 (.bin .lss (.s 10) (V 0)),I 12 (.mv (.s 11)),G 13 12 false (.mv (.s 1)),G 14 12 false (.mv (.s 0)),G 15 12 false (.len 0 (.s 14)),G 16 12 false (.bin .gtr (.s 13) (.s 15)),I 17 (.pick (.s 12) (.v (.bool true)) (.s 16))])
def ZcN:PC :=
 (.reg [4,5,6] [I 4 (.mv (.v (.str []))),I 5 (.mv (.v (.str []))),I 6 (.mv (V 3))])
def ZcO:PC :=
 (.reg [4,5,6] [I 18 (.mv (.s 0)),I 19 (.mv (.s 1)),I 20 (.slcS (.s 18) none (some (.s 19))),I 21 (.mv (.s 0)),I 22 (.mv (.s 1)),I 23 (.slcS (.s 21) (some (.s 22)) none),I 4 (.mv (.s 20)),I 5 (.mv (.s 23)),I 6 (.mv (V 0))])
def ZSK:PF:=⟨false,
 (.seq ZcJ
 (.seq (.seq ZcK
 (.ite (.s 9)
 (.seq ZcL
 .ret)
 .skip))
 (.seq (.seq ZcM
 (.ite (.s 17)
 (.seq ZcN
 .ret)
 .skip))
 (.seq ZcO
 .ret)))),
 [.s 4,.s 5,.s 6]⟩
theorem Zg4:Zp Proofs.Tryz.prog false Zg3 Proofs.Tryz.f213=some ZSK:=by kernel_rfl
def Zg5:List Hint:=[H [0,2,4],H [8,9,11],H [8,9,11,22],H [6,7],H [8,9,31],H [6,7],H [6,7]]
def ZcP:PC :=
 (.reg [0,2,4] [I 4 (.box (.s 1)),I 6 (.mv (.v (.int .u8 0))),I 7 (.mv (V 0))])
def ZcQ:PC :=
 (.reg [8,9,11] [I 13 (.mv (.s 0)),I 14 (.ld true 5 (.s 4)),I 15 (.mv (.s 2)),I 16 (C ZIv [(.s 13),(.s 14),(.s 15)]),I 12 (.mv (.s 16)),I 17 (.ext (.s 12) 0),I 18 (.ext (.s 12) 1),I 19 (.ext (.s 12) 2),I 20 (.ext (.s 12) 3),I 8 (.mv (.s 17)),I 9 (.mv (.s 18)),I 10 (.mv (.s 19)),I 11 (.mv (.s 20))])
def ZcR:PC :=
 (.reg [8,9,11,22] [I 21 (.mv (.s 11)),I 22 (.bin .neq (.s 21) (V 0))])
def ZcS:PC :=
 (.reg [6,7] [I 23 (.mv (.s 11)),I 6 (.mv (.v (.int .u8 0))),I 7 (.mv (.s 23))])
def ZcT:PC :=
 (.reg [8,9,31] [I 24 (.mv (.s 9)),I 25 (.bin .lss (.s 24) (V 0)),I 26 (.mv (.s 25)),G 27 26 false (.mv (.s 9)),G 28 26 false (.mv (.s 8)),G 29 26 false (.len 0 (.s 28)),G 30 26 false (.bin .geq (.s 27) (.s 29)),I 31 (.pick (.s 26) (.v (.bool true)) (.s 30))])
def ZcU:PC :=
 (.reg [6,7] [I 6 (.mv (.v (.int .u8 0))),I 7 (.mv (V 23))])
def ZcV:PC :=
 (.reg [6,7] [I 32 (.mv (.s 8)),I 33 (.mv (.s 9)),I 34 (.ixStr (.s 32) (.s 33)),I 6 (.mv (.s 34)),I 7 (.mv (V 0))])
def ZSL:PF:=⟨false,
 (.seq ZcP
 (.seq ZcQ
 (.seq (.seq ZcR
 (.ite (.s 22)
 (.seq ZcS
 .ret)
 .skip))
 (.seq (.seq ZcT
 (.ite (.s 31)
 (.seq ZcU
 .ret)
 .skip))
 (.seq ZcV
 .ret))))),
 [.s 6,.s 7]⟩
theorem Zg6:Zp Proofs.Tryz.prog false Zg5 Proofs.Tryz.f218=some ZSL:=by kernel_rfl
def ZYa:List Hint:=[H [1],H [2]]
def ZQ6:PC :=
 (.reg [1] [I 1 (.box (.s 0)),I 2 (.mv (V 0))])
def ZQ7:PC :=
 (.reg [2] [I 3 (.fadr 0 (.s 1)),I 4 (.ld false 1 (.s 3)),I 2 (.mv (.s 4))])
def ZJ6:PF:=⟨false,
 (.seq ZQ6
 (.seq ZQ7
 .ret)),
 [.s 2]⟩
theorem ZYb:Zp Proofs.Tryz.prog false ZYa Proofs.Tryz.f219=some ZJ6:=by kernel_rfl
def ZUF:List Hint:=[H [0,1],H [0,1,5],H [0,1,5,8,9],H [0,1,5,8,9,10],H [0,1,5,6,8,9],H [0,1,5,8,9,16],H [0,1,5,8,9],H [0,1,5,8,9],H [4]]
def ZOb:PC :=
 (.reg [0,1] [I 4 (.mv (V 0))])
def ZOc:PC :=
 (.reg [0,1,5] [I 5 (.mv (V 0))])
def ZOd:PC :=
 (.reg [0,1,5,8,9] [I 7 (.mv (.s 0)),I 8 (.len 0 (.s 7)),I 9 (.mv (V 0))])
def ZOe:PC :=
 (.reg [0,1,5,8,9,10] [I 10 (.bin .lss (.s 9) (.s 8))])
def ZOf:PC :=
 (.reg [0,1,5,6,8,9] [I 11 (.mv (.s 9)),I 6 (.mv (.s 11))])
def ZOg:PC :=
 (.reg [0,1,5,8,9,16] [I 12 (.mv (.s 1)),I 13 (.mv (.s 0)),I 14 (.mv (.s 6)),I 15 (.ixStr (.s 13) (.s 14)),I 16 (.call .norm (.s 12) [(.s 15)])])
def ZOh:PC :=
 (.reg [0,1,5,8,9] [I 17 (.mv (.s 5)),I 18 (.bin .add (.s 17) (V 1)),I 5 (.mv (.s 18))])
def ZOi:PC :=
 (.reg [0,1,5,8,9] [I 19 (.bin .add (.s 9) (V 1)),I 9 (.mv (.s 19))])
def ZOj:PC :=
 (.seq ZOe
 (.seq (.ite (.s 10)
 .skip
 (.exit 0))
 (.seq (.block 1
 (.seq ZOf
 (.seq ZOg
 (.ite (.s 16)
 ZOh
 .skip))))
 ZOi)))
def ZOk:PC :=
 (.reg [4] [I 20 (.mv (.s 5)),I 4 (.mv (.s 20))])
def ZHP:PF:=⟨false,
 (.seq ZOb
 (.seq ZOc
 (.seq (.seq ZOd
 (.block 0
 (.loop ZOj)))
 (.seq ZOk
 .ret)))),
 [.s 4]⟩
theorem ZUG:Zp Proofs.Tryz.prog false ZUF Proofs.Tryz.f220=some ZHP:=by kernel_rfl
def ZfC:List Hint:=[H [1],H [1,5],H [2],H [9],H [2],H [2]]
def ZYc:PC :=
 (.reg [1] [I 1 (.box (.s 0)),I 2 (.mv (V 0))])
def ZYd:PC :=
 (.reg [1,5] [I 3 (.ld true 3 (.s 1)),I 4 (C ZAt [(.s 3)]),I 5 (.un .not (.s 4))])
def ZYe:PC :=
 (.reg [2] [I 2 (.mv (V 23))])
def ZYf:PC :=
 (.reg [9] [I 6 (.ld true 3 (.s 1)),I 7 (C ZCg [(.s 6)]),I 8 (.fld false 0 1 (.s 7)),I 9 (.bin .gtr (.s 8) (V 65536))])
def ZYg:PC :=
 (.reg [2] [I 2 (.mv (V 5))])
def ZYh:PC :=
 (.reg [2] [I 2 (.mv (V 0))])
def ZOl:PF:=⟨false,
 (.seq ZYc
 (.seq (.seq ZYd
 (.ite (.s 5)
 (.seq ZYe
 .ret)
 .skip))
 (.seq (.seq ZYf
 (.ite (.s 9)
 (.seq ZYg
 .ret)
 .skip))
 (.seq ZYh
 .ret)))),
 [.s 2]⟩
theorem ZfD:Zp Proofs.Tryz.prog false ZfC Proofs.Tryz.f221=some ZOl:=by kernel_rfl
def Zii:List Hint:=[H [1,2],H [1,2,8],H [2],⟨[1,2,3],[0],[],[],[],[]⟩,H [2,3,13,14,15],H [2,3,13,14,15,16],H [2,3,5,13,14,15],H [2,3,13,14,15],H [2,3,13,14,15],H [2]]
def ZfE:PC :=
 (.reg [1,2] [I 1 (.box (.s 0)),I 2 (.box (.v ZM))])
def ZfF:PC :=
 (.reg [1,2,8] [I 6 (.fadr 0 (.s 1)),I 7 (.ld false 1 (.s 6)),I 8 (.bin .eql (.s 7) (V 0))])
def ZfG:PC :=
 (.reg [2] [I 9 (.fadr 1 (.s 1)),I 10 (.ld false 1 (.s 9)),I 11 (C ZFe [(.s 10)]),J (.st 3 (.s 2) (.s 11))])
def ZfH:PC :=
 (.reg [1,2,3] [I 3 (.onil 3)])
def ZfI:PC :=
 (.reg [2,3,13,14,15] [I 12 (.fadr 2 (.s 1)),I 13 (.ld false 1 (.s 12)),I 14 (.len 1 (.s 13)),I 15 (.mv (V 0))])
def ZfJ:PC :=
 (.reg [2,3,13,14,15,16] [I 16 (.bin .lss (.s 15) (.s 14))])
def ZfK:PC :=
 (.reg [2,3,5,13,14,15] [I 17 (.ixS 4 (.s 13) (.s 15)),I 18 (.ld true 4 (.s 17)),I 5 (.box (.v ZK)),J (.st 4 (.s 5) (.s 18))])
def ZfL:PC :=
 (.reg [2,3,13,14,15] [I 19 (.mv (.s 3)),I 20 (.fadr 1 (.s 5)),I 21 (.ld true 3 (.s 20)),I 22 (.bslice false 3 [ZM] [(0,(.s 21))]),I 23 (.app 3 24 (.s 19) (.s 22)),I 3 (.mv (.s 23))])
def ZfM:PC :=
 (.reg [2,3,13,14,15] [I 24 (.bin .add (.s 15) (V 1)),I 15 (.mv (.s 24))])
def ZfN:PC :=
 (.seq ZfJ
 (.seq (.ite (.s 16)
 .skip
 (.exit 0))
 (.seq (.block 1
 (.seq ZfK
 ZfL))
 ZfM)))
def ZcW:PC :=
 (.reg [2] [I 25 (.mv (.s 3)),I 26 (C ZEF [(.s 25)]),J (.st 3 (.s 2) (.s 26))])
def ZYi:PF:=⟨false,
 (.seq ZfE
 (.seq (.seq ZfF
 (.ite (.s 8)
 (.seq ZfG
 .ret)
 .skip))
 (.seq ZfH
 (.seq (.seq ZfI
 (.block 0
 (.loop ZfN)))
 (.seq ZcW
 .ret))))),
 [.c 2 true 3]⟩
theorem Zij:Zp Proofs.Tryz.prog false Zii Proofs.Tryz.f222=some ZYi:=by kernel_rfl
def ZcX:List Hint:=[H [1,2],H [1,2,10],H [4],H [1,2,5],H [2,5,17],H [2,5],H [5,6],H [5,6,7],H [6,7,23,24],H [6,7,23,24,25],H [6,7,8,23,24],H [6,7,23,24],H [6,7,23,24],H [4]]
def ZUH:PC :=
 (.reg [1,2] [I 2 (.box (.s 0)),I 4 (.mv (.v .nils))])
def ZUI:PC :=
 (.reg [1,2,10] [I 9 (.ld false 1 (.s 2)),I 10 (.bin .eql (.s 9) (V 0))])
def ZUJ:PC :=
 (.reg [4] [I 4 (.mv (.v .nils))])
def ZUK:PC :=
 (.reg [1,2,5] [I 11 (.ld false 1 (.s 2)),I 12 (.mv (.s 1)),I 13 (.bin .quo (.s 11) (.s 12)),I 5 (.box (V 0)),J (.st 1 (.s 5) (.s 13))])
def ZUL:PC :=
 (.reg [2,5,17] [I 14 (.ld false 1 (.s 2)),I 15 (.mv (.s 1)),I 16 (.bin .rem (.s 14) (.s 15)),I 17 (.bin .gtr (.s 16) (V 0))])
def ZUM:PC :=
 (.reg [2,5] [I 18 (.ld false 1 (.s 5)),I 19 (.bin .add (.s 18) (V 1)),J (.st 1 (.s 5) (.s 19))])
def ZUN:PC :=
 (.reg [5,6] [I 20 (.mkf (.func J1) [] [(.s 2),(.s 5)]),I 6 (.mv (.s 20))])
def ZUO:PC :=
 (.reg [5,6,7] [I 21 (.ld false 1 (.s 5)),I 22 (.mkslice 1 8 (.int .i64 0) (.s 21) (.s 21)),I 7 (.mv (.s 22))])
def ZUP:PC :=
 (.reg [6,7,23,24] [I 23 (.ld false 1 (.s 5)),I 24 (.mv (V 0))])
def ZUQ:PC :=
 (.reg [6,7,23,24,25] [I 25 (.bin .lss (.s 24) (.s 23))])
def ZQ8:PC :=
 (.reg [6,7,8,23,24] [I 26 (.mv (.s 24)),I 8 (.mv (.s 26))])
def ZQ9:PC :=
 (.reg [6,7,23,24] [I 27 (.mv (.s 7)),I 28 (.mv (.s 8)),I 29 (.mv (.s 6)),I 30 (.mv (.s 8)),I 31 (.call .norm (.s 29) [(.s 30)]),I 32 (.ixS 1 (.s 27) (.s 28)),J (.st 1 (.s 32) (.s 31))])
def ZRA:PC :=
 (.reg [6,7,23,24] [I 33 (.bin .add (.s 24) (V 1)),I 24 (.mv (.s 33))])
def ZEz:PC :=
 (.seq ZUQ
 (.seq (.ite (.s 25)
 .skip
 (.exit 0))
 (.seq (.block 1
 (.seq ZQ8
 ZQ9))
 ZRA)))
def ZRB:PC :=
 (.reg [4] [I 34 (.mv (.s 7)),I 4 (.mv (.s 34))])
def ZLX:PF:=⟨false,
 (.seq ZUH
 (.seq (.seq ZUI
 (.ite (.s 10)
 (.seq ZUJ
 .ret)
 .skip))
 (.seq ZUK
 (.seq (.seq ZUL
 (.ite (.s 17)
 ZUM
 .skip))
 (.seq ZUN
 (.seq ZUO
 (.seq (.seq ZUP
 (.block 0
 (.loop ZEz)))
 (.seq ZRB
 .ret)))))))),
 [.s 4]⟩
theorem ZcY:Zp Proofs.Tryz.prog false ZcX Proofs.Tryz.f223=some ZLX:=by kernel_rfl
def ZfO:List Hint:=[H [0,4,5],H [0,4,5,22],H [6,7],H [0,4,5,8,9],H [0,4,5,8,9],H [0,4,5,8,9,33],H [0,4,5,8,9,10],H [0,4,5,8,9,10,41],H [6,7],H [0,4,5,8,9,47],H [0,4,5,8,9,10],H [0,4,5,8,9,10,55],H [6,7],H [0,4,5,8,9,57],H [6,7],H [0,4,5,8,9,78],H [6,7],H [0,4,5,8,9,87],H [0,5,8,11],H [8,11,12,13],H [8,11,12,13,107],H [6,7],H [6,7],H [9,10,14],H [9,10,14,127],H [6,7],⟨[6,7],[],[],[],[(4,.blind),(2,.app0),(0,.imm)],[]⟩]
def ZYj:PC :=
 (.reg [0,4,5] [I 4 (.box (.s 1)),I 5 (.box (.s 2)),I 6 (.mv (.v .nils)),I 7 (.mv (V 0))])
def ZYk:PC :=
 (.reg [0,4,5,22] [I 15 (.fadr 1 (.s 4)),I 16 (.ld false 1 (.s 15)),I 17 (.bin .eql (.s 16) (V 0)),I 18 (.mv (.s 17)),G 19 18 true (.fadr 1 (.s 5)),G 20 18 true (.ld false 1 (.s 19)),G 21 18 true (.bin .eql (.s 20) (V 0)),I 22 (.pick (.s 18) (.s 21) (.v (.bool false)))])
def ZYl:PC :=
 (.reg [6,7] [I 23 (.mv (.s 0)),I 24 (.ld true 7 (.s 4)),I 25 (.ld true 7 (.s 5)),I 26 (C ZEG [(.s 23),(.s 24),(.s 25)]),I 27 (.ext (.s 26) 0),I 28 (.ext (.s 26) 1),I 6 (.mv (.s 27)),I 7 (.mv (.s 28))])
def ZYm:PC :=
 (.reg [0,4,5,8,9] [I 8 (.mv (.v .nils)),I 9 (.mv (.v .nils))])
def ZYn:PC :=
 (.reg [0,4,5,8,9] [I 10 (.mv (V 0))])
def ZYo:PC :=
 (.reg [0,4,5,8,9,33] [I 29 (.fadr 1 (.s 4)),I 30 (.ld false 1 (.s 29)),I 31 (.fadr 1 (.s 5)),I 32 (.ld false 1 (.s 31)),I 33 (.bin .geq (.s 30) (.s 32))])
def ZYp:PC :=
 (.reg [0,4,5,8,9,10] [I 35 (.mv (.s 0)),I 36 (.ld true 7 (.s 4)),I 37 (C Jz [(.s 35),(.s 36)]),I 34 (.mv (.s 37)),I 38 (.ext (.s 34) 0),I 39 (.ext (.s 34) 1),I 8 (.mv (.s 38)),I 10 (.mv (.s 39))])
def ZYq:PC :=
 (.reg [0,4,5,8,9,10,41] [I 40 (.mv (.s 10)),I 41 (.bin .neq (.s 40) (V 0))])
def ZYr:PC :=
 (.reg [6,7] [I 42 (.mv (.s 10)),I 6 (.mv (.v .nils)),I 7 (.mv (.s 42))])
def ZYs:PC :=
 (.reg [0,4,5,8,9,47] [I 43 (.fadr 1 (.s 5)),I 44 (.ld false 1 (.s 43)),I 45 (.fadr 1 (.s 4)),I 46 (.ld false 1 (.s 45)),I 47 (.bin .geq (.s 44) (.s 46))])
def ZUR:PC :=
 (.reg [0,4,5,8,9,10] [I 49 (.mv (.s 0)),I 50 (.ld true 7 (.s 5)),I 51 (C Jz [(.s 49),(.s 50)]),I 48 (.mv (.s 51)),I 52 (.ext (.s 48) 0),I 53 (.ext (.s 48) 1),I 9 (.mv (.s 52)),I 10 (.mv (.s 53))])
def ZUS:PC :=
 (.reg [0,4,5,8,9,10,55] [I 54 (.mv (.s 10)),I 55 (.bin .neq (.s 54) (V 0))])
def ZUT:PC :=
 (.reg [6,7] [I 56 (.mv (.s 10)),I 6 (.mv (.v .nils)),I 7 (.mv (.s 56))])
def ZUU:PC :=
 (.reg [0,4,5,8,9,57] [I 58 (.fadr 1 (.s 4)),I 59 (.ld false 1 (.s 58)),I 60 (.fadr 1 (.s 5)),I 61 (.ld false 1 (.s 60)),I 62 (.bin .eql (.s 59) (.s 61)),I 63 (.mv (.s 62)),G 64 63 true (.mv (.s 8)),G 65 63 true (.len 1 (.s 64)),G 66 63 true (.mv (.s 9)),G 67 63 true (.len 1 (.s 66)),G 68 63 true (.bin .add (.s 65) (.s 67)),G 69 63 true (.bin .leq (.s 68) (V 4)),I 70 (.pick (.s 63) (.s 69) (.v (.bool false))),I 57 (.mv (.s 70))])
def ZUV:PC :=
 (.reg [6,7] [I 71 (.bslice false 7 [] []),I 72 (.mv (.s 8)),I 73 (.app 7 80 (.s 71) (.s 72)),I 74 (.mv (.s 9)),I 75 (.app 7 80 (.s 73) (.s 74)),I 76 (C QS [(.s 75)]),I 77 (.bslice false 7 [ZT] [(0,(.s 76))]),I 6 (.mv (.s 77)),I 7 (.mv (V 0))])
def ZUW:PC :=
 (.reg [0,4,5,8,9,78] [I 79 (.fadr 1 (.s 4)),I 80 (.ld false 1 (.s 79)),I 81 (.fadr 1 (.s 5)),I 82 (.ld false 1 (.s 81)),I 83 (.bin .eql (.s 80) (.s 82)),I 78 (.mv (.s 83))])
def ZUX:PC :=
 (.reg [6,7] [I 84 (.ld true 7 (.s 4)),I 85 (.ld true 7 (.s 5)),I 86 (.bslice false 7 [ZT,ZT] [(0,(.s 84)),(1,(.s 85))]),I 6 (.mv (.s 86)),I 7 (.mv (V 0))])
def ZUY:PC :=
 (.reg [0,4,5,8,9,87] [I 88 (.fadr 1 (.s 4)),I 89 (.ld false 1 (.s 88)),I 90 (.fadr 1 (.s 5)),I 91 (.ld false 1 (.s 90)),I 92 (.bin .gtr (.s 89) (.s 91)),I 87 (.mv (.s 92))])
def ZUZ:PC :=
 (.reg [0,5,8,11] [I 93 (.mv (.s 8)),I 94 (.len 1 (.s 93)),I 95 (.bin .sub (.s 94) (V 1)),I 11 (.mv (.s 95))])
def ZUa:PC :=
 (.reg [8,11,12,13] [I 97 (.mv (.s 0)),I 98 (.mv (.s 8)),I 99 (.mv (.s 11)),I 100 (.ixS 7 (.s 98) (.s 99)),I 101 (.ld true 7 (.s 100)),I 102 (.ld true 7 (.s 5)),I 103 (C ZAA [(.s 97),(.s 101),(.s 102)]),I 96 (.mv (.s 103)),I 104 (.ext (.s 96) 0),I 105 (.ext (.s 96) 1),I 12 (.mv (.s 104)),I 13 (.mv (.s 105))])
def ZUb:PC :=
 (.reg [8,11,12,13,107] [I 106 (.mv (.s 13)),I 107 (.bin .neq (.s 106) (V 0))])
def ZUc:PC :=
 (.reg [6,7] [I 108 (.mv (.s 13)),I 6 (.mv (.v .nils)),I 7 (.mv (.s 108))])
def ZUd:PC :=
 (.reg [6,7] [I 109 (.bslice false 7 [] []),I 110 (.mv (.s 8)),I 111 (.mv (.s 11)),I 112 (.slc 7 (.s 110) none (some (.s 111))),I 113 (.app 7 80 (.s 109) (.s 112)),I 114 (.mv (.s 12)),I 115 (.app 7 80 (.s 113) (.s 114)),I 116 (C ZDz [(.s 115)]),I 6 (.mv (.s 116)),I 7 (.mv (V 0))])
def ZUe:PC :=
 (.reg [9,10,14] [I 118 (.mv (.s 0)),I 119 (.ld true 7 (.s 4)),I 120 (.mv (.s 9)),I 121 (.ixS 7 (.s 120) (V 0)),I 122 (.ld true 7 (.s 121)),I 123 (C ZAA [(.s 118),(.s 119),(.s 122)]),I 117 (.mv (.s 123)),I 124 (.ext (.s 117) 0),I 125 (.ext (.s 117) 1),I 14 (.mv (.s 124)),I 10 (.mv (.s 125))])
def ZUf:PC :=
 (.reg [9,10,14,127] [I 126 (.mv (.s 10)),I 127 (.bin .neq (.s 126) (V 0))])
def ZUg:PC :=
 (.reg [6,7] [I 128 (.mv (.s 10)),I 6 (.mv (.v .nils)),I 7 (.mv (.s 128))])
def ZUh:PC :=
 (.reg [6,7] [I 129 (.w .imm (.bslice false 7 [] [])),I 130 (.mv (.s 14)),I 131 (.w .app0 (.app 7 80 (.s 129) (.s 130))),I 132 (.mv (.s 9)),I 133 (.w .blind (.slc 7 (.s 132) (some (V 1)) none)),I 134 (.app 7 80 (.s 131) (.s 133)),I 135 (C ZDz [(.s 134)]),I 6 (.mv (.s 135)),I 7 (.mv (V 0))])
def ZOm:PF:=⟨false,
 (.seq ZYj
 (.seq (.seq ZYk
 (.ite (.s 22)
 (.seq ZYl
 .ret)
 .skip))
 (.seq ZYm
 (.seq ZYn
 (.seq (.seq ZYo
 (.ite (.s 33)
 (.seq ZYp
 (.seq ZYq
 (.ite (.s 41)
 (.seq ZYr
 .ret)
 .skip)))
 .skip))
 (.seq (.seq ZYs
 (.ite (.s 47)
 (.seq ZUR
 (.seq ZUS
 (.ite (.s 55)
 (.seq ZUT
 .ret)
 .skip)))
 .skip))
 (.seq (.block 0
 (.seq ZUU
 (.ite (.s 57)
 (.seq ZUV
 .ret)
 (.seq ZUW
 (.ite (.s 78)
 (.seq ZUX
 .ret)
 (.seq ZUY
 (.ite (.s 87)
 (.seq ZUZ
 (.seq ZUa
 (.seq (.seq ZUb
 (.ite (.s 107)
 (.seq ZUc
 .ret)
 .skip))
 (.seq ZUd
 .ret))))
 .skip)))))))
 (.seq ZUe
 (.seq (.seq ZUf
 (.ite (.s 127)
 (.seq ZUg
 .ret)
 .skip))
 (.seq ZUh
 .ret)))))))))),
 [.s 6,.s 7]⟩
theorem ZfP:Zp Proofs.Tryz.prog false ZfO Proofs.Tryz.f225=some ZOm:=by kernel_rfl
def ZYt:List Hint:=[H [3,4,5],⟨[],[6],[],[],[(0,(.only (.s 3))),(7,(.grow (.s 3)))],[]⟩]
def ZRC:PC :=
 (.reg [3,4,5] [I 3 (.box (.s 0)),I 4 (.box (.s 1)),I 5 (.box (.s 2))])
def ZRD:PC :=
 (.reg [] [I 6 (.w (.only (.s 3)) (.ld false 1 (.s 3))),I 7 (.ld false 1 (.s 3)),I 8 (.nilck (.s 7)),I 9 (.fadr 1 (.s 8)),I 10 (.ld false 1 (.s 9)),I 11 (.mkf (.func Y3) [] [(.s 3),(.s 5),(.s 4)]),I 12 (.bslice true 1 [.nilfunc] [(0,(.s 11))]),I 13 (.w (.grow (.s 3)) (.app 1 8 (.s 10) (.s 12))),I 14 (.nilck (.s 6)),I 15 (.fadr 1 (.s 14)),J (.st 1 (.s 15) (.s 13))])
def ZJ7:PF:=⟨true,
 (.seq ZRC
 ZRD),
 []⟩
theorem ZYu:Zp Proofs.Tryz.prog true ZYt Proofs.Tryz.f226=some ZJ7:=by kernel_rfl
def ZRE:List Hint:=[H [0,1],H [1]]
def ZMP:PC :=
 (.reg [0,1] [I 1 (.box (.v ZN))])
def ZMQ:PC :=
 (.reg [1] [I 2 (.ld true 3 (.s 0)),J (.st 3 (.s 1) (.s 2))])
def ZE0:PF:=⟨false,
 (.seq ZMP
 (.seq ZMQ
 .ret)),
 [.c 1 true 3]⟩
theorem ZRF:Zp Proofs.Tryz.prog false ZRE Proofs.Tryz.f227=some ZE0:=by kernel_rfl
def ZRG:List Hint:=[H [0,1,2],H [1,2,3],H [2,3,9,10,11],H [2,3,9,10,11,12],H [2,3,5,9,10,11],⟨[2,3,9,10,11],[],[],[],[(11,.imm)],[]⟩,H [2,3,9,10,11],H [2]]
def ZMR:PC :=
 (.reg [0,1,2] [I 2 (.box (.v ZN))])
def ZMS:PC :=
 (.reg [1,2,3] [I 6 (.fadr 1 (.s 0)),I 7 (.ld false 1 (.s 6)),I 8 (.build [(.int .i64 0),(.str []),.nils] [(0,1,(.s 7))]),I 3 (.box (.v ZN)),J (.st 3 (.s 3) (.s 8))])
def ZMT:PC :=
 (.reg [2,3,9,10,11] [I 9 (.ld false 1 (.s 1)),I 10 (.len 1 (.s 9)),I 11 (.mv (V 0))])
def ZMU:PC :=
 (.reg [2,3,9,10,11,12] [I 12 (.bin .lss (.s 11) (.s 10))])
def ZMV:PC :=
 (.reg [2,3,5,9,10,11] [I 13 (.ixS 1 (.s 9) (.s 11)),I 14 (.ld false 1 (.s 13)),I 5 (.mv (.s 14))])
def ZMW:PC :=
 (.reg [2,3,9,10,11] [I 15 (.fadr 2 (.s 3)),I 16 (.ld false 1 (.s 15)),I 17 (.mv (.s 5)),I 18 (.nilck (.s 17)),I 19 (.fadr 0 (.s 18)),I 20 (.ld false 1 (.s 19)),I 21 (.mv (.s 5)),I 22 (.nilck (.s 21)),I 23 (.fadr 2 (.s 22)),I 24 (.ld true 3 (.s 23)),I 25 (.build [(.int .u64 0),(.int .i64 0),(.int .i64 0),(.int .i64 0)] [(0,1,(.s 20)),(1,3,(.s 24))]),I 26 (.w .imm (.bslice false 4 [ZK] [(0,(.s 25))])),I 27 (.app 4 32 (.s 16) (.s 26)),I 28 (.fadr 2 (.s 3)),J (.st 1 (.s 28) (.s 27))])
def ZMX:PC :=
 (.reg [2,3,9,10,11] [I 29 (.bin .add (.s 11) (V 1)),I 11 (.mv (.s 29))])
def ZMY:PC :=
 (.seq ZMU
 (.seq (.ite (.s 12)
 .skip
 (.exit 0))
 (.seq (.block 1
 (.seq ZMV
 ZMW))
 ZMX)))
def ZMZ:PC :=
 (.reg [2] [I 30 (.ld true 3 (.s 3)),J (.st 3 (.s 2) (.s 30))])
def ZE1:PF:=⟨false,
 (.seq ZMR
 (.seq ZMS
 (.seq (.seq ZMT
 (.block 0
 (.loop ZMY)))
 (.seq ZMZ
 .ret)))),
 [.c 2 true 3]⟩
theorem ZRH:Zp Proofs.Tryz.prog false ZRG Proofs.Tryz.f228=some ZE1:=by kernel_rfl
def ZfQ:List Hint:=[H [0],H [2]]
def ZYv:PC :=
 (.reg [0] [I 2 (.mv (.v (.bool false)))])
def ZYw:PC :=
 (.reg [2] [I 3 (.mv (.s 0)),I 4 (.len 0 (.s 3)),I 5 (.bin .geq (.s 4) (V 1)),I 6 (.mv (.s 5)),G 7 6 true (.mv (.s 0)),G 8 6 true (.len 0 (.s 7)),G 9 6 true (.bin .leq (.s 8) (V 16)),I 10 (.pick (.s 6) (.s 9) (.v (.bool false))),I 2 (.mv (.s 10))])
def ZOn:PF:=⟨false,
 (.seq ZYv
 (.seq ZYw
 .ret)),
 [.s 2]⟩
theorem ZfR:Zp Proofs.Tryz.prog false ZfQ Proofs.Tryz.f229=some ZOn:=by kernel_rfl
def ZcZ:List Hint:=[H [1],H [1,9],H [2],H [1,50],H [2],H [1,3,4],H [3,4,59,60,61],H [3,4,59,60,61,62],H [3,4,6,59,60,61],H [3,4,59,60,61,112],H [2],H [3,4,59,60,61],H [2]]
def ZUi:PC :=
 (.reg [1] [I 1 (.box (.s 0)),I 2 (.mv (.v (.bool false)))])
def ZUj:PC :=
 (.reg [1,9] [I 7 (.fadr 0 (.s 1)),I 8 (.ld false 1 (.s 7)),I 9 (.bin .eql (.s 8) (V 0))])
def ZUk:PC :=
 (.reg [2] [I 10 (.fadr 1 (.s 1)),I 11 (.ld false 1 (.s 10)),I 12 (.len 0 (.s 11)),I 13 (.bin .geq (.s 12) (V 1)),I 14 (.mv (.s 13)),G 15 14 true (.fadr 1 (.s 1)),G 16 14 true (.ld false 1 (.s 15)),G 17 14 true (.len 0 (.s 16)),G 18 14 true (.bin .leq (.s 17) (V 16)),I 19 (.pick (.s 14) (.s 18) (.v (.bool false))),I 20 (.mv (.s 19)),G 21 20 true (.fadr 2 (.s 1)),G 22 20 true (.ld false 1 (.s 21)),G 23 20 true (.len 1 (.s 22)),G 24 20 true (.bin .eql (.s 23) (V 0)),I 25 (.pick (.s 20) (.s 24) (.v (.bool false))),I 2 (.mv (.s 25))])
def ZUl:PC :=
 (.reg [1,50] [I 26 (.fadr 0 (.s 1)),I 27 (.ld false 1 (.s 26)),I 28 (.bin .lss (.s 27) (V 1)),I 29 (.mv (.s 28)),G 30 29 false (.fadr 0 (.s 1)),G 31 29 false (.ld false 1 (.s 30)),G 32 29 false (.bin .gtr (.s 31) (V 16)),I 33 (.pick (.s 29) (.v (.bool true)) (.s 32)),I 34 (.mv (.s 33)),G 35 34 false (.fadr 1 (.s 1)),G 36 34 false (.ld false 1 (.s 35)),G 37 34 false (.bin .neq (.s 36) (.v (.str []))),I 38 (.pick (.s 34) (.v (.bool true)) (.s 37)),I 39 (.mv (.s 38)),G 40 39 false (.fadr 2 (.s 1)),G 41 39 false (.ld false 1 (.s 40)),G 42 39 false (.len 1 (.s 41)),G 43 39 false (.bin .lss (.s 42) (V 2)),I 44 (.pick (.s 39) (.v (.bool true)) (.s 43)),I 45 (.mv (.s 44)),G 46 45 false (.fadr 2 (.s 1)),G 47 45 false (.ld false 1 (.s 46)),G 48 45 false (.len 1 (.s 47)),G 49 45 false (.bin .gtr (.s 48) (V 4)),I 50 (.pick (.s 45) (.v (.bool true)) (.s 49))])
def ZUm:PC :=
 (.reg [2] [I 2 (.mv (.v (.bool false)))])
def ZUn:PC :=
 (.reg [1,3,4] [I 52 (.fadr 0 (.s 1)),I 53 (.ld false 1 (.s 52)),I 54 (.bin .sub (.s 53) (V 1)),I 55 (C ZEH [(.s 54)]),I 51 (.mv (.s 55)),I 56 (.ext (.s 51) 0),I 57 (.ext (.s 51) 1),I 3 (.mv (.s 56)),I 4 (.mv (.s 57))])
def ZUo:PC :=
 (.reg [3,4,59,60,61] [I 58 (.fadr 2 (.s 1)),I 59 (.ld false 1 (.s 58)),I 60 (.len 1 (.s 59)),I 61 (.mv (V 0))])
def ZUp:PC :=
 (.reg [3,4,59,60,61,62] [I 62 (.bin .lss (.s 61) (.s 60))])
def ZUq:PC :=
 (.reg [3,4,6,59,60,61] [I 63 (.ixS 4 (.s 59) (.s 61)),I 64 (.ld true 4 (.s 63)),I 6 (.box (.v ZK)),J (.st 4 (.s 6) (.s 64))])
def ZUr:PC :=
 (.reg [3,4,59,60,61,112] [I 65 (.fadr 0 (.s 6)),I 66 (.ld false 1 (.s 65)),I 67 (C ZCh [(.s 66)]),I 68 (.bin .neq (.s 67) (V 0)),I 69 (.mv (.s 68)),G 70 69 false (.fadr 1 (.s 6)),G 71 69 false (.fadr 0 (.s 70)),G 72 69 false (.ld false 1 (.s 71)),G 73 69 false (.mv (.s 3)),G 74 69 false (.bin .lss (.s 72) (.s 73)),I 75 (.pick (.s 69) (.v (.bool true)) (.s 74)),I 76 (.mv (.s 75)),G 77 76 false (.fadr 1 (.s 6)),G 78 76 false (.fadr 0 (.s 77)),G 79 76 false (.ld false 1 (.s 78)),G 80 76 false (.mv (.s 4)),G 81 76 false (.bin .gtr (.s 79) (.s 80)),I 82 (.pick (.s 76) (.v (.bool true)) (.s 81)),I 83 (.mv (.s 82)),G 84 83 false (.fadr 1 (.s 6)),G 85 83 false (.fadr 1 (.s 84)),G 86 83 false (.ld false 1 (.s 85)),G 87 83 false (.bin .lss (.s 86) (V 0)),I 88 (.pick (.s 83) (.v (.bool true)) (.s 87)),I 89 (.mv (.s 88)),G 90 89 false (.fadr 1 (.s 6)),G 91 89 false (.fadr 1 (.s 90)),G 92 89 false (.ld false 1 (.s 91)),G 93 89 false (.fadr 1 (.s 6)),G 94 89 false (.fadr 0 (.s 93)),G 95 89 false (.ld false 1 (.s 94)),G 96 89 false (.bin .gtr (.s 92) (.s 95)),I 97 (.pick (.s 89) (.v (.bool true)) (.s 96)),I 98 (.mv (.s 97)),G 99 98 false (.fadr 1 (.s 6)),G 100 98 false (.fadr 2 (.s 99)),G 101 98 false (.ld false 1 (.s 100)),G 102 98 false (.bin .lss (.s 101) (V 0)),I 103 (.pick (.s 98) (.v (.bool true)) (.s 102)),I 104 (.mv (.s 103)),G 105 104 false (.fadr 1 (.s 6)),G 106 104 false (.fadr 2 (.s 105)),G 107 104 false (.ld false 1 (.s 106)),G 108 104 false (.fadr 1 (.s 6)),G 109 104 false (.fadr 1 (.s 108)),G 110 104 false (.ld false 1 (.s 109)),G 111 104 false (.bin .gtr (.s 107) (.s 110)),I 112 (.pick (.s 104) (.v (.bool true)) (.s 111))])
def ZRI:PC :=
 (.reg [2] [I 2 (.mv (.v (.bool false)))])
def ZRJ:PC :=
 (.reg [3,4,59,60,61] [I 113 (.bin .add (.s 61) (V 1)),I 61 (.mv (.s 113))])
def ZRK:PC :=
 (.seq ZUp
 (.seq (.ite (.s 62)
 .skip
 (.exit 0))
 (.seq (.block 1
 (.seq ZUq
 (.seq ZUr
 (.ite (.s 112)
 (.seq ZRI
 .ret)
 .skip))))
 ZRJ)))
def ZRL:PC :=
 (.reg [2] [I 2 (.mv (.v (.bool true)))])
def ZLY:PF:=⟨false,
 (.seq ZUi
 (.seq (.seq ZUj
 (.ite (.s 9)
 (.seq ZUk
 .ret)
 .skip))
 (.seq (.seq ZUl
 (.ite (.s 50)
 (.seq ZUm
 .ret)
 .skip))
 (.seq ZUn
 (.seq (.seq ZUo
 (.block 0
 (.loop ZRK)))
 (.seq ZRL
 .ret)))))),
 [.s 2]⟩
theorem Zca:Zp Proofs.Tryz.prog false ZcZ Proofs.Tryz.f240=some ZLY:=by kernel_rfl
def ZfS:List Hint:=[H [0,2],H [0,2,3],H [0,2,3,6,7],H [0,2,3,6,7,8],H [0,2,3,4,5,6,7],H [0,2,3,6,7],H [0,2,3,6,7],H [2]]
def ZYx:PC :=
 (.reg [0,2] [I 2 (.box (.v ZM))])
def ZYy:PC :=
 (.reg [0,2,3] [I 3 (.box (.v ZM))])
def ZYz:PC :=
 (.reg [0,2,3,6,7] [I 6 (.build [.nilfunc,.nilfunc,.nilfunc] [(0,1,(.v (.func (.func Xd) [] []))),(1,1,(.v (.func (.func Y2) [] []))),(2,1,(.v (.func (.func J0) [] [])))]),I 7 (.mv (V 0))])
def ZY0:PC :=
 (.reg [0,2,3,6,7,8] [I 8 (.bin .lss (.s 7) (V 3))])
def ZY1:PC :=
 (.reg [0,2,3,4,5,6,7] [I 9 (.mv (.s 7)),I 10 (.ixArr false 3 1 (.s 6) (.s 7)),I 4 (.mv (.s 9)),I 5 (.mv (.s 10))])
def ZY2:PC :=
 (.reg [0,2,3,6,7] [I 11 (.mv (.s 4)),I 12 (.mv (.s 0)),I 13 (.mv (.s 5)),I 14 (C Xc [(.s 12),(.s 13)]),I 15 (.ixA 3 1 (.s 3) (.s 11)),J (.st 1 (.s 15) (.s 14))])
def ZY3:PC :=
 (.reg [0,2,3,6,7] [I 16 (.bin .add (.s 7) (V 1)),I 7 (.mv (.s 16))])
def ZY4:PC :=
 (.seq ZY0
 (.seq (.ite (.s 8)
 .skip
 (.exit 0))
 (.seq (.block 1
 (.seq ZY1
 ZY2))
 ZY3)))
def ZY5:PC :=
 (.reg [2] [I 17 (.ld true 3 (.s 3)),I 18 (C YS [(.s 17)]),J (.st 3 (.s 2) (.s 18))])
def ZOo:PF:=⟨false,
 (.seq ZYx
 (.seq ZYy
 (.seq (.seq ZYz
 (.block 0
 (.loop ZY4)))
 (.seq ZY5
 .ret)))),
 [.c 2 true 3]⟩
theorem ZfT:Zp Proofs.Tryz.prog false ZfS Proofs.Tryz.f241=some ZOo:=by kernel_rfl
def Zcb:List Hint:=[H [0,2],H [0,2,3],H [2,3,8,9,10],H [2,3,8,9,10,11],H [2,3,5,8,9,10],H [2,3,8,9,10,20,21],H [2,3,8,9,10,20,21,22],H [2,3,6,7,8,9,10,20,21],H [2,3,8,9,10,20,21],H [2,3,8,9,10,20,21],H [2,3,8,9,10],H [2]]
def ZUs:PC :=
 (.reg [0,2] [I 2 (.box (.v ZM))])
def ZUt:PC :=
 (.reg [0,2,3] [I 3 (.box (.v ZM))])
def ZUu:PC :=
 (.reg [2,3,8,9,10] [I 8 (.mv (.s 0)),I 9 (.len 1 (.s 8)),I 10 (.mv (V 0))])
def ZUv:PC :=
 (.reg [2,3,8,9,10,11] [I 11 (.bin .lss (.s 10) (.s 9))])
def ZUw:PC :=
 (.reg [2,3,5,8,9,10] [I 12 (.ixS 3 (.s 8) (.s 10)),I 13 (.ld true 3 (.s 12)),I 5 (.box (.v ZM)),J (.st 3 (.s 5) (.s 13))])
def ZUx:PC :=
 (.reg [2,3,8,9,10,20,21] [I 14 (.fadr 0 (.s 5)),I 15 (.ld false 1 (.s 14)),I 16 (.fadr 1 (.s 5)),I 17 (.ld false 1 (.s 16)),I 18 (.fadr 2 (.s 5)),I 19 (.ld false 1 (.s 18)),I 20 (.build [(.int .i64 0),(.int .i64 0),(.int .i64 0)] [(0,1,(.s 15)),(1,1,(.s 17)),(2,1,(.s 19))]),I 21 (.mv (V 0))])
def ZUy:PC :=
 (.reg [2,3,8,9,10,20,21,22] [I 22 (.bin .lss (.s 21) (V 3))])
def ZUz:PC :=
 (.reg [2,3,6,7,8,9,10,20,21] [I 23 (.mv (.s 21)),I 24 (.ixArr false 3 1 (.s 20) (.s 21)),I 6 (.mv (.s 23)),I 7 (.mv (.s 24))])
def ZU0:PC :=
 (.reg [2,3,8,9,10,20,21] [I 25 (.mv (.s 6)),I 26 (.ixA 3 1 (.s 3) (.s 25)),I 27 (.ld false 1 (.s 26)),I 28 (.mv (.s 7)),I 29 (.bin .add (.s 27) (.s 28)),I 30 (.ixA 3 1 (.s 3) (.s 25)),J (.st 1 (.s 30) (.s 29))])
def ZU1:PC :=
 (.reg [2,3,8,9,10,20,21] [I 31 (.bin .add (.s 21) (V 1)),I 21 (.mv (.s 31))])
def ZRM:PC :=
 (.seq ZUy
 (.seq (.ite (.s 22)
 .skip
 (.exit 2))
 (.seq (.block 3
 (.seq ZUz
 ZU0))
 ZU1)))
def ZRN:PC :=
 (.reg [2,3,8,9,10] [I 32 (.bin .add (.s 10) (V 1)),I 10 (.mv (.s 32))])
def ZRO:PC :=
 (.seq ZUv
 (.seq (.ite (.s 11)
 .skip
 (.exit 0))
 (.seq (.block 1
 (.seq ZUw
 (.seq ZUx
 (.block 2
 (.loop ZRM)))))
 ZRN)))
def ZRP:PC :=
 (.reg [2] [I 33 (.ld true 3 (.s 3)),I 34 (C YS [(.s 33)]),J (.st 3 (.s 2) (.s 34))])
def ZLZ:PF:=⟨false,
 (.seq ZUs
 (.seq ZUt
 (.seq (.seq ZUu
 (.block 0
 (.loop ZRO)))
 (.seq ZRP
 .ret)))),
 [.c 2 true 3]⟩
theorem Zcc:Zp Proofs.Tryz.prog false Zcb Proofs.Tryz.f242=some ZLZ:=by kernel_rfl
def ZU2:List Hint:=[H [0,1,2],H [1,2,9],H [4],H [4]]
def ZOp:PC :=
 (.reg [0,1,2] [I 4 (.mv (V 0))])
def ZOq:PC :=
 (.reg [1,2,9] [I 5 (.mv (.s 0)),I 6 (.ld false 1 (.s 1)),I 7 (.ld false 1 (.s 2)),I 8 (.bin .rem (.s 6) (.s 7)),I 9 (.bin .lss (.s 5) (.s 8))])
def ZOr:PC :=
 (.reg [4] [I 10 (.ld false 1 (.s 1)),I 11 (.ld false 1 (.s 2)),I 12 (.bin .quo (.s 10) (.s 11)),I 13 (.bin .add (.s 12) (V 1)),I 4 (.mv (.s 13))])
def ZOs:PC :=
 (.reg [4] [I 14 (.ld false 1 (.s 1)),I 15 (.ld false 1 (.s 2)),I 16 (.bin .quo (.s 14) (.s 15)),I 4 (.mv (.s 16))])
def ZHQ:PF:=⟨false,
 (.seq ZOp
 (.seq (.seq ZOq
 (.ite (.s 9)
 (.seq ZOr
 .ret)
 .skip))
 (.seq ZOs
 .ret))),
 [.s 4]⟩
theorem ZU3:Zp Proofs.Tryz.prog false ZU2 Proofs.Tryz.f243=some ZHQ:=by kernel_rfl
def Zcd:List Hint:=[H [0,4,5],⟨[0,4,5,8,9],[],[(1,.pure)],[],[],[]⟩,H [0,4,5,32],H [6,7],H [0,5,10,11],H [0,5,10,11,43],H [6,7],H [10,11,12],H [10,11,12,52],H [6,7],H [11,13],H [11,13,61],H [6,7],⟨[13,14],[0],[],[],[],[]⟩,H [14,63,64,65],H [14,63,64,65,66],H [14,16,63,64,65],H [14,63,64,65],H [14,63,64,65],H [6,7]]
def ZU4:PC :=
 (.reg [0,4,5] [I 4 (.box (.s 1)),I 5 (.box (.s 2)),I 6 (.mv (.v .nils)),I 7 (.mv (V 0))])
def ZU5:PC :=
 (.reg [0,4,5,8,9] [I 17 (.ld true 7 (.s 4)),I 18 (.call .pure (.v (.func (.func Qs) [] [])) [(.s 17)]),I 19 (.ld true 7 (.s 5)),I 20 (C Qs [(.s 19)]),I 8 (.mv (.s 18)),I 9 (.mv (.s 20))])
def ZU6:PC :=
 (.reg [0,4,5,32] [I 21 (.mv (.s 8)),I 22 (.mv (.s 9)),I 23 (.bin .add (.s 21) (.s 22)),I 24 (.bin .gtr (.s 23) (V 16)),I 25 (.mv (.s 24)),G 26 25 true (.mv (.s 8)),G 27 25 true (.bin .geq (.s 26) (V 8)),I 28 (.pick (.s 25) (.s 27) (.v (.bool false))),I 29 (.mv (.s 28)),G 30 29 true (.mv (.s 9)),G 31 29 true (.bin .geq (.s 30) (V 8)),I 32 (.pick (.s 29) (.s 31) (.v (.bool false)))])
def ZU7:PC :=
 (.reg [6,7] [I 33 (.ld true 7 (.s 4)),I 34 (.ld true 7 (.s 5)),I 35 (.bslice false 7 [ZT,ZT] [(0,(.s 33)),(1,(.s 34))]),I 6 (.mv (.s 35)),I 7 (.mv (V 0))])
def ZU8:PC :=
 (.reg [0,5,10,11] [I 37 (.mv (.s 0)),I 38 (.ld true 7 (.s 4)),I 39 (C Xt [(.s 37),(.s 38)]),I 36 (.mv (.s 39)),I 40 (.ext (.s 36) 0),I 41 (.ext (.s 36) 1),I 10 (.mv (.s 40)),I 11 (.mv (.s 41))])
def ZU9:PC :=
 (.reg [0,5,10,11,43] [I 42 (.mv (.s 11)),I 43 (.bin .neq (.s 42) (V 0))])
def ZVA:PC :=
 (.reg [6,7] [I 44 (.mv (.s 11)),I 6 (.mv (.v .nils)),I 7 (.mv (.s 44))])
def ZVB:PC :=
 (.reg [10,11,12] [I 46 (.mv (.s 0)),I 47 (.ld true 7 (.s 5)),I 48 (C Xt [(.s 46),(.s 47)]),I 45 (.mv (.s 48)),I 49 (.ext (.s 45) 0),I 50 (.ext (.s 45) 1),I 12 (.mv (.s 49)),I 11 (.mv (.s 50))])
def ZVC:PC :=
 (.reg [10,11,12,52] [I 51 (.mv (.s 11)),I 52 (.bin .neq (.s 51) (V 0))])
def ZVD:PC :=
 (.reg [6,7] [I 53 (.mv (.s 11)),I 6 (.mv (.v .nils)),I 7 (.mv (.s 53))])
def ZRQ:PC :=
 (.reg [11,13] [I 55 (.mv (.s 10)),I 56 (.mv (.s 12)),I 57 (C ZFf [(.s 55),(.s 56)]),I 54 (.mv (.s 57)),I 58 (.ext (.s 54) 0),I 59 (.ext (.s 54) 1),I 13 (.mv (.s 58)),I 11 (.mv (.s 59))])
def ZRR:PC :=
 (.reg [11,13,61] [I 60 (.mv (.s 11)),I 61 (.bin .neq (.s 60) (V 0))])
def ZRS:PC :=
 (.reg [6,7] [I 62 (.mv (.s 11)),I 6 (.mv (.v .nils)),I 7 (.mv (.s 62))])
def ZRT:PC :=
 (.reg [13,14] [I 14 (.onil 7)])
def ZRU:PC :=
 (.reg [14,63,64,65] [I 63 (.mv (.s 13)),I 64 (.len 1 (.s 63)),I 65 (.mv (V 0))])
def ZRV:PC :=
 (.reg [14,63,64,65,66] [I 66 (.bin .lss (.s 65) (.s 64))])
def ZRW:PC :=
 (.reg [14,16,63,64,65] [I 67 (.ixS 1 (.s 63) (.s 65)),I 68 (.ld false 1 (.s 67)),I 16 (.mv (.s 68))])
def ZRX:PC :=
 (.reg [14,63,64,65] [I 69 (.mv (.s 14)),I 70 (.mv (.s 16)),I 71 (.build [(.int .u64 0),(.int .i64 0),(.int .i64 0),(.int .i64 0),(.int .i64 0),(.str []),.nils] [(5,1,(.s 70))]),I 72 (.bslice false 7 [ZT] [(0,(.s 71))]),I 73 (.app 7 80 (.s 69) (.s 72)),I 14 (.mv (.s 73))])
def ZRY:PC :=
 (.reg [14,63,64,65] [I 74 (.bin .add (.s 65) (V 1)),I 65 (.mv (.s 74))])
def ZE2:PC :=
 (.seq ZRV
 (.seq (.ite (.s 66)
 .skip
 (.exit 0))
 (.seq (.block 1
 (.seq ZRW
 ZRX))
 ZRY)))
def ZRZ:PC :=
 (.reg [6,7] [I 75 (.mv (.s 14)),I 6 (.mv (.s 75)),I 7 (.mv (V 0))])
def ZLa:PF:=⟨false,
 (.seq ZU4
 (.seq ZU5
 (.seq (.seq ZU6
 (.ite (.s 32)
 (.seq ZU7
 .ret)
 .skip))
 (.seq ZU8
 (.seq (.seq ZU9
 (.ite (.s 43)
 (.seq ZVA
 .ret)
 .skip))
 (.seq ZVB
 (.seq (.seq ZVC
 (.ite (.s 52)
 (.seq ZVD
 .ret)
 .skip))
 (.seq ZRQ
 (.seq (.seq ZRR
 (.ite (.s 61)
 (.seq ZRS
 .ret)
 .skip))
 (.seq ZRT
 (.seq (.seq ZRU
 (.block 0
 (.loop ZE2)))
 (.seq ZRZ
 .ret)))))))))))),
 [.s 6,.s 7]⟩
theorem Zce:Zp Proofs.Tryz.prog false Zcd Proofs.Tryz.f245=some ZLa:=by kernel_rfl
def Zg7:List Hint:=[H [0],H [0,6],H [2],H [0,3],⟨[2],[],[(3,.pure)],[],[],[]⟩]
def Zcf:PC :=
 (.reg [0] [I 2 (.mv (.v .nils))])
def Zcg:PC :=
 (.reg [0,6] [I 4 (.mv (.s 0)),I 5 (.len 1 (.s 4)),I 6 (.bin .leq (.s 5) (V 4))])
def Zch:PC :=
 (.reg [2] [I 7 (.mv (.s 0)),I 8 (C QS [(.s 7)]),I 9 (.bslice false 7 [ZT] [(0,(.s 8))]),I 2 (.mv (.s 9))])
def Zci:PC :=
 (.reg [0,3] [I 10 (.mv (.s 0)),I 11 (.len 1 (.s 10)),I 12 (.bin .add (.s 11) (V 1)),I 13 (.bin .quo (.s 12) (V 2)),I 3 (.mv (.s 13))])
def Zcj:PC :=
 (.reg [2] [I 14 (.mv (.s 0)),I 15 (.mv (.s 3)),I 16 (.slc 7 (.s 14) none (some (.s 15))),I 17 (.call .pure (.v (.func (.func QS) [] [])) [(.s 16)]),I 18 (.mv (.s 0)),I 19 (.mv (.s 3)),I 20 (.slc 7 (.s 18) (some (.s 19)) none),I 21 (C QS [(.s 20)]),I 22 (.bslice false 7 [ZT,ZT] [(0,(.s 17)),(1,(.s 21))]),I 2 (.mv (.s 22))])
def ZSM:PF:=⟨false,
 (.seq Zcf
 (.seq (.seq Zcg
 (.ite (.s 6)
 (.seq Zch
 .ret)
 .skip))
 (.seq Zci
 (.seq Zcj
 .ret)))),
 [.s 2]⟩
theorem Zg8:Zp Proofs.Tryz.prog false Zg7 Proofs.Tryz.f246=some ZSM:=by kernel_rfl
def ZRa:List Hint:=[H [0,1,2],⟨[2,5,6],[],[(5,.pure)],[],[],[]⟩,H [2,5,6,18],H [5,6],H [3,4]]
def ZMa:PC :=
 (.reg [0,1,2] [I 3 (.mv (.v (.int .u64 0))),I 4 (.mv (V 0))])
def ZMb:PC :=
 (.reg [2,5,6] [I 8 (.ld false 1 (.s 0)),I 9 (.nilck (.s 8)),I 10 (.fadr 0 (.s 9)),I 11 (.ld false 1 (.s 10)),I 12 (.ld false 1 (.s 1)),I 13 (.call .pure (.s 12) []),I 14 (C Jj [(.s 11),(.s 13)]),I 7 (.mv (.s 14)),I 15 (.ext (.s 7) 0),I 16 (.ext (.s 7) 1),I 5 (.mv (.s 15)),I 6 (.mv (.s 16))])
def ZMc:PC :=
 (.reg [2,5,6,18] [I 17 (.mv (.s 6)),I 18 (.bin .eql (.s 17) (V 0))])
def ZMd:PC :=
 (.reg [5,6] [I 19 (.ld false 1 (.s 2)),I 20 (.mv (.s 5)),I 21 (.nilck (.s 19)),I 22 (.fadr 0 (.s 21)),J (.st 1 (.s 22) (.s 20))])
def ZMe:PC :=
 (.reg [3,4] [I 23 (.mv (.s 5)),I 24 (.mv (.s 6)),I 3 (.mv (.s 23)),I 4 (.mv (.s 24))])
def ZE3:PF:=⟨false,
 (.seq ZMa
 (.seq ZMb
 (.seq (.seq ZMc
 (.ite (.s 18)
 ZMd
 .skip))
 (.seq ZMe
 .ret)))),
 [.s 3,.s 4]⟩
theorem ZRb:Zp Proofs.Tryz.prog false ZRa Proofs.Tryz.f247=some ZE3:=by kernel_rfl
def ZLD:List Hint:=[H [0,3],H [0,3,16],H [4,5],H [0,3,6],H [0,3,6,20],H [4,5],H [0,3,23,24,25],H [0,3,23,24,25,26],H [0,3,8,23,24,25],H [0,3,8,9,10,23,24,25],H [0,3,8,9,23,24,25,40],H [4,5],H [0,3,8,9,11,12,23,24,25],H [0,3,23,24,25,61],H [4,5],H [0,3,23,24,25],H [0,3,13,14],H [0,3,13,14,72],H [4,5],H [0,3,13],H [0,13],H [13],H [4,5]]
def ZIa:PC :=
 (.reg [0,3] [I 3 (.box (.s 1)),I 4 (.mv (.v (.int .u64 0))),I 5 (.mv (V 0))])
def ZIb:PC :=
 (.reg [0,3,16] [I 15 (.mv (.s 0)),I 16 (.eqs false 3 [] (.s 15) (.v .nilptr))])
def ZIc:PC :=
 (.reg [4,5] [I 4 (.mv (.v (.int .u64 0))),I 5 (.mv (V 1))])
def ZId:PC :=
 (.reg [0,3,6] [I 17 (.ld true 3 (.s 3)),I 18 (C X9 [(.s 17)]),I 6 (.mv (.s 18))])
def ZIe:PC :=
 (.reg [0,3,6,20] [I 19 (.mv (.s 6)),I 20 (.bin .neq (.s 19) (V 0))])
def ZIf:PC :=
 (.reg [4,5] [I 21 (.mv (.s 6)),I 4 (.mv (.v (.int .u64 0))),I 5 (.mv (.s 21))])
def ZIg:PC :=
 (.reg [0,3,23,24,25] [I 22 (.fadr 2 (.s 3)),I 23 (.ld false 1 (.s 22)),I 24 (.len 1 (.s 23)),I 25 (.mv (V 0))])
def ZIh:PC :=
 (.reg [0,3,23,24,25,26] [I 26 (.bin .lss (.s 25) (.s 24))])
def ZIi:PC :=
 (.reg [0,3,8,23,24,25] [I 27 (.ixS 4 (.s 23) (.s 25)),I 28 (.ld true 4 (.s 27)),I 8 (.box (.v ZK)),J (.st 4 (.s 8) (.s 28))])
def ZIj:PC :=
 (.reg [0,3,8,9,10,23,24,25] [I 30 (.mv (.s 0)),I 31 (.nilck (.s 30)),I 32 (.fadr 2 (.s 31)),I 33 (.ld false 1 (.s 32)),I 34 (.fadr 0 (.s 8)),I 35 (.ld false 1 (.s 34)),I 36 (.look 0 ZN true (.s 33) (.s 35)),I 29 (.mv (.s 36)),I 37 (.ext (.s 29) 0),I 38 (.ext (.s 29) 1),I 9 (.box (.v ZN)),J (.st 3 (.s 9) (.s 37)),I 10 (.mv (.s 38))])
def ZGg:PC :=
 (.reg [0,3,8,9,23,24,25,40] [I 39 (.mv (.s 10)),I 40 (.un .not (.s 39))])
def ZGh:PC :=
 (.reg [4,5] [I 4 (.mv (.v (.int .u64 0))),I 5 (.mv (V 10))])
def ZGi:PC :=
 (.reg [0,3,8,9,11,12,23,24,25] [I 42 (.ld true 3 (.s 9)),I 43 (C YC [(.s 42)]),I 41 (.mv (.s 43)),I 44 (.ext (.s 41) 0),I 45 (.ext (.s 41) 1),I 11 (.box (.v ZM)),J (.st 3 (.s 11) (.s 44)),I 12 (.mv (.s 45))])
def ZGj:PC :=
 (.reg [0,3,23,24,25,61] [I 46 (.mv (.s 12)),I 47 (.bin .neq (.s 46) (V 0)),I 48 (.mv (.s 47)),G 49 48 false (.fadr 0 (.s 9)),G 50 48 false (.ld false 1 (.s 49)),G 51 48 false (.fadr 0 (.s 3)),G 52 48 false (.ld false 1 (.s 51)),G 53 48 false (.bin .sub (.s 52) (V 1)),G 54 48 false (.bin .neq (.s 50) (.s 53)),I 55 (.pick (.s 48) (.v (.bool true)) (.s 54)),I 56 (.mv (.s 55)),G 57 56 false (.ld true 3 (.s 11)),G 58 56 false (.fadr 1 (.s 8)),G 59 56 false (.ld true 3 (.s 58)),G 60 56 false (.eqs true 0 [(0,0),(1,0),(2,0)] (.s 57) (.s 59)),I 61 (.pick (.s 56) (.v (.bool true)) (.s 60))])
def ZGk:PC :=
 (.reg [4,5] [I 4 (.mv (.v (.int .u64 0))),I 5 (.mv (V 23))])
def ZGl:PC :=
 (.reg [0,3,23,24,25] [I 62 (.bin .add (.s 25) (V 1)),I 25 (.mv (.s 62))])
def ZGm:PC :=
 (.seq ZIh
 (.seq (.ite (.s 26)
 .skip
 (.exit 0))
 (.seq (.block 1
 (.seq ZIi
 (.seq ZIj
 (.seq (.seq ZGg
 (.ite (.s 40)
 (.seq ZGh
 .ret)
 .skip))
 (.seq ZGi
 (.seq ZGj
 (.ite (.s 61)
 (.seq ZGk
 .ret)
 .skip)))))))
 ZGl)))
def ZGn:PC :=
 (.reg [0,3,13,14] [I 64 (.mv (.s 0)),I 65 (.nilck (.s 64)),I 66 (.fadr 1 (.s 65)),I 67 (.ld false 1 (.s 66)),I 68 (C Ys [(.s 67)]),I 63 (.mv (.s 68)),I 69 (.ext (.s 63) 0),I 70 (.ext (.s 63) 1),I 13 (.mv (.s 69)),I 14 (.mv (.s 70))])
def ZGo:PC :=
 (.reg [0,3,13,14,72] [I 71 (.mv (.s 14)),I 72 (.bin .neq (.s 71) (V 0))])
def ZGp:PC :=
 (.reg [4,5] [I 73 (.mv (.s 14)),I 4 (.mv (.v (.int .u64 0))),I 5 (.mv (.s 73))])
def ZAE:PC :=
 (.reg [0,3,13] [I 74 (.fadr 2 (.s 3)),I 75 (.ld false 1 (.s 74)),I 76 (C Z9 [(.s 75)]),I 77 (.fadr 2 (.s 3)),J (.st 1 (.s 77) (.s 76))])
def ZAF:PC :=
 (.reg [0,13] [I 78 (.mv (.s 0)),I 79 (.nilck (.s 78)),I 80 (.fadr 2 (.s 79)),I 81 (.ld false 1 (.s 80)),I 82 (.mv (.s 13)),I 83 (.ld true 3 (.s 3)),J (.mupd 0 (.s 81) (.s 82) (.s 83))])
def ZAG:PC :=
 (.reg [13] [I 84 (.mv (.s 0)),I 85 (.nilck (.s 84)),I 86 (.fadr 3 (.s 85)),I 87 (.ld false 1 (.s 86)),I 88 (.bin .add (.s 87) (V 1)),I 89 (.nilck (.s 84)),I 90 (.fadr 3 (.s 89)),J (.st 1 (.s 90) (.s 88))])
def ZAH:PC :=
 (.reg [4,5] [I 91 (.mv (.s 13)),I 4 (.mv (.s 91)),I 5 (.mv (V 0))])
def ZBn:PF:=⟨false,
 (.seq ZIa
 (.seq (.seq ZIb
 (.ite (.s 16)
 (.seq ZIc
 .ret)
 .skip))
 (.seq (.seq ZId
 (.seq ZIe
 (.ite (.s 20)
 (.seq ZIf
 .ret)
 .skip)))
 (.seq (.seq ZIg
 (.block 0
 (.loop ZGm)))
 (.seq ZGn
 (.seq (.seq ZGo
 (.ite (.s 72)
 (.seq ZGp
 .ret)
 .skip))
 (.seq ZAE
 (.seq ZAF
 (.seq ZAG
 (.seq ZAH
 .ret)))))))))),
 [.s 4,.s 5]⟩
theorem ZLE:Zp Proofs.Tryz.prog false ZLD Proofs.Tryz.f248=some ZBn:=by kernel_rfl
def Zck:List Hint:=[H [0],H [0,2,3],H [2,3,4,5],H [2,3,4,5,6],H [2,3,4,5],H [2,3,4,5],H [2,3,4,5],H [2,3]]
def ZVE:PC :=
 (.reg [0] [I 2 (.mv (V 0)),I 3 (.mv (V 0))])
def ZVF:PC :=
 (.reg [0,2,3] [I 2 (.mv (V 8)),I 3 (.mv (V 16))])
def ZVG:PC :=
 (.reg [2,3,4,5] [I 4 (.mv (.s 0)),I 5 (.mv (V 0))])
def ZVH:PC :=
 (.reg [2,3,4,5,6] [I 6 (.bin .lss (.s 5) (.s 4))])
def ZVI:PC :=
 (.reg [2,3,4,5] [I 7 (.mv (.s 2)),I 8 (.bin .mul (.s 7) (V 2)),I 2 (.mv (.s 8))])
def ZVJ:PC :=
 (.reg [2,3,4,5] [I 9 (.mv (.s 3)),I 10 (.bin .mul (.s 9) (V 4)),I 11 (.mnx false (.s 10) (V 65536)),I 3 (.mv (.s 11))])
def ZVK:PC :=
 (.reg [2,3,4,5] [I 12 (.bin .add (.s 5) (V 1)),I 5 (.mv (.s 12))])
def ZVL:PC :=
 (.seq ZVH
 (.seq (.ite (.s 6)
 .skip
 (.exit 0))
 (.seq (.block 1
 (.seq ZVI
 ZVJ))
 ZVK)))
def ZVM:PC :=
 (.reg [2,3] [I 13 (.mv (.s 2)),I 14 (.mv (.s 3)),I 15 (.mnx false (.s 14) (V 65536)),I 2 (.mv (.s 13)),I 3 (.mv (.s 15))])
def ZLb:PF:=⟨false,
 (.seq ZVE
 (.seq ZVF
 (.seq (.seq ZVG
 (.block 0
 (.loop ZVL)))
 (.seq ZVM
 .ret)))),
 [.s 2,.s 3]⟩
theorem Zcl:Zp Proofs.Tryz.prog false Zck Proofs.Tryz.f254=some ZLb:=by kernel_rfl
def ZY6:List Hint:=[H [0],H [3,4],H [19],H [2],H [2]]
def ZRc:PC :=
 (.reg [0] [I 2 (.mv (V 0))])
def ZRd:PC :=
 (.reg [3,4] [I 6 (.mv (.s 0)),I 7 (C ZCi [(.s 6)]),I 5 (.mv (.s 7)),I 8 (.ext (.s 5) 0),I 9 (.ext (.s 5) 1),I 3 (.mv (.s 8)),I 4 (.mv (.s 9))])
def ZRe:PC :=
 (.reg [19] [I 10 (.mv (.s 3)),I 11 (.bin .geq (.s 10) (V 16384)),I 12 (.mv (.s 11)),G 13 12 false (.mv (.s 4)),G 14 12 false (.bin .lss (.s 13) (.v (.int .u64 1))),I 15 (.pick (.s 12) (.v (.bool true)) (.s 14)),I 16 (.mv (.s 15)),G 17 16 false (.mv (.s 4)),G 18 16 false (.bin .gtr (.s 17) (.v (.int .u64 4294967295))),I 19 (.pick (.s 16) (.v (.bool true)) (.s 18))])
def ZRf:PC :=
 (.reg [2] [I 2 (.mv (V 2))])
def ZRg:PC :=
 (.reg [2] [I 2 (.mv (V 0))])
def ZJ8:PF:=⟨false,
 (.seq ZRc
 (.seq (.seq ZRd
 (.seq ZRe
 (.ite (.s 19)
 (.seq ZRf
 .ret)
 .skip)))
 (.seq ZRg
 .ret))),
 [.s 2]⟩
theorem ZY7:Zp Proofs.Tryz.prog false ZY6 Proofs.Tryz.f255=some ZJ8:=by kernel_rfl
def ZVN:List Hint:=[H [],H [2]]
def ZOt:PC :=
 (.reg [] [I 2 (.mv (.v (.bool false)))])
def ZOu:PC :=
 (.reg [2] [I 2 (.mv (.v (.bool true)))])
def ZHR:PF:=⟨false,
 (.seq ZOt
 (.seq ZOu
 .ret)),
 [.s 2]⟩
theorem ZVO:Zp Proofs.Tryz.prog false ZVN Proofs.Tryz.f256=some ZHR:=by kernel_rfl
def ZMf:List Hint:=[H [1,2],H [1,2,5],H [2],H [2]]
def ZJ9:PC :=
 (.reg [1,2] [I 1 (.box (.s 0)),I 2 (.box (.v ZM))])
def ZKA:PC :=
 (.reg [1,2,5] [I 3 (.ld true 3 (.s 1)),I 4 (.build [(.int .i64 0),(.int .i64 0),(.int .i64 0)] []),I 5 (.eqs false 0 [(0,0),(1,0),(2,0)] (.s 3) (.s 4))])
def ZKB:PC :=
 (.reg [2] [I 6 (.build [(.int .i64 0),(.int .i64 0),(.int .i64 0)] []),J (.st 3 (.s 2) (.s 6))])
def ZKC:PC :=
 (.reg [2] [I 7 (.ixA 3 1 (.s 1) (V 0)),I 8 (.ld false 1 (.s 7)),I 9 (.ixA 3 1 (.s 1) (V 1)),I 10 (.ld false 1 (.s 9)),I 11 (.ixA 3 1 (.s 1) (V 2)),I 12 (.ld false 1 (.s 11)),I 13 (.build [(.int .i64 0),(.int .i64 0),(.int .i64 0)] [(0,1,(.s 8)),(1,1,(.s 10)),(2,1,(.s 12))]),J (.st 3 (.s 2) (.s 13))])
def ZDI:PF:=⟨false,
 (.seq ZJ9
 (.seq (.seq ZKA
 (.ite (.s 5)
 (.seq ZKB
 .ret)
 .skip))
 (.seq ZKC
 .ret))),
 [.c 2 true 3]⟩
theorem ZMg:Zp Proofs.Tryz.prog false ZMf Proofs.Tryz.f257=some ZDI:=by kernel_rfl
def ZfU:List Hint:=[H [0,1],H [0,1,15],H [4,5],H [0,1,6],H [0,1,6,21],H [4,5],H [0,1,6,31],H [4,5],H [6,7],H [4,5]]
def ZY8:PC :=
 (.reg [0,1] [I 4 (.mv (.v .nils)),I 5 (.mv (V 0))])
def ZY9:PC :=
 (.reg [0,1,15] [I 8 (.mv (.s 0)),I 9 (C ZAC [(.s 8)]),I 10 (.un .not (.s 9)),I 11 (.mv (.s 10)),G 12 11 false (.mv (.s 1)),G 13 11 false (C ZAC [(.s 12)]),G 14 11 false (.un .not (.s 13)),I 15 (.pick (.s 11) (.v (.bool true)) (.s 14))])
def ZZA:PC :=
 (.reg [4,5] [I 4 (.mv (.v .nils)),I 5 (.mv (V 2))])
def ZZB:PC :=
 (.reg [0,1,6] [I 16 (.mv (.s 0)),I 17 (.mv (.s 1)),I 18 (.bin .add (.s 16) (.s 17)),I 6 (.mv (.s 18))])
def ZZC:PC :=
 (.reg [0,1,6,21] [I 19 (.mv (.s 6)),I 20 (.len 0 (.s 19)),I 21 (.bin .leq (.s 20) (V 16))])
def ZZD:PC :=
 (.reg [4,5] [I 22 (.mv (.s 6)),I 23 (.bslice false 1 [(.str [])] [(0,(.s 22))]),I 4 (.mv (.s 23)),I 5 (.mv (V 0))])
def ZZE:PC :=
 (.reg [0,1,6,31] [I 24 (.mv (.s 0)),I 25 (.len 0 (.s 24)),I 26 (.bin .geq (.s 25) (V 8)),I 27 (.mv (.s 26)),G 28 27 true (.mv (.s 1)),G 29 27 true (.len 0 (.s 28)),G 30 27 true (.bin .geq (.s 29) (V 8)),I 31 (.pick (.s 27) (.s 30) (.v (.bool false)))])
def ZZF:PC :=
 (.reg [4,5] [I 32 (.mv (.s 0)),I 33 (.mv (.s 1)),I 34 (.bslice false 1 [(.str []),(.str [])] [(0,(.s 32)),(1,(.s 33))]),I 4 (.mv (.s 34)),I 5 (.mv (V 0))])
def ZZG:PC :=
 (.reg [6,7] [I 35 (.mv (.s 6)),I 36 (.len 0 (.s 35)),I 37 (.bin .add (.s 36) (V 1)),I 38 (.bin .quo (.s 37) (V 2)),I 7 (.mv (.s 38))])
def ZZH:PC :=
 (.reg [4,5] [I 39 (.mv (.s 6)),I 40 (.mv (.s 7)),I 41 (.slcS (.s 39) none (some (.s 40))),I 42 (.mv (.s 6)),I 43 (.mv (.s 7)),I 44 (.slcS (.s 42) (some (.s 43)) none),I 45 (.bslice false 1 [(.str []),(.str [])] [(0,(.s 41)),(1,(.s 44))]),I 4 (.mv (.s 45)),I 5 (.mv (V 0))])
def ZOv:PF:=⟨false,
 (.seq ZY8
 (.seq (.seq ZY9
 (.ite (.s 15)
 (.seq ZZA
 .ret)
 .skip))
 (.seq ZZB
 (.seq (.seq ZZC
 (.ite (.s 21)
 (.seq ZZD
 .ret)
 .skip))
 (.seq (.seq ZZE
 (.ite (.s 31)
 (.seq ZZF
 .ret)
 .skip))
 (.seq ZZG
 (.seq ZZH
 .ret))))))),
 [.s 4,.s 5]⟩
theorem ZfV:Zp Proofs.Tryz.prog false ZfU Proofs.Tryz.f260=some ZOv:=by kernel_rfl
def ZKD:List Hint:=[H [0],H [0,6],H [2,3],H [0,12],H [2,3],H [0,4],H [0,4],H [0,4],H [2,3]]
def ZGq:PC :=
 (.reg [0] [I 2 (.mv (.v (.int .u64 0))),I 3 (.mv (V 0))])
def ZGr:PC :=
 (.reg [0,6] [I 5 (.mv (.s 0)),I 6 (.eqs false 3 [] (.s 5) (.v .nilptr))])
def ZGs:PC :=
 (.reg [2,3] [I 2 (.mv (.v (.int .u64 0))),I 3 (.mv (V 1))])
def ZGt:PC :=
 (.reg [0,12] [I 7 (.mv (.s 0)),I 8 (.nilck (.s 7)),I 9 (.fadr 0 (.s 8)),I 10 (.ld false 1 (.s 9)),I 11 (.len 1 (.s 10)),I 12 (.bin .eql (.s 11) (V 0))])
def ZGu:PC :=
 (.reg [2,3] [I 2 (.mv (.v (.int .u64 0))),I 3 (.mv (V 6))])
def ZGv:PC :=
 (.reg [0,4] [I 13 (.mv (.s 0)),I 14 (.nilck (.s 13)),I 15 (.fadr 0 (.s 14)),I 16 (.ld false 1 (.s 15)),I 17 (.mv (.s 0)),I 18 (.nilck (.s 17)),I 19 (.fadr 0 (.s 18)),I 20 (.ld false 1 (.s 19)),I 21 (.len 1 (.s 20)),I 22 (.bin .sub (.s 21) (V 1)),I 23 (.ixS 1 (.s 16) (.s 22)),I 24 (.ld false 1 (.s 23)),I 4 (.mv (.s 24))])
def ZGw:PC :=
 (.reg [0,4] [I 25 (.mv (.s 0)),I 26 (.mv (.s 0)),I 27 (.nilck (.s 26)),I 28 (.fadr 0 (.s 27)),I 29 (.ld false 1 (.s 28)),I 30 (.mv (.s 0)),I 31 (.nilck (.s 30)),I 32 (.fadr 0 (.s 31)),I 33 (.ld false 1 (.s 32)),I 34 (.len 1 (.s 33)),I 35 (.bin .sub (.s 34) (V 1)),I 36 (.slc 1 (.s 29) none (some (.s 35))),I 37 (.nilck (.s 25)),I 38 (.fadr 0 (.s 37)),J (.st 1 (.s 38) (.s 36))])
def ZGx:PC :=
 (.reg [0,4] [I 39 (.mv (.s 0)),I 40 (.nilck (.s 39)),I 41 (.fadr 1 (.s 40)),I 42 (.ld false 1 (.s 41)),I 43 (.mv (.s 4)),I 44 (.ixS 1 (.s 42) (.s 43)),J (.st 1 (.s 44) (.v (.int .u8 1)))])
def ZGy:PC :=
 (.reg [2,3] [I 45 (.mv (.s 4)),I 46 (.mv (.s 0)),I 47 (.nilck (.s 46)),I 48 (.fadr 2 (.s 47)),I 49 (.ld false 1 (.s 48)),I 50 (.mv (.s 4)),I 51 (.ixS 1 (.s 49) (.s 50)),I 52 (.ld false 1 (.s 51)),I 53 (C ZEE [(.s 45),(.s 52)]),I 54 (.ext (.s 53) 0),I 55 (.ext (.s 53) 1),I 2 (.mv (.s 54)),I 3 (.mv (.s 55))])
def ZA7:PF:=⟨false,
 (.seq ZGq
 (.seq (.seq ZGr
 (.ite (.s 6)
 (.seq ZGs
 .ret)
 .skip))
 (.seq (.seq ZGt
 (.ite (.s 12)
 (.seq ZGu
 .ret)
 .skip))
 (.seq ZGv
 (.seq ZGw
 (.seq ZGx
 (.seq ZGy
 .ret))))))),
 [.s 2,.s 3]⟩
theorem ZKE:Zp Proofs.Tryz.prog false ZKD Proofs.Tryz.f261=some ZA7:=by kernel_rfl
def ZZI:List Hint:=[H [0],H [2,3]]
def ZRh:PC :=
 (.reg [0] [I 2 (.mv (V 0)),I 3 (.mv (.v (.int .u64 0)))])
def ZRi:PC :=
 (.reg [2,3] [I 4 (.mv (.s 0)),I 5 (.bin .and (.s 4) (.v (.int .u64 65535))),I 6 (.cint .i64 (.s 5)),I 7 (.mv (.s 0)),I 8 (.bin .shr (.s 7) (.v (.int .u64 16))),I 2 (.mv (.s 6)),I 3 (.mv (.s 8))])
def ZKF:PF:=⟨false,
 (.seq ZRh
 (.seq ZRi
 .ret)),
 [.s 2,.s 3]⟩
theorem ZZJ:Zp Proofs.Tryz.prog false ZZI Proofs.Tryz.f263=some ZKF:=by kernel_rfl
end Go.Q15
