/- Resolved code, printed by program. No condition. -/
import Derived.Test.YtleajkoecgbnlaaGreatProg
import Derived.KernelRfl
import Derived.Test.YtleajkoecgbnlaaGreatCvT3
set_option linter.unusedVariables false
set_option linter.unusedSimpArgs false
namespace Go.Q15
open Go Go.QAbs
set_option maxRecDepth 100000
abbrev Jl:FuncId:=8
abbrev Yk:FuncId:=14
abbrev YH:FuncId:=16
abbrev YI:FuncId:=17
abbrev ZUg:FuncId:=21
abbrev XC:FuncId:=35
abbrev Q8:FuncId:=42
abbrev ZBl:FuncId:=43
abbrev Zr:FuncId:=44
abbrev JU:FuncId:=45
abbrev J0:FuncId:=46
abbrev QS:FuncId:=47
abbrev Jm:FuncId:=48
abbrev Jw:FuncId:=53
abbrev ZDE:FuncId:=57
abbrev ZCD:FuncId:=58
abbrev XY:FuncId:=68
abbrev XZ:FuncId:=69
abbrev YJ:FuncId:=71
abbrev XD:FuncId:=72
abbrev ZIG:FuncId:=73
abbrev Xn:FuncId:=74
abbrev JH:FuncId:=75
abbrev ZAh:FuncId:=82
abbrev Yl:FuncId:=94
abbrev Jq:FuncId:=95
abbrev XE:FuncId:=105
abbrev ZCE:FuncId:=106
abbrev QV:FuncId:=107
abbrev JE:FuncId:=108
abbrev QY:FuncId:=109
abbrev YK:FuncId:=110
abbrev QJ:FuncId:=111
abbrev Qy:FuncId:=112
abbrev ZBm:FuncId:=116
abbrev YL:FuncId:=120
abbrev ZDT:FuncId:=121
abbrev Xa:FuncId:=125
abbrev ZCF:FuncId:=126
abbrev Xo:FuncId:=127
abbrev ZCG:FuncId:=134
abbrev YM:FuncId:=135
abbrev YW:FuncId:=136
abbrev Xg:FuncId:=137
abbrev Jr:FuncId:=138
abbrev Qk:FuncId:=139
abbrev Yw:FuncId:=140
abbrev XO:FuncId:=141
abbrev ZBK:FuncId:=142
abbrev ZIH:FuncId:=144
abbrev ZDF:FuncId:=149
abbrev Qp:FuncId:=157
abbrev ZAO:FuncId:=158
abbrev ZCH:FuncId:=159
abbrev Ya:FuncId:=164
abbrev YS:FuncId:=176
abbrev Jc:FuncId:=177
abbrev QC:FuncId:=178
abbrev Z9:FuncId:=179
abbrev Ym:FuncId:=180
abbrev ZIJ:FuncId:=181
abbrev ZBn:FuncId:=182
abbrev XP:FuncId:=185
abbrev J9:FuncId:=186
abbrev ZDU:FuncId:=188
abbrev ZCI:FuncId:=197
abbrev ZEl:FuncId:=198
abbrev QO:FuncId:=199
abbrev ZDV:FuncId:=201
abbrev YY:FuncId:=203
abbrev ZBo:FuncId:=204
abbrev ZAP:FuncId:=205
abbrev Qn:FuncId:=206
abbrev ZAZ:FuncId:=207
abbrev Yx:FuncId:=208
abbrev ZIK:FuncId:=213
abbrev ZDG:FuncId:=218
abbrev ZCJ:FuncId:=219
abbrev ZBL:FuncId:=220
abbrev Xp:FuncId:=221
abbrev ZCK:FuncId:=222
abbrev ZAa:FuncId:=223
abbrev Xq:FuncId:=225
abbrev Xr:FuncId:=226
abbrev Ji:FuncId:=227
abbrev JI:FuncId:=228
abbrev Xs:FuncId:=229
abbrev ZAb:FuncId:=240
abbrev ZEm:FuncId:=241
abbrev ZDW:FuncId:=242
abbrev Js:FuncId:=243
abbrev ZDX:FuncId:=245
abbrev ZDI:FuncId:=246
abbrev Yy:FuncId:=247
abbrev Jd:FuncId:=248
abbrev ZDY:FuncId:=254
abbrev ZCL:FuncId:=255
abbrev XQ:FuncId:=256
abbrev YN:FuncId:=257
abbrev ZEn:FuncId:=260
abbrev Yn:FuncId:=261
abbrev ZCM:FuncId:=263
abbrev I (d:Nat) (o:PO):PI:=⟨some d,none,false,o⟩
abbrev G (d g:Nat) (b:Bool) (o:PO):PI:=⟨some d,some (g,b),false,o⟩
abbrev J (o:PO):PI:=⟨none,none,false,o⟩
abbrev C (f:FuncId) (a:List Opd):PO:=.call .norm (.v (.func (.func f) [] [])) a
abbrev H (k:List Nat):Hint:=⟨k,[],[],[],[],[]⟩
abbrev V (i:Int):Opd:=.v (.int .i64 i)
abbrev ZT:AV:=.agg [(.int .u64 0),(.int .i64 0),(.int .i64 0),(.int .i64 0),(.int .i64 0),(.str []),.nils]
abbrev ZR:AV:=.agg [(.int .u64 0),(.int .i64 0),(.int .i64 0),(.int .i64 0),(.int .i64 0)]
abbrev ZM:AV:=.agg [(.int .i64 0),(.int .i64 0),(.int .i64 0)]
abbrev ZN:AV:=.agg [(.int .i64 0),(.str []),.nils]
abbrev ZK:AV:=.agg [(.int .u64 0),(.int .i64 0),(.int .i64 0),(.int .i64 0)]
def ZCN:List Hint:=[H [0,1,2,3],H [0,1,2,3,31],H [8],H [2,3,9,10,11,12],H [2,3,9,10,11,42],H [8],H [2,3,9,10,11,45],H [8],H [3,9,10,11,13],⟨[3,9,14,15],[],[],[],[(7,(.only (.s 11))),(9,(.off (.s 11))),(6,(.only (.s 11)))],[]⟩,H [3,9,14,15,16,17],H [3,9,14,15,16,71],H [8],H [3,9,14,15,16,74],H [8],⟨[3,9,14,15,16,86],[],[(1,.pure)],[],[],[]⟩,H [8],H [3,9,14,15,16,17,18],⟨[3,14,15,16,109],[],[(9,.pure)],[],[],[]⟩,H [8],H [3,14,15,16,19],H [3,14,15,16,19,113],H [3,14,15,16,19,20],H [3,14,15,16,19,20,21],⟨[3,14,15,16,19,21,144],[],[(13,.pure)],[],[],[]⟩,H [8],H [3,14,15,16,19,20,21],H [3,14,15,16,19,20,21,164],H [8],H [3,14,15,16,19,20,21,23],H [3,14,15,16,19,183],H [8],H [3,14,15,16,19],H [8]]
def ZBM:PC :=
 (.reg [0,1,2,3] [I 8 (.mv (.v (.bool false)))])
def ZBN:PC :=
 (.reg [0,1,2,3,31] [I 24 (.mv (.s 0)),I 25 (.mv (.s 1)),I 26 (C Yk [(.s 24),(.s 25)]),I 27 (.mv (.s 26)),G 28 27 false (.mv (.s 3)),G 29 27 false (.len 1 (.s 28)),G 30 27 false (.bin .gtr (.s 29) (V 20)),I 31 (.pick (.s 27) (.v (.bool true)) (.s 30))])
def ZBO:PC :=
 (.reg [8] [I 32 (C Q8 []),I 8 (.mv (.s 32))])
def ZBP:PC :=
 (.reg [2,3,9,10,11,12] [I 34 (.mv (.s 0)),I 35 (.mv (.s 1)),I 36 (C YH [(.s 34),(.s 35)]),I 33 (.mv (.s 36)),I 37 (.ext (.s 33) 0),I 38 (.ext (.s 33) 1),I 39 (.ext (.s 33) 2),I 40 (.ext (.s 33) 3),I 9 (.mv (.s 37)),I 10 (.mv (.s 38)),I 11 (.mv (.s 39)),I 12 (.mv (.s 40))])
def ZBQ:PC :=
 (.reg [2,3,9,10,11,42] [I 41 (.mv (.s 12)),I 42 (.un .not (.s 41))])
def ZBR:PC :=
 (.reg [8] [I 8 (.mv (.v (.bool false)))])
def ZBS:PC :=
 (.reg [2,3,9,10,11,45] [I 43 (.mv (.s 10)),I 44 (.len 1 (.s 43)),I 45 (.bin .eql (.s 44) (V 0))])
def ZBT:PC :=
 (.reg [8] [I 46 (C Q8 []),I 8 (.mv (.s 46))])
def ZBU:PC :=
 (.reg [3,9,10,11,13] [I 47 (.mv (.s 2)),I 48 (.mv (.s 10)),I 49 (.len 1 (.s 48)),I 50 (.bin .sub (.s 49) (V 1)),I 51 (C YI [(.s 47),(.s 50)]),I 13 (.mv (.s 51))])
def ZBV:PC :=
 (.reg [3,9,14,15] [I 52 (.mv (.s 10)),I 53 (.mv (.s 13)),I 54 (.ixS 5 (.s 52) (.s 53)),I 55 (.ld true 5 (.s 54)),I 56 (.mv (.s 11)),I 57 (.mv (.s 13)),I 58 (.w (.only (.s 11)) (.ixS 1 (.s 56) (.s 57))),I 59 (.w (.only (.s 11)) (.ld false 1 (.s 58))),I 14 (.box (.v ZR)),J (.w (.off (.s 11)) (.st 5 (.s 14) (.s 55))),I 15 (.mv (.s 59))])
def ZAi:PC :=
 (.reg [3,9,14,15,16,17] [I 61 (.mv (.s 9)),I 62 (.ld true 5 (.s 14)),I 63 (C ZBl [(.s 61),(.s 62)]),I 60 (.mv (.s 63)),I 64 (.ext (.s 60) 0),I 65 (.ext (.s 60) 1),I 16 (.mv (.s 64)),I 17 (.mv (.s 65))])
def ZAj:PC :=
 (.reg [3,9,14,15,16,71] [I 66 (.mv (.s 16)),I 67 (.eqs false 3 [] (.s 66) (.v .nilptr)),I 68 (.mv (.s 67)),G 69 68 false (.mv (.s 17)),G 70 68 false (.bin .neq (.s 69) (V 0)),I 71 (.pick (.s 68) (.v (.bool true)) (.s 70))])
def ZAk:PC :=
 (.reg [8] [I 8 (.mv (.v (.bool false)))])
def ZAl:PC :=
 (.reg [3,9,14,15,16,74] [I 72 (.fadr 0 (.s 14)),I 73 (.ld false 1 (.s 72)),I 74 (.bin .eql (.s 73) (.v (.int .u64 0)))])
def ZAm:PC :=
 (.reg [8] [I 75 (.mv (.s 16)),I 76 (C Zr [(.s 75)]),I 77 (.bin .eql (.s 76) (V 0)),I 78 (.mv (.s 77)),G 79 78 true (C Q8 []),I 80 (.pick (.s 78) (.s 79) (.v (.bool false))),I 8 (.mv (.s 80))])
def ZAn:PC :=
 (.reg [3,9,14,15,16,86] [I 81 (.mv (.s 16)),I 82 (.call .pure (.v (.func (.func Zr) [] [])) [(.s 81)]),I 83 (.fadr 1 (.s 14)),I 84 (.ld false 1 (.s 83)),I 85 (.bin .add (.s 84) (V 1)),I 86 (.bin .neq (.s 82) (.s 85))])
def ZAo:PC :=
 (.reg [8] [I 8 (.mv (.v (.bool false)))])
def ZAp:PC :=
 (.reg [3,9,14,15,16,17,18] [I 88 (.mv (.s 16)),I 89 (.mv (.s 15)),I 90 (.len 0 (.s 89)),I 91 (C JU [(.s 88),(.s 90)]),I 87 (.mv (.s 91)),I 92 (.ext (.s 87) 0),I 93 (.ext (.s 87) 1),I 18 (.mv (.s 92)),I 17 (.mv (.s 93))])
def ZAq:PC :=
 (.reg [3,14,15,16,109] [I 94 (.mv (.s 17)),I 95 (.bin .neq (.s 94) (V 0)),I 96 (.mv (.s 95)),G 97 96 false (.mv (.s 18)),G 98 96 false (.mv (.s 15)),G 99 96 false (.bin .neq (.s 97) (.s 98)),I 100 (.pick (.s 96) (.v (.bool true)) (.s 99)),I 101 (.mv (.s 100)),G 102 101 false (.mv (.s 16)),G 103 101 false (.call .pure (.v (.func (.func Zr) [] [])) [(.s 102)]),G 104 101 false (.mv (.s 9)),G 105 101 false (.fadr 0 (.s 14)),G 106 101 false (.ld false 1 (.s 105)),G 107 101 false (C J0 [(.s 104),(.s 106)]),G 108 101 false (.bin .neq (.s 103) (.s 107)),I 109 (.pick (.s 101) (.v (.bool true)) (.s 108))])
def ZAr:PC :=
 (.reg [8] [I 8 (.mv (.v (.bool false)))])
def ZAs:PC :=
 (.reg [3,14,15,16,19] [I 19 (.mv (V 0))])
def ZAt:PC :=
 (.reg [3,14,15,16,19,113] [I 110 (.mv (.s 19)),I 111 (.mv (.s 3)),I 112 (.len 1 (.s 111)),I 113 (.bin .lss (.s 110) (.s 112))])
def ZAu:PC :=
 (.reg [3,14,15,16,19,20] [I 116 (.mv (.s 16)),I 117 (C Zr [(.s 116)]),I 20 (.mv (.s 117))])
def ZAv:PC :=
 (.reg [3,14,15,16,19,20,21] [I 118 (.mv (.s 3)),I 119 (.mv (.s 19)),I 120 (.ixS 1 (.s 118) (.s 119)),I 121 (.ld false 1 (.s 120)),I 122 (.mv (.s 15)),I 123 (.len 0 (.s 122)),I 124 (C YI [(.s 121),(.s 123)]),I 21 (.mv (.s 124))])
def ZAw:PC :=
 (.reg [3,14,15,16,19,21,144] [I 125 (.mv (.s 16)),I 126 (.mv (.s 21)),I 127 (C QS [(.s 125),(.s 126)]),I 128 (.bin .neq (.s 127) (V 0)),I 129 (.mv (.s 128)),G 130 129 false (.mv (.s 16)),G 131 129 false (C Zr [(.s 130)]),G 132 129 false (.mv (.s 20)),G 133 129 false (.bin .sub (.s 131) (.s 132)),G 134 129 false (.bin .lss (.s 133) (V 0)),I 135 (.pick (.s 129) (.v (.bool true)) (.s 134)),I 136 (.mv (.s 135)),G 137 136 false (.mv (.s 16)),G 138 136 false (.call .pure (.v (.func (.func Zr) [] [])) [(.s 137)]),G 139 136 false (.mv (.s 20)),G 140 136 false (.bin .sub (.s 138) (.s 139)),G 141 136 false (.fadr 1 (.s 14)),G 142 136 false (.ld false 1 (.s 141)),G 143 136 false (.bin .gtr (.s 140) (.s 142)),I 144 (.pick (.s 136) (.v (.bool true)) (.s 143))])
def ZAx:PC :=
 (.reg [8] [I 8 (.mv (.v (.bool false)))])
def ZAy:PC :=
 (.reg [3,14,15,16,19,20,21] [I 145 (.mv (.s 16)),I 146 (C Zr [(.s 145)]),I 20 (.mv (.s 146))])
def ZAz:PC :=
 (.reg [3,14,15,16,19,20,21,164] [I 147 (.mv (.s 16)),I 148 (.mv (.s 21)),I 149 (C QS [(.s 147),(.s 148)]),I 150 (.bin .neq (.s 149) (V 0)),I 151 (.mv (.s 150)),G 152 151 false (.mv (.s 16)),G 153 151 false (.mv (.s 15)),G 154 151 false (.len 0 (.s 153)),G 155 151 false (.bin .add (.s 154) (V 1)),G 156 151 false (C QS [(.s 152),(.s 155)]),G 157 151 false (.bin .neq (.s 156) (V 3)),I 158 (.pick (.s 151) (.v (.bool true)) (.s 157)),I 159 (.mv (.s 158)),G 160 159 false (.mv (.s 16)),G 161 159 false (C Zr [(.s 160)]),G 162 159 false (.mv (.s 20)),G 163 159 false (.bin .neq (.s 161) (.s 162)),I 164 (.pick (.s 159) (.v (.bool true)) (.s 163))])
def ZA0:PC :=
 (.reg [8] [I 8 (.mv (.v (.bool false)))])
def ZA1:PC :=
 (.reg [3,14,15,16,19,20,21,23] [I 166 (.mv (.s 16)),I 167 (C JU [(.s 166),(V 0)]),I 165 (.mv (.s 167)),I 168 (.ext (.s 165) 0),I 169 (.ext (.s 165) 1),I 22 (.mv (.s 168)),I 23 (.mv (.s 169))])
def ZA2:PC :=
 (.reg [3,14,15,16,19,183] [I 170 (.mv (.s 23)),I 171 (.bin .neq (.s 170) (V 0)),I 172 (.mv (.s 171)),G 173 172 false (.mv (.s 16)),G 174 172 false (C Zr [(.s 173)]),G 175 172 false (.mv (.s 20)),G 176 172 false (.bin .neq (.s 174) (.s 175)),I 177 (.pick (.s 172) (.v (.bool true)) (.s 176)),I 178 (.mv (.s 177)),G 179 178 false (.mv (.s 16)),G 180 178 false (C Jm [(.s 179)]),G 181 178 false (.mv (.s 21)),G 182 178 false (.bin .neq (.s 180) (.s 181)),I 183 (.pick (.s 178) (.v (.bool true)) (.s 182))])
def ZA3:PC :=
 (.reg [8] [I 8 (.mv (.v (.bool false)))])
def ZA4:PC :=
 (.reg [3,14,15,16,19] [I 114 (.mv (.s 19)),I 115 (.bin .add (.s 114) (V 1)),I 19 (.mv (.s 115))])
def p_quartolaw21_CursorVisits_33:PC :=
 (.seq (.seq ZAt
 (.ite (.s 113)
 .skip
 (.exit 0)))
 (.seq (.block 1
 (.seq ZAu
 (.seq ZAv
 (.seq (.seq ZAw
 (.ite (.s 144)
 (.seq ZAx
 .ret)
 .skip))
 (.seq ZAy
 (.seq (.seq ZAz
 (.ite (.s 164)
 (.seq ZA0
 .ret)
 .skip))
 (.seq ZA1
 (.seq ZA2
 (.ite (.s 183)
 (.seq ZA3
 .ret)
 .skip)))))))))
 ZA4))
def p_quartolaw21_CursorVisits_34:PC :=
 (.reg [8] [I 184 (C Q8 []),I 8 (.mv (.s 184))])
def Yo:PF:=⟨false,
 (.seq ZBM
 (.seq (.seq ZBN
 (.ite (.s 31)
 (.seq ZBO
 .ret)
 .skip))
 (.seq ZBP
 (.seq (.seq ZBQ
 (.ite (.s 42)
 (.seq ZBR
 .ret)
 .skip))
 (.seq (.seq ZBS
 (.ite (.s 45)
 (.seq ZBT
 .ret)
 .skip))
 (.seq ZBU
 (.seq ZBV
 (.seq ZAi
 (.seq (.seq ZAj
 (.ite (.s 71)
 (.seq ZAk
 .ret)
 .skip))
 (.seq (.seq ZAl
 (.ite (.s 74)
 (.seq ZAm
 .ret)
 .skip))
 (.seq (.seq ZAn
 (.ite (.s 86)
 (.seq ZAo
 .ret)
 .skip))
 (.seq ZAp
 (.seq (.seq ZAq
 (.ite (.s 109)
 (.seq ZAr
 .ret)
 .skip))
 (.seq (.seq ZAs
 (.block 0
 (.loop p_quartolaw21_CursorVisits_33)))
 (.seq p_quartolaw21_CursorVisits_34
 .ret))))))))))))))),
 [.s 8]⟩
theorem ZCO:Zs Proofs.Tryz.prog false ZCN Proofs.Tryz.f8=some Yo:=by kernel_rfl
def ZIM:List Hint:=[H [0,1],H [4]]
def ZEo:PC :=
 (.reg [0,1] [I 4 (.mv (.v (.bool false)))])
def ZEp:PC :=
 (.reg [4] [I 5 (.mv (.s 0)),I 6 (C XY [(.s 5)]),I 7 (.mv (.s 6)),G 8 7 false (.mv (.s 1)),G 9 7 false (C XZ [(.s 8)]),I 10 (.pick (.s 7) (.v (.bool true)) (.s 9)),I 11 (.mv (.s 10)),G 12 11 false (.mv (.s 1)),G 13 11 false (.len 1 (.s 12)),G 14 11 false (.bin .gtr (.s 13) (V 12)),I 15 (.pick (.s 11) (.v (.bool true)) (.s 14)),I 4 (.mv (.s 15))])
def ZA5:PF:=⟨false,
 (.seq ZEo
 (.seq ZEp
 .ret)),
 [.s 4]⟩
theorem ZIN:Zs Proofs.Tryz.prog false ZIM Proofs.Tryz.f14=some ZA5:=by kernel_rfl
def ZLJ:List Hint:=[H [0,1],H [0,1,8,9,10],H [0,1,8,9,26],H [4,5,6,7],H [1,8,9,11],H [1,8,9,11,12],H [1,8,9,11,12,33],H [1,8,9,11,12,13,14],H [1,8,9,11,12,13,48],H [4,5,6,7],H [1,8,9,11,12,13,15,16],H [1,8,9,11,12,13,15,58],H [4,5,6,7],H [1,8,9,11,12,15,16,17],H [1,8,9,11,12,15,16,17,69],H [1,8,9,11,12,15,17,71],H [4,5,6,7],H [1,8,9,11,12,15],H [1,8,9,11,12],H [1,8,9,11,12],H [4,5,6,7]]
def ZIO:PC :=
 (.reg [0,1] [I 4 (.mv (.v .nilptr)),I 5 (.mv (.v .nils)),I 6 (.mv (.v .nils)),I 7 (.mv (.v (.bool false)))])
def ZIP:PC :=
 (.reg [0,1,8,9,10] [I 20 (.mv (.s 0)),I 21 (C YJ [(.s 20)]),I 19 (.mv (.s 21)),I 22 (.ext (.s 19) 0),I 23 (.ext (.s 19) 1),I 24 (.ext (.s 19) 2),I 8 (.mv (.s 22)),I 9 (.mv (.s 23)),I 10 (.mv (.s 24))])
def ZIQ:PC :=
 (.reg [0,1,8,9,26] [I 25 (.mv (.s 10)),I 26 (.un .not (.s 25))])
def ZIR:PC :=
 (.reg [4,5,6,7] [I 4 (.mv (.v .nilptr)),I 5 (.mv (.v .nils)),I 6 (.mv (.v .nils)),I 7 (.mv (.v (.bool false)))])
def ZIS:PC :=
 (.reg [1,8,9,11] [I 27 (.bslice false 1 [] []),I 28 (.mv (.s 0)),I 29 (.app 1 16 (.s 27) (.s 28)),I 11 (.mv (.s 29))])
def ZIT:PC :=
 (.reg [1,8,9,11,12] [I 12 (.mv (V 0))])
def ZIU:PC :=
 (.reg [1,8,9,11,12,33] [I 30 (.mv (.s 12)),I 31 (.mv (.s 1)),I 32 (.len 1 (.s 31)),I 33 (.bin .lss (.s 30) (.s 32))])
def ZIV:PC :=
 (.reg [1,8,9,11,12,13,14] [I 37 (.mv (.s 8)),I 38 (.mv (.s 9)),I 39 (.mv (.s 1)),I 40 (.mv (.s 12)),I 41 (.mv (.s 12)),I 42 (.bin .add (.s 41) (V 1)),I 43 (.slc 5 (.s 39) (some (.s 40)) (some (.s 42))),I 44 (C XD [(.s 37),(.s 38),(.s 43)]),I 36 (.mv (.s 44)),I 45 (.ext (.s 36) 0),I 46 (.ext (.s 36) 1),I 13 (.mv (.s 45)),I 14 (.mv (.s 46))])
def ZIW:PC :=
 (.reg [1,8,9,11,12,13,48] [I 47 (.mv (.s 14)),I 48 (.un .not (.s 47))])
def ZIX:PC :=
 (.reg [4,5,6,7] [I 4 (.mv (.v .nilptr)),I 5 (.mv (.v .nils)),I 6 (.mv (.v .nils)),I 7 (.mv (.v (.bool false)))])
def ZGk:PC :=
 (.reg [1,8,9,11,12,13,15,16] [I 50 (.mv (.s 8)),I 51 (.mv (.s 13)),I 52 (.ixS 7 (.s 51) (V 0)),I 53 (.ld true 7 (.s 52)),I 54 (C ZIG [(.s 50),(.s 53)]),I 49 (.mv (.s 54)),I 55 (.ext (.s 49) 0),I 56 (.ext (.s 49) 1),I 15 (.mv (.s 55)),I 16 (.mv (.s 56))])
def ZGl:PC :=
 (.reg [1,8,9,11,12,13,15,58] [I 57 (.mv (.s 16)),I 58 (.bin .neq (.s 57) (V 0))])
def ZGm:PC :=
 (.reg [4,5,6,7] [I 4 (.mv (.v .nilptr)),I 5 (.mv (.v .nils)),I 6 (.mv (.v .nils)),I 7 (.mv (.v (.bool false)))])
def ZGn:PC :=
 (.reg [1,8,9,11,12,15,16,17] [I 60 (.mv (.s 8)),I 61 (.mv (.s 13)),I 62 (.ixS 7 (.s 61) (V 0)),I 63 (.ld true 7 (.s 62)),I 64 (C Xn [(.s 60),(.s 63)]),I 59 (.mv (.s 64)),I 65 (.ext (.s 59) 0),I 66 (.ext (.s 59) 1),I 67 (.ext (.s 59) 2),I 17 (.box (.v ZR)),J (.st 5 (.s 17) (.s 65)),I 18 (.mv (.s 66)),I 16 (.mv (.s 67))])
def ZGo:PC :=
 (.reg [1,8,9,11,12,15,16,17,69] [I 68 (.mv (.s 16)),I 69 (.bin .eql (.s 68) (V 6))])
def ZGp:PC :=
 (.reg [1,8,9,11,12,15,17,71] [I 70 (.mv (.s 16)),I 71 (.bin .neq (.s 70) (V 0))])
def ZGq:PC :=
 (.reg [4,5,6,7] [I 4 (.mv (.v .nilptr)),I 5 (.mv (.v .nils)),I 6 (.mv (.v .nils)),I 7 (.mv (.v (.bool false)))])
def ZGr:PC :=
 (.reg [1,8,9,11,12,15] [I 72 (.mv (.s 9)),I 73 (.ld true 5 (.s 17)),I 74 (.bslice false 5 [ZR] [(0,(.s 73))]),I 75 (.app 5 40 (.s 72) (.s 74)),I 9 (.mv (.s 75))])
def ZGs:PC :=
 (.reg [1,8,9,11,12] [I 76 (.mv (.s 11)),I 77 (.mv (.s 15)),I 78 (.bslice false 1 [(.str [])] [(0,(.s 77))]),I 79 (.app 1 16 (.s 76) (.s 78)),I 11 (.mv (.s 79))])
def ZGt:PC :=
 (.reg [1,8,9,11,12] [I 34 (.mv (.s 12)),I 35 (.bin .add (.s 34) (V 1)),I 12 (.mv (.s 35))])
def ZGu:PC :=
 (.seq (.seq ZIU
 (.ite (.s 33)
 .skip
 (.exit 0)))
 (.seq (.block 1
 (.seq ZIV
 (.seq (.seq ZIW
 (.ite (.s 48)
 (.seq ZIX
 .ret)
 .skip))
 (.seq ZGk
 (.seq (.seq ZGl
 (.ite (.s 58)
 (.seq ZGm
 .ret)
 .skip))
 (.seq ZGn
 (.seq (.seq ZGo
 (.ite (.s 69)
 (.exit 1)
 .skip))
 (.seq (.seq ZGp
 (.ite (.s 71)
 (.seq ZGq
 .ret)
 .skip))
 (.seq ZGr
 ZGs)))))))))
 ZGt))
def ZGv:PC :=
 (.reg [4,5,6,7] [I 80 (.mv (.s 8)),I 81 (.mv (.s 9)),I 82 (.mv (.s 11)),I 4 (.mv (.s 80)),I 5 (.mv (.s 81)),I 6 (.mv (.s 82)),I 7 (.mv (.v (.bool true)))])
def Xb:PF:=⟨true,
 (.seq ZIO
 (.seq ZIP
 (.seq (.seq ZIQ
 (.ite (.s 26)
 (.seq ZIR
 .ret)
 .skip))
 (.seq ZIS
 (.seq (.seq ZIT
 (.block 0
 (.loop ZGu)))
 (.seq ZGv
 .ret)))))),
 [.s 4,.s 5,.s 6,.s 7]⟩
theorem ZLK:Zs Proofs.Tryz.prog true ZLJ Proofs.Tryz.f16=some Xb:=by kernel_rfl
def ZLL:List Hint:=[H [0,1],H [4]]
def ZIY:PC :=
 (.reg [0,1] [I 4 (.mv (V 0))])
def ZIZ:PC :=
 (.reg [4] [I 5 (.mv (.s 0)),I 6 (.mv (.s 1)),I 7 (C JH [(.s 5),(.s 6)]),I 4 (.mv (.s 7))])
def ZCP:PF:=⟨false,
 (.seq ZIY
 (.seq ZIZ
 .ret)),
 [.s 4]⟩
theorem ZLM:Zs Proofs.Tryz.prog false ZLL Proofs.Tryz.f17=some ZCP:=by kernel_rfl
def ZKF:List Hint:=[H [0,2],H [0,2,4],H [2],⟨[2],[],[(8,.pure),(19,.pure)],[],[],[]⟩]
def ZGw:PC :=
 (.reg [0,2] [I 2 (.box (.v (.agg [(.int .i64 0),(.int .i64 0),(.int .i64 0),(.int .i64 0),(.int .i64 0),(.int .i64 0),(.int .i64 0)])))])
def ZGx:PC :=
 (.reg [0,2,4] [I 3 (.mv (.s 0)),I 4 (.eqs false 3 [] (.s 3) (.v .nilptr))])
def ZGy:PC :=
 (.reg [2] [I 5 (.build [(.int .i64 0),(.int .i64 0),(.int .i64 0),(.int .i64 0),(.int .i64 0),(.int .i64 0),(.int .i64 0)] []),J (.st 7 (.s 2) (.s 5))])
def ZGz:PC :=
 (.reg [2] [I 6 (.mv (.s 0)),I 7 (.nilck (.s 6)),I 8 (.fadr 0 (.s 7)),I 9 (.ld false 1 (.s 8)),I 10 (.mv (.s 0)),I 11 (.nilck (.s 10)),I 12 (.fadr 1 (.s 11)),I 13 (.ld false 1 (.s 12)),I 14 (.call .pure (.v (.func (.func Yl) [] [])) [(.s 13)]),I 15 (.len 1 (.s 14)),I 16 (.mv (.s 0)),I 17 (.nilck (.s 16)),I 18 (.fadr 2 (.s 17)),I 19 (.ld false 1 (.s 18)),I 20 (.len 2 (.s 19)),I 21 (.mv (.s 0)),I 22 (.nilck (.s 21)),I 23 (.fadr 1 (.s 22)),I 24 (.ld false 1 (.s 23)),I 25 (.call .pure (.v (.func (.func Jq) [] [])) [(.s 24)]),I 26 (.len 1 (.s 25)),I 27 (.mv (.s 0)),I 28 (.nilck (.s 27)),I 29 (.fadr 3 (.s 28)),I 30 (.ld false 1 (.s 29)),I 31 (.mv (.s 0)),I 32 (.nilck (.s 31)),I 33 (.fadr 4 (.s 32)),I 34 (.ld false 1 (.s 33)),I 35 (.mv (.s 0)),I 36 (.nilck (.s 35)),I 37 (.fadr 5 (.s 36)),I 38 (.ld false 1 (.s 37)),I 39 (.build [(.int .i64 0),(.int .i64 0),(.int .i64 0),(.int .i64 0),(.int .i64 0),(.int .i64 0),(.int .i64 0)] [(0,1,(.s 9)),(1,1,(.s 15)),(2,1,(.s 20)),(3,1,(.s 26)),(4,1,(.s 30)),(5,1,(.s 34)),(6,1,(.s 38))]),J (.st 7 (.s 2) (.s 39))])
def ZBX:PF:=⟨false,
 (.seq ZGw
 (.seq (.seq ZGx
 (.ite (.s 4)
 (.seq ZGy
 .ret)
 .skip))
 (.seq ZGz
 .ret))),
 [.c 2 true 7]⟩
theorem ZKG:Zs Proofs.Tryz.prog false ZKF Proofs.Tryz.f35=some ZBX:=by kernel_rfl
def ZKH:List Hint:=[H [],H [1,2,3],H [1,2,13],H [0],H [4,5],H [4,25],H [0],H [4,5,6],H [0]]
def ZG0:PC :=
 (.reg [] [I 0 (.mv (.v (.bool false)))])
def ZG1:PC :=
 (.reg [1,2,3] [I 8 (C XE []),I 7 (.mv (.s 8)),I 9 (.ext (.s 7) 0),I 10 (.ext (.s 7) 1),I 11 (.ext (.s 7) 2),I 2 (.box (.v ZR)),I 1 (.mv (.s 9)),J (.st 5 (.s 2) (.s 10)),I 3 (.mv (.s 11))])
def ZG2:PC :=
 (.reg [1,2,13] [I 12 (.mv (.s 3)),I 13 (.un .not (.s 12))])
def ZG3:PC :=
 (.reg [0] [I 0 (.mv (.v (.bool false)))])
def ZG4:PC :=
 (.reg [4,5] [I 15 (.mv (.s 1)),I 16 (.ld true 5 (.s 2)),I 17 (C ZBl [(.s 15),(.s 16)]),I 14 (.mv (.s 17)),I 18 (.ext (.s 14) 0),I 19 (.ext (.s 14) 1),I 4 (.mv (.s 18)),I 5 (.mv (.s 19))])
def ZG5:PC :=
 (.reg [4,25] [I 20 (.mv (.s 4)),I 21 (.eqs false 3 [] (.s 20) (.v .nilptr)),I 22 (.mv (.s 21)),G 23 22 false (.mv (.s 5)),G 24 22 false (.bin .neq (.s 23) (V 0)),I 25 (.pick (.s 22) (.v (.bool true)) (.s 24))])
def ZG6:PC :=
 (.reg [0] [I 0 (.mv (.v (.bool false)))])
def ZG7:PC :=
 (.reg [4,5,6] [I 27 (.mv (.s 4)),I 28 (C Jw [(.s 27)]),I 26 (.mv (.s 28)),I 29 (.ext (.s 26) 0),I 30 (.ext (.s 26) 1),I 6 (.mv (.s 29)),I 5 (.mv (.s 30))])
def ZG8:PC :=
 (.reg [0] [I 31 (.mv (.s 5)),I 32 (.bin .eql (.s 31) (V 0)),I 33 (.mv (.s 32)),G 34 33 true (.mv (.s 6)),G 35 33 true (.bin .eql (.s 34) (.v (.str [97]))),I 36 (.pick (.s 33) (.s 35) (.v (.bool false))),I 37 (.mv (.s 36)),G 38 37 true (.mv (.s 4)),G 39 37 true (C Jm [(.s 38)]),G 40 37 true (.bin .eql (.s 39) (V 1)),I 41 (.pick (.s 37) (.s 40) (.v (.bool false))),I 42 (.mv (.s 41)),G 43 42 true (.mv (.s 4)),G 44 42 true (C Zr [(.s 43)]),G 45 42 true (.bin .eql (.s 44) (V 2)),I 46 (.pick (.s 42) (.s 45) (.v (.bool false))),I 0 (.mv (.s 46))])
def ZBY:PF:=⟨false,
 (.seq ZG0
 (.seq ZG1
 (.seq (.seq ZG2
 (.ite (.s 13)
 (.seq ZG3
 .ret)
 .skip))
 (.seq ZG4
 (.seq (.seq ZG5
 (.ite (.s 25)
 (.seq ZG6
 .ret)
 .skip))
 (.seq ZG7
 (.seq ZG8
 .ret))))))),
 [.s 0]⟩
theorem ZKI:Zs Proofs.Tryz.prog false ZKH Proofs.Tryz.f42=some ZBY:=by kernel_rfl
def Zbt:List Hint:=[H [0,3],H [0,3,6],H [0,3,6,13],H [4,5],H [3,7],H [7,22],H [7,8],H [7,8,28],H [4,5],H [4,5]]
def ZUi:PC :=
 (.reg [0,3] [I 3 (.box (.s 1)),I 4 (.mv (.v .nilptr)),I 5 (.mv (V 0))])
def ZUj:PC :=
 (.reg [0,3,6] [I 9 (.mv (.s 0)),I 10 (.ld true 5 (.s 3)),I 11 (C ZCE [(.s 9),(.s 10)]),I 6 (.mv (.s 11))])
def ZUk:PC :=
 (.reg [0,3,6,13] [I 12 (.mv (.s 6)),I 13 (.bin .neq (.s 12) (V 0))])
def ZUl:PC :=
 (.reg [4,5] [I 14 (.mv (.s 6)),I 4 (.mv (.v .nilptr)),I 5 (.mv (.s 14))])
def ZUm:PC :=
 (.reg [3,7] [I 15 (.mv (.s 0)),I 16 (.ld true 5 (.s 3)),I 17 (.build [.nilptr,(.int .u64 0),(.int .i64 0),(.int .i64 0),(.int .i64 0),(.int .i64 0),.nils,(.int .i64 0)] [(0,1,(.s 15)),(1,5,(.s 16))]),I 18 (.build [.nilptr,(.int .u64 0),(.int .i64 0),(.int .i64 0),(.int .i64 0),(.int .i64 0),.nils,(.int .i64 0),(.int .i64 0)] [(0,8,(.s 17))]),I 19 (.box (.s 18)),I 7 (.mv (.s 19))])
def ZUn:PC :=
 (.reg [7,22] [I 20 (.fadr 0 (.s 3)),I 21 (.ld false 1 (.s 20)),I 22 (.bin .neq (.s 21) (.v (.int .u64 0)))])
def ZUo:PC :=
 (.reg [7,8] [I 23 (.mv (.s 7)),I 24 (.nilck (.s 23)),I 25 (.fadr 0 (.s 24)),I 26 (C QV [(.s 25),(V 0)]),I 8 (.mv (.s 26))])
def ZUp:PC :=
 (.reg [7,8,28] [I 27 (.mv (.s 8)),I 28 (.bin .neq (.s 27) (V 0))])
def ZUq:PC :=
 (.reg [4,5] [I 29 (.mv (.s 8)),I 4 (.mv (.v .nilptr)),I 5 (.mv (.s 29))])
def ZUr:PC :=
 (.reg [4,5] [I 30 (.mv (.s 7)),I 4 (.mv (.s 30)),I 5 (.mv (V 0))])
def ZMX:PF:=⟨true,
 (.seq ZUi
 (.seq (.seq ZUj
 (.seq ZUk
 (.ite (.s 13)
 (.seq ZUl
 .ret)
 .skip)))
 (.seq ZUm
 (.seq (.seq ZUn
 (.ite (.s 22)
 (.seq ZUo
 (.seq ZUp
 (.ite (.s 28)
 (.seq ZUq
 .ret)
 .skip)))
 .skip))
 (.seq ZUr
 .ret))))),
 [.s 4,.s 5]⟩
theorem Zbu:Zs Proofs.Tryz.prog true Zbt Proofs.Tryz.f43=some ZMX:=by kernel_rfl
def ZDn:List Hint:=[H [0],H [0,4],H [2],H [2]]
def ZCo:PC :=
 (.reg [0] [I 2 (.mv (V 0))])
def ZCp:PC :=
 (.reg [0,4] [I 3 (.mv (.s 0)),I 4 (.eqs false 3 [] (.s 3) (.v .nilptr))])
def ZCq:PC :=
 (.reg [2] [I 2 (.mv (V 0))])
def ZCr:PC :=
 (.reg [2] [I 5 (.mv (.s 0)),I 6 (.nilck (.s 5)),I 7 (.fadr 0 (.s 6)),I 8 (.fadr 7 (.s 7)),I 9 (.ld false 1 (.s 8)),I 2 (.mv (.s 9))])
def Xh:PF:=⟨false,
 (.seq ZCo
 (.seq (.seq ZCp
 (.ite (.s 4)
 (.seq ZCq
 .ret)
 .skip))
 (.seq ZCr
 .ret))),
 [.s 2]⟩
theorem ZDo:Zs Proofs.Tryz.prog false ZDn Proofs.Tryz.f44=some Xh:=by kernel_rfl
def ZIa:List Hint:=[H [0,3],H [0,3,6],H [0,3,6,10],H [4,5],H [0,3,13],H [4,5],H [4,5]]
def ZEq:PC :=
 (.reg [0,3] [I 3 (.box (.s 1)),I 4 (.mv (.v (.str []))),I 5 (.mv (V 0))])
def ZEr:PC :=
 (.reg [0,3,6] [I 7 (.mv (.s 0)),I 8 (C JE [(.s 7)]),I 6 (.mv (.s 8))])
def ZEs:PC :=
 (.reg [0,3,6,10] [I 9 (.mv (.s 6)),I 10 (.bin .neq (.s 9) (V 0))])
def ZEt:PC :=
 (.reg [4,5] [I 11 (.mv (.s 6)),I 4 (.mv (.v (.str []))),I 5 (.mv (.s 11))])
def ZEu:PC :=
 (.reg [0,3,13] [I 12 (.ld false 1 (.s 3)),I 13 (.bin .lss (.s 12) (V 0))])
def ZEv:PC :=
 (.reg [4,5] [I 4 (.mv (.v (.str []))),I 5 (.mv (V 2))])
def ZEw:PC :=
 (.reg [4,5] [I 14 (.mv (.s 0)),I 15 (.mkf (.func YK) [] [(.s 3)]),I 16 (C QY [(.s 14),(.s 15)]),I 17 (.ext (.s 16) 0),I 18 (.ext (.s 16) 1),I 4 (.mv (.s 17)),I 5 (.mv (.s 18))])
def ZA6:PF:=⟨false,
 (.seq ZEq
 (.seq (.seq ZEr
 (.seq ZEs
 (.ite (.s 10)
 (.seq ZEt
 .ret)
 .skip)))
 (.seq (.seq ZEu
 (.ite (.s 13)
 (.seq ZEv
 .ret)
 .skip))
 (.seq ZEw
 .ret)))),
 [.s 4,.s 5]⟩
theorem ZIb:Zs Proofs.Tryz.prog false ZIa Proofs.Tryz.f45=some ZA6:=by kernel_rfl
def ZKJ:List Hint:=[H [0,1],H [0,5],H [0,5,7],H [0,5,7,8],H [0,5,7,8,19],H [0,5,7,8],H [0,5,7,8],H [4]]
def ZG9:PC :=
 (.reg [0,1] [I 4 (.mv (V 0))])
def ZHA:PC :=
 (.reg [0,5] [I 10 (.mv (.s 0)),I 11 (.mv (.s 1)),I 12 (C QJ [(.s 10),(.s 11)]),I 9 (.mv (.s 12)),I 13 (.ext (.s 9) 0),I 14 (.ext (.s 9) 1),I 5 (.box (.v ZN)),J (.st 3 (.s 5) (.s 13)),I 6 (.mv (.s 14))])
def ZHB:PC :=
 (.reg [0,5,7] [I 7 (.mv (V 1))])
def ZHC:PC :=
 (.reg [0,5,7,8] [I 8 (.mv (V 0))])
def ZHD:PC :=
 (.reg [0,5,7,8,19] [I 15 (.mv (.s 8)),I 16 (.fadr 2 (.s 5)),I 17 (.ld false 1 (.s 16)),I 18 (.len 1 (.s 17)),I 19 (.bin .lss (.s 15) (.s 18))])
def ZHE:PC :=
 (.reg [0,5,7,8] [I 22 (.mv (.s 7)),I 23 (.mv (.s 0)),I 24 (.fadr 2 (.s 5)),I 25 (.ld false 1 (.s 24)),I 26 (.mv (.s 8)),I 27 (.ixS 4 (.s 25) (.s 26)),I 28 (.fadr 0 (.s 27)),I 29 (.ld false 1 (.s 28)),I 30 (C J0 [(.s 23),(.s 29)]),I 31 (.bin .add (.s 22) (.s 30)),I 7 (.mv (.s 31))])
def ZHF:PC :=
 (.reg [0,5,7,8] [I 20 (.mv (.s 8)),I 21 (.bin .add (.s 20) (V 1)),I 8 (.mv (.s 21))])
def ZHG:PC :=
 (.seq (.seq ZHD
 (.ite (.s 19)
 .skip
 (.exit 0)))
 (.seq (.block 1
 ZHE)
 ZHF))
def ZHH:PC :=
 (.reg [4] [I 32 (.mv (.s 7)),I 4 (.mv (.s 32))])
def ZBZ:PF:=⟨false,
 (.seq ZG9
 (.seq ZHA
 (.seq ZHB
 (.seq (.seq ZHC
 (.block 0
 (.loop ZHG)))
 (.seq ZHH
 .ret))))),
 [.s 4]⟩
theorem ZKK:Zs Proofs.Tryz.prog false ZKJ Proofs.Tryz.f46=some ZBZ:=by kernel_rfl
def ZIc:List Hint:=[H [0,1],H [0,1,5],H [0,1,5,9],H [4],H [0,1,23],H [4],H [4]]
def ZEx:PC :=
 (.reg [0,1] [I 4 (.mv (V 0))])
def ZEy:PC :=
 (.reg [0,1,5] [I 6 (.mv (.s 0)),I 7 (C JE [(.s 6)]),I 5 (.mv (.s 7))])
def ZEz:PC :=
 (.reg [0,1,5,9] [I 8 (.mv (.s 5)),I 9 (.bin .neq (.s 8) (V 0))])
def ZE0:PC :=
 (.reg [4] [I 10 (.mv (.s 5)),I 4 (.mv (.s 10))])
def ZE1:PC :=
 (.reg [0,1,23] [I 11 (.mv (.s 1)),I 12 (.bin .lss (.s 11) (V 0)),I 13 (.mv (.s 12)),G 14 13 false (.mv (.s 1)),G 15 13 false (.mv (.s 0)),G 16 13 false (.nilck (.s 15)),G 17 13 false (.fadr 0 (.s 16)),G 18 13 false (.fadr 1 (.s 17)),G 19 13 false (.fadr 2 (.s 18)),G 20 13 false (.fadr 0 (.s 19)),G 21 13 false (.ld false 1 (.s 20)),G 22 13 false (.bin .gtr (.s 14) (.s 21)),I 23 (.pick (.s 13) (.v (.bool true)) (.s 22))])
def ZE2:PC :=
 (.reg [4] [I 4 (.mv (V 3))])
def ZE3:PC :=
 (.reg [4] [I 24 (.mv (.s 0)),I 25 (.mv (.s 1)),I 26 (C Qy [(.s 24),(.s 25)]),I 4 (.mv (.s 26))])
def ZA7:PF:=⟨false,
 (.seq ZEx
 (.seq (.seq ZEy
 (.seq ZEz
 (.ite (.s 9)
 (.seq ZE0
 .ret)
 .skip)))
 (.seq (.seq ZE1
 (.ite (.s 23)
 (.seq ZE2
 .ret)
 .skip))
 (.seq ZE3
 .ret)))),
 [.s 4]⟩
theorem ZId:Zs Proofs.Tryz.prog false ZIc Proofs.Tryz.f47=some ZA7:=by kernel_rfl
def ZLN:List Hint:=[H [0],H [0,4],H [2],H [2]]
def ZIe:PC :=
 (.reg [0] [I 2 (.mv (V 0))])
def ZIf:PC :=
 (.reg [0,4] [I 3 (.mv (.s 0)),I 4 (.eqs false 3 [] (.s 3) (.v .nilptr))])
def ZIg:PC :=
 (.reg [2] [I 2 (.mv (V 0))])
def ZIh:PC :=
 (.reg [2] [I 5 (.mv (.s 0)),I 6 (.nilck (.s 5)),I 7 (.fadr 8 (.s 6)),I 8 (.ld false 1 (.s 7)),I 2 (.mv (.s 8))])
def ZCQ:PF:=⟨false,
 (.seq ZIe
 (.seq (.seq ZIf
 (.ite (.s 4)
 (.seq ZIg
 .ret)
 .skip))
 (.seq ZIh
 .ret))),
 [.s 2]⟩
theorem ZLO:Zs Proofs.Tryz.prog false ZLN Proofs.Tryz.f48=some ZCQ:=by kernel_rfl
def ZIi:List Hint:=[H [0],H [0,4],H [0,4,8],H [2,3],H [0,21],H [2,3],H [2,3]]
def ZE4:PC :=
 (.reg [0] [I 2 (.mv (.v (.str []))),I 3 (.mv (V 0))])
def ZE5:PC :=
 (.reg [0,4] [I 5 (.mv (.s 0)),I 6 (C JE [(.s 5)]),I 4 (.mv (.s 6))])
def ZE6:PC :=
 (.reg [0,4,8] [I 7 (.mv (.s 4)),I 8 (.bin .neq (.s 7) (V 0))])
def ZE7:PC :=
 (.reg [2,3] [I 9 (.mv (.s 4)),I 2 (.mv (.v (.str []))),I 3 (.mv (.s 9))])
def ZE8:PC :=
 (.reg [0,21] [I 10 (.mv (.s 0)),I 11 (.nilck (.s 10)),I 12 (.fadr 8 (.s 11)),I 13 (.ld false 1 (.s 12)),I 14 (.mv (.s 0)),I 15 (.nilck (.s 14)),I 16 (.fadr 0 (.s 15)),I 17 (.fadr 1 (.s 16)),I 18 (.fadr 2 (.s 17)),I 19 (.fadr 0 (.s 18)),I 20 (.ld false 1 (.s 19)),I 21 (.bin .eql (.s 13) (.s 20))])
def ZE9:PC :=
 (.reg [2,3] [I 2 (.mv (.v (.str []))),I 3 (.mv (V 3))])
def ZFA:PC :=
 (.reg [2,3] [I 22 (.mv (.s 0)),I 23 (C QY [(.s 22),(.v (.func (.func YL) [] []))]),I 24 (.ext (.s 23) 0),I 25 (.ext (.s 23) 1),I 2 (.mv (.s 24)),I 3 (.mv (.s 25))])
def ZA8:PF:=⟨false,
 (.seq ZE4
 (.seq (.seq ZE5
 (.seq ZE6
 (.ite (.s 8)
 (.seq ZE7
 .ret)
 .skip)))
 (.seq (.seq ZE8
 (.ite (.s 21)
 (.seq ZE9
 .ret)
 .skip))
 (.seq ZFA
 .ret)))),
 [.s 2,.s 3]⟩
theorem ZIj:Zs Proofs.Tryz.prog false ZIi Proofs.Tryz.f53=some ZA8:=by kernel_rfl
def ZeP:List Hint:=[H [0,1],H [0,6,7],H [0,6,7,15],H [4,5],H [4,5]]
def ZYL:PC :=
 (.reg [0,1] [I 4 (.mv (.v .nilptr)),I 5 (.mv (V 0))])
def ZYM:PC :=
 (.reg [0,6,7] [I 9 (.mv (.s 0)),I 10 (.mv (.s 1)),I 11 (C ZCF [(.s 9),(.s 10)]),I 8 (.mv (.s 11)),I 12 (.ext (.s 8) 0),I 13 (.ext (.s 8) 1),I 6 (.mv (.s 12)),I 7 (.mv (.s 13))])
def ZYN:PC :=
 (.reg [0,6,7,15] [I 14 (.mv (.s 7)),I 15 (.bin .neq (.s 14) (V 0))])
def ZYO:PC :=
 (.reg [4,5] [I 16 (.mv (.s 7)),I 4 (.mv (.v .nilptr)),I 5 (.mv (.s 16))])
def ZYP:PC :=
 (.reg [4,5] [I 17 (.mv (.s 0)),I 18 (.mv (.s 6)),I 19 (.mkmap),I 20 (.build [(.int .i64 0),.nilptr,.nilmap,(.int .i64 0),(.int .i64 0),(.int .i64 0)] [(0,1,(.s 17)),(1,1,(.s 18)),(2,1,(.s 19))]),I 21 (.box (.s 20)),I 4 (.mv (.s 21)),I 5 (.mv (V 0))])
def ZQs:PF:=⟨true,
 (.seq ZYL
 (.seq ZYM
 (.seq (.seq ZYN
 (.ite (.s 15)
 (.seq ZYO
 .ret)
 .skip))
 (.seq ZYP
 .ret)))),
 [.s 4,.s 5]⟩
theorem ZeQ:Zs Proofs.Tryz.prog true ZeP Proofs.Tryz.f57=some ZQs:=by kernel_rfl
def Zf9:List Hint:=[H [0,1,4],H [0,1,4,11],H [4,5],H [0,4,6,7],H [0,4,6,7,19],H [4,5],H [4,7,8],H [4,5]]
def Zbv:PC :=
 (.reg [0,1,4] [I 4 (.box (.v ZR)),I 5 (.mv (V 0))])
def Zbw:PC :=
 (.reg [0,1,4,11] [I 10 (.mv (.s 0)),I 11 (.eqs false 3 [] (.s 10) (.v .nilptr))])
def Zbx:PC :=
 (.reg [4,5] [I 12 (.build [(.int .u64 0),(.int .i64 0),(.int .i64 0),(.int .i64 0),(.int .i64 0)] []),J (.st 5 (.s 4) (.s 12)),I 5 (.mv (V 1))])
def Zby:PC :=
 (.reg [0,4,6,7] [I 14 (.mv (.s 1)),I 15 (C Xo [(.s 14)]),I 13 (.mv (.s 15)),I 16 (.ext (.s 13) 0),I 17 (.ext (.s 13) 1),I 6 (.box (.v ZT)),J (.st 7 (.s 6) (.s 16)),I 7 (.mv (.s 17))])
def Zbz:PC :=
 (.reg [0,4,6,7,19] [I 18 (.mv (.s 7)),I 19 (.bin .neq (.s 18) (V 0))])
def Zb0:PC :=
 (.reg [4,5] [I 20 (.build [(.int .u64 0),(.int .i64 0),(.int .i64 0),(.int .i64 0),(.int .i64 0)] []),I 21 (.mv (.s 7)),J (.st 5 (.s 4) (.s 20)),I 5 (.mv (.s 21))])
def Zb1:PC :=
 (.reg [4,7,8] [I 23 (.mv (.s 0)),I 24 (.ld true 7 (.s 6)),I 25 (C Xn [(.s 23),(.s 24)]),I 22 (.mv (.s 25)),I 26 (.ext (.s 22) 0),I 27 (.ext (.s 22) 1),I 28 (.ext (.s 22) 2),I 8 (.box (.v ZR)),J (.st 5 (.s 8) (.s 26)),I 9 (.mv (.s 27)),I 7 (.mv (.s 28))])
def Zb2:PC :=
 (.reg [4,5] [I 29 (.ld true 5 (.s 8)),I 30 (.mv (.s 7)),J (.st 5 (.s 4) (.s 29)),I 5 (.mv (.s 30))])
def ZUs:PF:=⟨false,
 (.seq Zbv
 (.seq (.seq Zbw
 (.ite (.s 11)
 (.seq Zbx
 .ret)
 .skip))
 (.seq Zby
 (.seq (.seq Zbz
 (.ite (.s 19)
 (.seq Zb0
 .ret)
 .skip))
 (.seq Zb1
 (.seq Zb2
 .ret)))))),
 [.c 4 true 5,.s 5]⟩
theorem ZgA:Zs Proofs.Tryz.prog false Zf9 Proofs.Tryz.f58=some ZUs:=by kernel_rfl
def ZLP:List Hint:=[H [0],H [0,3],H [0,3,4],H [0,3,4,12],H [0,3,4],H [0,3,4],H [2]]
def ZIk:PC :=
 (.reg [0] [I 2 (.mv (.v (.bool false)))])
def ZIl:PC :=
 (.reg [0,3] [I 3 (.mv (V 0))])
def ZIm:PC :=
 (.reg [0,3,4] [I 4 (.mv (V 0))])
def ZIn:PC :=
 (.reg [0,3,4,12] [I 5 (.mv (.s 4)),I 6 (.mv (.s 0)),I 7 (.len 1 (.s 6)),I 8 (.bin .lss (.s 5) (.s 7)),I 9 (.mv (.s 8)),G 10 9 true (.mv (.s 3)),G 11 9 true (.bin .leq (.s 10) (V 900)),I 12 (.pick (.s 9) (.s 11) (.v (.bool false)))])
def ZIo:PC :=
 (.reg [0,3,4] [I 15 (.mv (.s 3)),I 16 (.mv (.s 0)),I 17 (.mv (.s 4)),I 18 (.ixS 1 (.s 16) (.s 17)),I 19 (.ld false 1 (.s 18)),I 20 (.len 0 (.s 19)),I 21 (.mnx false (.s 20) (V 1000)),I 22 (.bin .add (.s 15) (.s 21)),I 3 (.mv (.s 22))])
def ZIp:PC :=
 (.reg [0,3,4] [I 13 (.mv (.s 4)),I 14 (.bin .add (.s 13) (V 1)),I 4 (.mv (.s 14))])
def ZIq:PC :=
 (.seq (.seq ZIn
 (.ite (.s 12)
 .skip
 (.exit 0)))
 (.seq (.block 1
 ZIo)
 ZIp))
def ZIr:PC :=
 (.reg [2] [I 23 (.mv (.s 0)),I 24 (.len 1 (.s 23)),I 25 (.bin .gtr (.s 24) (V 4)),I 26 (.mv (.s 25)),G 27 26 false (.mv (.s 3)),G 28 26 false (.bin .gtr (.s 27) (V 900)),I 29 (.pick (.s 26) (.v (.bool true)) (.s 28)),I 2 (.mv (.s 29))])
def ZCR:PF:=⟨false,
 (.seq ZIk
 (.seq ZIl
 (.seq (.seq ZIm
 (.block 0
 (.loop ZIq)))
 (.seq ZIr
 .ret)))),
 [.s 2]⟩
theorem ZLQ:Zs Proofs.Tryz.prog false ZLP Proofs.Tryz.f68=some ZCR:=by kernel_rfl
def ZLR:List Hint:=[H [0],H [0,3],H [0,3,11],H [0,3,20],H [2],H [0,3],H [2]]
def ZIs:PC :=
 (.reg [0] [I 2 (.mv (.v (.bool false)))])
def ZIt:PC :=
 (.reg [0,3] [I 3 (.mv (V 0))])
def ZIu:PC :=
 (.reg [0,3,11] [I 4 (.mv (.s 3)),I 5 (.mv (.s 0)),I 6 (.len 1 (.s 5)),I 7 (.bin .lss (.s 4) (.s 6)),I 8 (.mv (.s 7)),G 9 8 true (.mv (.s 3)),G 10 8 true (.bin .lss (.s 9) (V 100)),I 11 (.pick (.s 8) (.s 10) (.v (.bool false)))])
def ZIv:PC :=
 (.reg [0,3,20] [I 14 (.mv (.s 0)),I 15 (.mv (.s 3)),I 16 (.ixS 5 (.s 14) (.s 15)),I 17 (.fadr 4 (.s 16)),I 18 (.ld false 1 (.s 17)),I 19 (.len 0 (.s 18)),I 20 (.bin .gtr (.s 19) (V 200))])
def ZIw:PC :=
 (.reg [2] [I 2 (.mv (.v (.bool true)))])
def ZIx:PC :=
 (.reg [0,3] [I 12 (.mv (.s 3)),I 13 (.bin .add (.s 12) (V 1)),I 3 (.mv (.s 13))])
def ZIy:PC :=
 (.seq (.seq ZIu
 (.ite (.s 11)
 .skip
 (.exit 0)))
 (.seq (.block 1
 (.seq ZIv
 (.ite (.s 20)
 (.seq ZIw
 .ret)
 .skip)))
 ZIx))
def ZIz:PC :=
 (.reg [2] [I 21 (.mv (.s 0)),I 22 (.len 1 (.s 21)),I 23 (.bin .gtr (.s 22) (V 60)),I 2 (.mv (.s 23))])
def ZCS:PF:=⟨false,
 (.seq ZIs
 (.seq (.seq ZIt
 (.block 0
 (.loop ZIy)))
 (.seq ZIz
 .ret))),
 [.s 2]⟩
theorem ZLS:Zs Proofs.Tryz.prog false ZLR Proofs.Tryz.f69=some ZCS:=by kernel_rfl
def ZLT:List Hint:=[H [0],H [0,5,6],H [0,5,20],H [2,3,4],⟨[0,5,7],[0],[],[],[],[]⟩,H [0,5,7,8],H [0,5,7,8,24],H [0,5,7,8,9,10],H [0,5,7,8,9,37],H [2,3,4],H [0,5,7,8],H [0,5,7,8],H [2,3,4]]
def ZI0:PC :=
 (.reg [0] [I 2 (.mv (.v .nilptr)),I 3 (.mv (.v .nils)),I 4 (.mv (.v (.bool false)))])
def ZI1:PC :=
 (.reg [0,5,6] [I 12 (C ZDE [(V 1500),(.v (.int .u64 3))]),I 11 (.mv (.s 12)),I 13 (.ext (.s 11) 0),I 14 (.ext (.s 11) 1),I 5 (.mv (.s 13)),I 6 (.mv (.s 14))])
def ZI2:PC :=
 (.reg [0,5,20] [I 15 (.mv (.s 5)),I 16 (.eqs false 3 [] (.s 15) (.v .nilptr)),I 17 (.mv (.s 16)),G 18 17 false (.mv (.s 6)),G 19 17 false (.bin .neq (.s 18) (V 0)),I 20 (.pick (.s 17) (.v (.bool true)) (.s 19))])
def ZI3:PC :=
 (.reg [2,3,4] [I 2 (.mv (.v .nilptr)),I 3 (.mv (.v .nils)),I 4 (.mv (.v (.bool false)))])
def ZI4:PC :=
 (.reg [0,5,7] [I 7 (.onil 5)])
def ZI5:PC :=
 (.reg [0,5,7,8] [I 8 (.mv (V 0))])
def ZI6:PC :=
 (.reg [0,5,7,8,24] [I 21 (.mv (.s 8)),I 22 (.mv (.s 0)),I 23 (.len 1 (.s 22)),I 24 (.bin .lss (.s 21) (.s 23))])
def ZI7:PC :=
 (.reg [0,5,7,8,9,10] [I 28 (.mv (.s 5)),I 29 (.mv (.s 0)),I 30 (.mv (.s 8)),I 31 (.ixS 1 (.s 29) (.s 30)),I 32 (.ld false 1 (.s 31)),I 33 (C ZCD [(.s 28),(.s 32)]),I 27 (.mv (.s 33)),I 34 (.ext (.s 27) 0),I 35 (.ext (.s 27) 1),I 9 (.box (.v ZR)),J (.st 5 (.s 9) (.s 34)),I 10 (.mv (.s 35))])
def ZI8:PC :=
 (.reg [0,5,7,8,9,37] [I 36 (.mv (.s 10)),I 37 (.bin .neq (.s 36) (V 0))])
def ZI9:PC :=
 (.reg [2,3,4] [I 2 (.mv (.v .nilptr)),I 3 (.mv (.v .nils)),I 4 (.mv (.v (.bool false)))])
def ZHI:PC :=
 (.reg [0,5,7,8] [I 38 (.mv (.s 7)),I 39 (.ld true 5 (.s 9)),I 40 (.bslice false 5 [ZR] [(0,(.s 39))]),I 41 (.app 5 40 (.s 38) (.s 40)),I 7 (.mv (.s 41))])
def ZHJ:PC :=
 (.reg [0,5,7,8] [I 25 (.mv (.s 8)),I 26 (.bin .add (.s 25) (V 1)),I 8 (.mv (.s 26))])
def ZHK:PC :=
 (.seq (.seq ZI6
 (.ite (.s 24)
 .skip
 (.exit 0)))
 (.seq (.block 1
 (.seq ZI7
 (.seq (.seq ZI8
 (.ite (.s 37)
 (.seq ZI9
 .ret)
 .skip))
 ZHI)))
 ZHJ))
def ZHL:PC :=
 (.reg [2,3,4] [I 42 (.mv (.s 5)),I 43 (.mv (.s 7)),I 2 (.mv (.s 42)),I 3 (.mv (.s 43)),I 4 (.mv (.v (.bool true)))])
def ZCT:PF:=⟨true,
 (.seq ZI0
 (.seq ZI1
 (.seq (.seq ZI2
 (.ite (.s 20)
 (.seq ZI3
 .ret)
 .skip))
 (.seq ZI4
 (.seq (.seq ZI5
 (.block 0
 (.loop ZHK)))
 (.seq ZHL
 .ret)))))),
 [.s 2,.s 3,.s 4]⟩
theorem ZLU:Zs Proofs.Tryz.prog true ZLT Proofs.Tryz.f71=some ZCT:=by kernel_rfl
def ZKL:List Hint:=[H [0,1,2],⟨[0,1,2,8],[0],[],[],[],[]⟩,H [0,1,2,8,9],H [0,1,2,8,9,19],H [0,1,2,8,9,24],H [0,1,2,8,9,10,11],H [0,1,2,8,9,10,35],H [6,7],H [0,1,2,8,9],H [0,1,2,8,9,12],H [0,1,2,8,9,12,13,14],H [0,1,2,8,9,12,13,59],H [6,7],H [0,1,2,8,9,12,13,15],⟨[0,1,2,8,9,13,14],[],[(13,.pure)],[],[],[]⟩,H [0,1,2,8,9,13,93],H [6,7],H [0,1,2,8,9],H [0,1,2,8,9],H [6,7]]
def ZHM:PC :=
 (.reg [0,1,2] [I 6 (.mv (.v .nils)),I 7 (.mv (.v (.bool false)))])
def ZHN:PC :=
 (.reg [0,1,2,8] [I 8 (.onil 7)])
def ZHO:PC :=
 (.reg [0,1,2,8,9] [I 9 (.mv (V 0))])
def ZHP:PC :=
 (.reg [0,1,2,8,9,19] [I 16 (.mv (.s 9)),I 17 (.mv (.s 2)),I 18 (.len 1 (.s 17)),I 19 (.bin .lss (.s 16) (.s 18))])
def ZHQ:PC :=
 (.reg [0,1,2,8,9,24] [I 22 (.mv (.s 1)),I 23 (.len 1 (.s 22)),I 24 (.bin .eql (.s 23) (V 0))])
def ZHR:PC :=
 (.reg [0,1,2,8,9,10,11] [I 26 (.mv (.s 2)),I 27 (.mv (.s 9)),I 28 (.ixS 5 (.s 26) (.s 27)),I 29 (.fadr 4 (.s 28)),I 30 (.ld false 1 (.s 29)),I 31 (C Xo [(.s 30)]),I 25 (.mv (.s 31)),I 32 (.ext (.s 25) 0),I 33 (.ext (.s 25) 1),I 10 (.box (.v ZT)),J (.st 7 (.s 10) (.s 32)),I 11 (.mv (.s 33))])
def ZHS:PC :=
 (.reg [0,1,2,8,9,10,35] [I 34 (.mv (.s 11)),I 35 (.bin .neq (.s 34) (V 0))])
def ZHT:PC :=
 (.reg [6,7] [I 6 (.mv (.v .nils)),I 7 (.mv (.v (.bool false)))])
def ZHU:PC :=
 (.reg [0,1,2,8,9] [I 36 (.mv (.s 8)),I 37 (.ld true 7 (.s 10)),I 38 (.bslice false 7 [ZT] [(0,(.s 37))]),I 39 (.app 7 80 (.s 36) (.s 38)),I 8 (.mv (.s 39))])
def ZHV:PC :=
 (.reg [0,1,2,8,9,12] [I 40 (.mv (.s 1)),I 41 (.mv (.s 2)),I 42 (.mv (.s 9)),I 43 (.ixS 5 (.s 41) (.s 42)),I 44 (.fadr 1 (.s 43)),I 45 (.ld false 1 (.s 44)),I 46 (.mv (.s 1)),I 47 (.len 1 (.s 46)),I 48 (.bin .sub (.s 47) (V 1)),I 49 (C JH [(.s 45),(.s 48)]),I 50 (.ixS 5 (.s 40) (.s 49)),I 51 (.ld true 5 (.s 50)),I 12 (.box (.v ZR)),J (.st 5 (.s 12) (.s 51))])
def ZFB:PC :=
 (.reg [0,1,2,8,9,12,13,14] [I 53 (.mv (.s 0)),I 54 (.ld true 5 (.s 12)),I 55 (C ZAh [(.s 53),(.s 54)]),I 52 (.mv (.s 55)),I 56 (.ext (.s 52) 0),I 57 (.ext (.s 52) 1),I 13 (.box (.v ZT)),J (.st 7 (.s 13) (.s 56)),I 14 (.mv (.s 57))])
def ZFC:PC :=
 (.reg [0,1,2,8,9,12,13,59] [I 58 (.mv (.s 14)),I 59 (.bin .neq (.s 58) (V 0))])
def ZFD:PC :=
 (.reg [6,7] [I 6 (.mv (.v .nils)),I 7 (.mv (.v (.bool false)))])
def ZFE:PC :=
 (.reg [0,1,2,8,9,12,13,15] [I 60 (.mv (.s 2)),I 61 (.mv (.s 9)),I 62 (.ixS 5 (.s 60) (.s 61)),I 63 (.fadr 2 (.s 62)),I 64 (.ld false 1 (.s 63)),I 65 (.fadr 2 (.s 12)),I 66 (.fadr 0 (.s 65)),I 67 (.ld false 1 (.s 66)),I 68 (C JH [(.s 64),(.s 67)]),I 15 (.mv (.s 68))])
def ZFF:PC :=
 (.reg [0,1,2,8,9,13,14] [I 70 (.mv (.s 0)),I 71 (.ld true 7 (.s 13)),I 72 (.mv (.s 15)),I 73 (.mv (.s 2)),I 74 (.mv (.s 9)),I 75 (.ixS 5 (.s 73) (.s 74)),I 76 (.fadr 3 (.s 75)),I 77 (.ld false 1 (.s 76)),I 78 (.fadr 2 (.s 12)),I 79 (.fadr 0 (.s 78)),I 80 (.ld false 1 (.s 79)),I 81 (.mv (.s 15)),I 82 (.bin .sub (.s 80) (.s 81)),I 83 (.call .pure (.v (.func (.func JH) [] [])) [(.s 77),(.s 82)]),I 84 (.mv (.s 2)),I 85 (.mv (.s 9)),I 86 (.ixS 5 (.s 84) (.s 85)),I 87 (.fadr 4 (.s 86)),I 88 (.ld false 1 (.s 87)),I 89 (C ZCG [(.s 70),(.s 71),(.s 72),(.s 83),(.s 88)]),I 69 (.mv (.s 89)),I 90 (.ext (.s 69) 0),I 91 (.ext (.s 69) 1),J (.st 7 (.s 13) (.s 90)),I 14 (.mv (.s 91))])
def ZFG:PC :=
 (.reg [0,1,2,8,9,13,93] [I 92 (.mv (.s 14)),I 93 (.bin .neq (.s 92) (V 0))])
def ZFH:PC :=
 (.reg [6,7] [I 6 (.mv (.v .nils)),I 7 (.mv (.v (.bool false)))])
def ZFI:PC :=
 (.reg [0,1,2,8,9] [I 94 (.mv (.s 8)),I 95 (.ld true 7 (.s 13)),I 96 (.bslice false 7 [ZT] [(0,(.s 95))]),I 97 (.app 7 80 (.s 94) (.s 96)),I 8 (.mv (.s 97))])
def ZFJ:PC :=
 (.reg [0,1,2,8,9] [I 20 (.mv (.s 9)),I 21 (.bin .add (.s 20) (V 1)),I 9 (.mv (.s 21))])
def ZFK:PC :=
 (.seq (.seq ZHP
 (.ite (.s 19)
 .skip
 (.exit 0)))
 (.seq (.block 1
 (.seq (.seq ZHQ
 (.ite (.s 24)
 (.seq ZHR
 (.seq (.seq ZHS
 (.ite (.s 35)
 (.seq ZHT
 .ret)
 .skip))
 (.seq ZHU
 (.exit 1))))
 .skip))
 (.seq ZHV
 (.seq ZFB
 (.seq (.seq ZFC
 (.ite (.s 59)
 (.seq ZFD
 .ret)
 .skip))
 (.seq ZFE
 (.seq ZFF
 (.seq (.seq ZFG
 (.ite (.s 93)
 (.seq ZFH
 .ret)
 .skip))
 ZFI))))))))
 ZFJ))
def ZFL:PC :=
 (.reg [6,7] [I 98 (.mv (.s 8)),I 6 (.mv (.s 98)),I 7 (.mv (.v (.bool true)))])
def ZBa:PF:=⟨false,
 (.seq ZHM
 (.seq ZHN
 (.seq (.seq ZHO
 (.block 0
 (.loop ZFK)))
 (.seq ZFL
 .ret)))),
 [.s 6,.s 7]⟩
theorem ZKM:Zs Proofs.Tryz.prog false ZKL Proofs.Tryz.f72=some ZBa:=by kernel_rfl
def ZeR:List Hint:=[H [2,3],H [2,3,6],H [2,3,6,14],H [4,5],⟨[2,3,7],[0],[],[],[],[]⟩,H [2,3,7,8],H [3,7,8],H [3,7,8,19],H [4,5],H [7,9],H [7,9,24],H [4,5],H [4,5]]
def ZYQ:PC :=
 (.reg [2,3] [I 2 (.box (.s 0)),I 3 (.box (.s 1)),I 4 (.mv (.v (.str []))),I 5 (.mv (V 0))])
def ZYR:PC :=
 (.reg [2,3,6] [I 10 (.ld false 1 (.s 2)),I 11 (.ld true 7 (.s 3)),I 12 (C YM [(.s 10),(.s 11)]),I 6 (.mv (.s 12))])
def ZYS:PC :=
 (.reg [2,3,6,14] [I 13 (.mv (.s 6)),I 14 (.bin .neq (.s 13) (V 0))])
def ZYT:PC :=
 (.reg [4,5] [I 15 (.mv (.s 6)),I 4 (.mv (.v (.str []))),I 5 (.mv (.s 15))])
def ZYU:PC :=
 (.reg [2,3,7] [I 7 (.boxnil 1)])
def ZYV:PC :=
 (.reg [2,3,7,8] [I 8 (.box (.v .nilfunc))])
def ZYW:PC :=
 (.reg [3,7,8] [I 16 (.mkf (.func YW) [] [(.s 2),(.s 7),(.s 8)]),J (.st 1 (.s 8) (.s 16))])
def ZYX:PC :=
 (.reg [3,7,8,19] [I 17 (.ld true 7 (.s 3)),I 18 (C Qk [(.s 17)]),I 19 (.bin .eql (.s 18) (V 1))])
def ZYY:PC :=
 (.reg [4,5] [I 4 (.mv (.v (.str []))),I 5 (.mv (V 0))])
def ZYZ:PC :=
 (.reg [7,9] [I 20 (.ld false 1 (.s 8)),I 21 (.ld true 7 (.s 3)),I 22 (.call .norm (.s 20) [(.s 21)]),I 9 (.mv (.s 22))])
def ZUt:PC :=
 (.reg [7,9,24] [I 23 (.mv (.s 9)),I 24 (.bin .neq (.s 23) (V 0))])
def ZUu:PC :=
 (.reg [4,5] [I 25 (.mv (.s 9)),I 4 (.mv (.v (.str []))),I 5 (.mv (.s 25))])
def ZUv:PC :=
 (.reg [4,5] [I 26 (.ld false 1 (.s 7)),I 27 (.b2s (.s 26)),I 4 (.mv (.s 27)),I 5 (.mv (V 0))])
def ZQt:PF:=⟨false,
 (.seq ZYQ
 (.seq (.seq ZYR
 (.seq ZYS
 (.ite (.s 14)
 (.seq ZYT
 .ret)
 .skip)))
 (.seq ZYU
 (.seq ZYV
 (.seq ZYW
 (.seq (.seq ZYX
 (.ite (.s 19)
 (.seq ZYY
 .ret)
 .skip))
 (.seq (.seq ZYZ
 (.seq ZUt
 (.ite (.s 24)
 (.seq ZUu
 .ret)
 .skip)))
 (.seq ZUv
 .ret)))))))),
 [.s 4,.s 5]⟩
theorem ZeS:Zs Proofs.Tryz.prog false ZeR Proofs.Tryz.f73=some ZQt:=by kernel_rfl
def Zb3:List Hint:=[⟨[0,3,4,5],[2],[],[],[],[]⟩,H [4,5,6,7],H [4,5,6,7,18],⟨[4,5,6],[3],[],[],[],[]⟩,H [4,5,7,26],H [4,5,7,8,10],H [4,5,7,8,10,34],⟨[4,5,6],[3],[],[],[],[]⟩,H [4,5,7],H [4,5,6],H [4,5,6]]
def ZUw:PC :=
 (.reg [0,3,4,5] [I 3 (.box (.s 1)),I 4 (.box (.v ZR)),I 5 (.onil 1),I 6 (.mv (V 0))])
def ZUx:PC :=
 (.reg [4,5,6,7] [I 12 (.mv (.s 0)),I 13 (.ld true 7 (.s 3)),I 14 (C Yw [(.s 12),(.s 13)]),I 11 (.mv (.s 14)),I 15 (.ext (.s 11) 0),I 16 (.ext (.s 11) 1),I 7 (.mv (.s 15)),I 6 (.mv (.s 16))])
def ZUy:PC :=
 (.reg [4,5,6,7,18] [I 17 (.mv (.s 6)),I 18 (.bin .neq (.s 17) (V 0))])
def ZUz:PC :=
 (.reg [4,5,6] [I 19 (.build [(.int .u64 0),(.int .i64 0),(.int .i64 0),(.int .i64 0),(.int .i64 0)] []),I 20 (.mv (.s 6)),J (.st 5 (.s 4) (.s 19)),I 5 (.onil 1),I 6 (.mv (.s 20))])
def ZU0:PC :=
 (.reg [4,5,7,26] [I 21 (.mv (.s 7)),I 22 (.nilck (.s 21)),I 23 (.fadr 1 (.s 22)),I 24 (.ld false 1 (.s 23)),I 25 (.len 1 (.s 24)),I 26 (.bin .gtr (.s 25) (V 0))])
def ZU1:PC :=
 (.reg [4,5,7,8,10] [I 28 (.mv (.s 7)),I 29 (C XO [(.s 28)]),I 27 (.mv (.s 29)),I 30 (.ext (.s 27) 0),I 31 (.ext (.s 27) 1),I 32 (.ext (.s 27) 2),I 8 (.mv (.s 30)),I 9 (.mv (.s 31)),I 10 (.mv (.s 32))])
def ZU2:PC :=
 (.reg [4,5,7,8,10,34] [I 33 (.mv (.s 10)),I 34 (.bin .neq (.s 33) (V 0))])
def ZU3:PC :=
 (.reg [4,5,6] [I 35 (.build [(.int .u64 0),(.int .i64 0),(.int .i64 0),(.int .i64 0),(.int .i64 0)] []),I 36 (.mv (.s 10)),J (.st 5 (.s 4) (.s 35)),I 5 (.onil 1),I 6 (.mv (.s 36))])
def ZU4:PC :=
 (.reg [4,5,7] [I 37 (.mv (.s 5)),I 38 (.mv (.s 8)),I 39 (.bslice false 1 [(.int .u64 0)] [(0,(.s 38))]),I 40 (.app 1 8 (.s 37) (.s 39)),I 5 (.mv (.s 40))])
def ZU5:PC :=
 (.seq (.seq ZU0
 (.ite (.s 26)
 .skip
 (.exit 0)))
 (.block 1
 (.seq ZU1
 (.seq (.seq ZU2
 (.ite (.s 34)
 (.seq ZU3
 .ret)
 .skip))
 ZU4))))
def ZRE:PC :=
 (.reg [4,5,6] [I 42 (.mv (.s 7)),I 43 (C ZBK [(.s 42)]),I 41 (.mv (.s 43)),I 44 (.ext (.s 41) 0),I 45 (.ext (.s 41) 1),J (.st 5 (.s 4) (.s 44)),I 6 (.mv (.s 45))])
def ZRF:PC :=
 (.reg [4,5,6] [I 46 (.ld true 5 (.s 4)),I 47 (.mv (.s 5)),I 48 (.mv (.s 6)),J (.st 5 (.s 4) (.s 46)),I 5 (.mv (.s 47)),I 6 (.mv (.s 48))])
def ZMY:PF:=⟨false,
 (.seq ZUw
 (.seq ZUx
 (.seq (.seq ZUy
 (.ite (.s 18)
 (.seq ZUz
 .ret)
 .skip))
 (.seq (.block 0
 (.loop ZU5))
 (.seq ZRE
 (.seq ZRF
 .ret)))))),
 [.c 4 true 5,.s 5,.s 6]⟩
theorem Zb4:Zs Proofs.Tryz.prog false Zb3 Proofs.Tryz.f74=some ZMY:=by kernel_rfl
def ZLV:List Hint:=[H [0,1],H [4]]
def ZJA:PC :=
 (.reg [0,1] [I 4 (.mv (V 0))])
def ZJB:PC :=
 (.reg [4] [I 5 (.mv (.s 0)),I 6 (.cint .u64 (.s 5)),I 7 (.mv (.s 1)),I 8 (.bin .add (.s 7) (V 1)),I 9 (.cint .u64 (.s 8)),I 10 (.bin .rem (.s 6) (.s 9)),I 11 (.cint .i64 (.s 10)),I 4 (.mv (.s 11))])
def ZCU:PF:=⟨false,
 (.seq ZJA
 (.seq ZJB
 .ret)),
 [.s 4]⟩
theorem ZLW:Zs Proofs.Tryz.prog false ZLV Proofs.Tryz.f75=some ZCU:=by kernel_rfl
def ZeT:List Hint:=[H [0,3,4],H [0,3,4,8],H [4,5],H [0,3,4,12],H [4,5],H [0,3,4,16],H [4,5],H [3,4,6],H [3,4,6,27],H [4,5],H [4,5]]
def ZYa:PC :=
 (.reg [0,3,4] [I 3 (.box (.s 1)),I 4 (.box (.v ZT)),I 5 (.mv (V 0))])
def ZYb:PC :=
 (.reg [0,3,4,8] [I 7 (.mv (.s 0)),I 8 (.eqs false 3 [] (.s 7) (.v .nilptr))])
def ZYc:PC :=
 (.reg [4,5] [I 9 (.build [(.int .u64 0),(.int .i64 0),(.int .i64 0),(.int .i64 0),(.int .i64 0),(.str []),.nils] []),J (.st 7 (.s 4) (.s 9)),I 5 (.mv (V 1))])
def ZYd:PC :=
 (.reg [0,3,4,12] [I 10 (.ld true 5 (.s 3)),I 11 (.build [(.int .u64 0),(.int .i64 0),(.int .i64 0),(.int .i64 0),(.int .i64 0)] []),I 12 (.eqs false 0 [(0,0),(1,0),(2,0),(3,0),(4,0)] (.s 10) (.s 11))])
def ZYe:PC :=
 (.reg [4,5] [I 13 (.build [(.int .u64 0),(.int .i64 0),(.int .i64 0),(.int .i64 0),(.int .i64 0),(.str []),.nils] []),J (.st 7 (.s 4) (.s 13)),I 5 (.mv (V 0))])
def ZYf:PC :=
 (.reg [0,3,4,16] [I 14 (.fadr 0 (.s 3)),I 15 (.ld false 1 (.s 14)),I 16 (.bin .eql (.s 15) (.v (.int .u64 0)))])
def ZYg:PC :=
 (.reg [4,5] [I 17 (.build [(.int .u64 0),(.int .i64 0),(.int .i64 0),(.int .i64 0),(.int .i64 0),(.str []),.nils] []),J (.st 7 (.s 4) (.s 17)),I 5 (.mv (V 2))])
def ZYh:PC :=
 (.reg [3,4,6] [I 18 (.mv (.s 0)),I 19 (.fadr 0 (.s 3)),I 20 (.ld false 1 (.s 19)),I 21 (.fadr 1 (.s 3)),I 22 (.ld false 1 (.s 21)),I 23 (.fadr 2 (.s 3)),I 24 (.ld true 3 (.s 23)),I 25 (C ZDF [(.s 18),(.s 20),(.s 22),(.s 24)]),I 6 (.mv (.s 25))])
def ZYi:PC :=
 (.reg [3,4,6,27] [I 26 (.mv (.s 6)),I 27 (.bin .neq (.s 26) (V 0))])
def ZYj:PC :=
 (.reg [4,5] [I 28 (.build [(.int .u64 0),(.int .i64 0),(.int .i64 0),(.int .i64 0),(.int .i64 0),(.str []),.nils] []),I 29 (.mv (.s 6)),J (.st 7 (.s 4) (.s 28)),I 5 (.mv (.s 29))])
def ZU6:PC :=
 (.reg [4,5] [I 30 (.fadr 0 (.s 3)),I 31 (.ld false 1 (.s 30)),I 32 (.fadr 1 (.s 3)),I 33 (.ld false 1 (.s 32)),I 34 (.fadr 2 (.s 3)),I 35 (.ld true 3 (.s 34)),I 36 (.build [(.int .u64 0),(.int .i64 0),(.int .i64 0),(.int .i64 0),(.int .i64 0),(.str []),.nils] [(0,1,(.s 31)),(1,1,(.s 33)),(2,3,(.s 35))]),J (.st 7 (.s 4) (.s 36)),I 5 (.mv (V 0))])
def ZQu:PF:=⟨false,
 (.seq ZYa
 (.seq (.seq ZYb
 (.ite (.s 8)
 (.seq ZYc
 .ret)
 .skip))
 (.seq (.seq ZYd
 (.ite (.s 12)
 (.seq ZYe
 .ret)
 .skip))
 (.seq (.seq ZYf
 (.ite (.s 16)
 (.seq ZYg
 .ret)
 .skip))
 (.seq (.seq ZYh
 (.seq ZYi
 (.ite (.s 27)
 (.seq ZYj
 .ret)
 .skip)))
 (.seq ZU6
 .ret)))))),
 [.c 4 true 7,.s 5]⟩
theorem ZeU:Zs Proofs.Tryz.prog false ZeT Proofs.Tryz.f82=some ZQu:=by kernel_rfl
def ZJC:List Hint:=[H [0],H [0,7],H [2],H [0,3],H [3],H [3,4,5],H [3,4,5,25],H [3,4,5],H [3,4,5],H [2]]
def ZFM:PC :=
 (.reg [0] [I 2 (.mv (.v .nils))])
def ZFN:PC :=
 (.reg [0,7] [I 6 (.mv (.s 0)),I 7 (.eqs false 3 [] (.s 6) (.v .nilptr))])
def ZFO:PC :=
 (.reg [2] [I 2 (.mv (.v .nils))])
def ZFP:PC :=
 (.reg [0,3] [I 8 (.mv (.s 0)),I 9 (.nilck (.s 8)),I 10 (.fadr 0 (.s 9)),I 11 (.ld false 1 (.s 10)),I 12 (.len 1 (.s 11)),I 13 (.mkslice 1 8 (.int .i64 0) (.s 12) (.s 12)),I 3 (.mv (.s 13))])
def ZFQ:PC :=
 (.reg [3] [I 14 (.mv (.s 3)),I 15 (.mv (.s 0)),I 16 (.nilck (.s 15)),I 17 (.fadr 0 (.s 16)),I 18 (.ld false 1 (.s 17)),I 19 (.cpy 1 (.s 14) (.s 18))])
def ZFR:PC :=
 (.reg [3,4,5] [I 20 (.mv (.s 3)),I 21 (.len 1 (.s 20)),I 22 (.bin .sub (.s 21) (V 1)),I 4 (.mv (V 0)),I 5 (.mv (.s 22))])
def ZFS:PC :=
 (.reg [3,4,5,25] [I 23 (.mv (.s 4)),I 24 (.mv (.s 5)),I 25 (.bin .lss (.s 23) (.s 24))])
def ZFT:PC :=
 (.reg [3,4,5] [I 30 (.mv (.s 3)),I 31 (.mv (.s 4)),I 32 (.mv (.s 3)),I 33 (.mv (.s 5)),I 34 (.mv (.s 3)),I 35 (.mv (.s 5)),I 36 (.ixS 1 (.s 34) (.s 35)),I 37 (.ld false 1 (.s 36)),I 38 (.mv (.s 3)),I 39 (.mv (.s 4)),I 40 (.ixS 1 (.s 38) (.s 39)),I 41 (.ld false 1 (.s 40)),I 42 (.ixS 1 (.s 30) (.s 31)),J (.st 1 (.s 42) (.s 37)),I 43 (.ixS 1 (.s 32) (.s 33)),J (.st 1 (.s 43) (.s 41))])
def ZFU:PC :=
 (.reg [3,4,5] [I 26 (.mv (.s 4)),I 27 (.bin .add (.s 26) (V 1)),I 28 (.mv (.s 5)),I 29 (.bin .sub (.s 28) (V 1)),I 4 (.mv (.s 27)),I 5 (.mv (.s 29))])
def ZFV:PC :=
 (.seq (.seq ZFS
 (.ite (.s 25)
 .skip
 (.exit 0)))
 (.seq (.block 1
 ZFT)
 ZFU))
def ZDp:PC :=
 (.reg [2] [I 44 (.mv (.s 3)),I 2 (.mv (.s 44))])
def ZA9:PF:=⟨false,
 (.seq ZFM
 (.seq (.seq ZFN
 (.ite (.s 7)
 (.seq ZFO
 .ret)
 .skip))
 (.seq ZFP
 (.seq ZFQ
 (.seq (.seq ZFR
 (.block 0
 (.loop ZFV)))
 (.seq ZDp
 .ret)))))),
 [.s 2]⟩
theorem ZJD:Zs Proofs.Tryz.prog false ZJC Proofs.Tryz.f94=some ZA9:=by kernel_rfl
def ZCs:List Hint:=[H [0],H [2]]
def ZBp:PC :=
 (.reg [0] [I 2 (.mv (.v .nils))])
def ZBq:PC :=
 (.reg [2] [I 3 (.mv (.s 0)),I 4 (C Ya [(.s 3),(.v (.int .u8 2))]),I 2 (.mv (.s 4))])
def Y5:PF:=⟨false,
 (.seq ZBp
 (.seq ZBq
 .ret)),
 [.s 2]⟩
theorem ZCt:Zs Proofs.Tryz.prog false ZCs Proofs.Tryz.f95=some Y5:=by kernel_rfl
def ZKN:List Hint:=[H [1],H [1,3,4],H [1,3,15],H [0,1,2],H [1,3,4,5],⟨[0,1,2],[],[],[],[(6,(.hide [(.s 1)])),(10,(.plain (.s 1)))],[]⟩]
def ZHW:PC :=
 (.reg [1] [I 0 (.mv (.v .nilptr)),I 1 (.box (.v ZR)),I 2 (.mv (.v (.bool false)))])
def ZHX:PC :=
 (.reg [1,3,4] [I 7 (C ZDE [(V 8),(.v (.int .u64 4))]),I 6 (.mv (.s 7)),I 8 (.ext (.s 6) 0),I 9 (.ext (.s 6) 1),I 3 (.mv (.s 8)),I 4 (.mv (.s 9))])
def ZHY:PC :=
 (.reg [1,3,15] [I 10 (.mv (.s 3)),I 11 (.eqs false 3 [] (.s 10) (.v .nilptr)),I 12 (.mv (.s 11)),G 13 12 false (.mv (.s 4)),G 14 12 false (.bin .neq (.s 13) (V 0)),I 15 (.pick (.s 12) (.v (.bool true)) (.s 14))])
def ZHZ:PC :=
 (.reg [0,1,2] [I 16 (.build [(.int .u64 0),(.int .i64 0),(.int .i64 0),(.int .i64 0),(.int .i64 0)] []),I 0 (.mv (.v .nilptr)),J (.st 5 (.s 1) (.s 16)),I 2 (.mv (.v (.bool false)))])
def ZHa:PC :=
 (.reg [1,3,4,5] [I 18 (.mv (.s 3)),I 19 (C ZCD [(.s 18),(.v (.str [97,98,99,100,101,102,103,104,105,106,107,108,109,110,111,112,113]))]),I 17 (.mv (.s 19)),I 20 (.ext (.s 17) 0),I 21 (.ext (.s 17) 1),I 5 (.box (.v ZR)),J (.st 5 (.s 5) (.s 20)),I 4 (.mv (.s 21))])
def ZHb:PC :=
 (.reg [0,1,2] [I 22 (.mv (.s 3)),I 23 (.ld true 5 (.s 5)),I 24 (.mv (.s 4)),I 25 (.bin .eql (.s 24) (V 0)),I 26 (.mv (.s 25)),G 27 26 true (.fadr 0 (.s 5)),G 28 26 true (.w (.hide [(.s 1)]) (.ld false 1 (.s 27))),G 29 26 true (.bin .eql (.s 28) (.v (.int .u64 65538))),I 30 (.pick (.s 26) (.s 29) (.v (.bool false))),I 0 (.mv (.s 22)),J (.w (.plain (.s 1)) (.st 5 (.s 1) (.s 23))),I 2 (.mv (.s 30))])
def ZBb:PF:=⟨true,
 (.seq ZHW
 (.seq ZHX
 (.seq (.seq ZHY
 (.ite (.s 15)
 (.seq ZHZ
 .ret)
 .skip))
 (.seq ZHa
 (.seq ZHb
 .ret))))),
 [.s 0,.c 1 true 5,.s 2]⟩
theorem ZKO:Zs Proofs.Tryz.prog true ZKN Proofs.Tryz.f105=some ZBb:=by kernel_rfl
def ZU7:List Hint:=[H [0,3],H [6],H [4]]
def ZOm:PC :=
 (.reg [0,3] [I 3 (.box (.s 1)),I 4 (.mv (V 0))])
def ZOn:PC :=
 (.reg [6] [I 8 (.mv (.s 0)),I 9 (.ld true 5 (.s 3)),I 10 (C YS [(.s 8),(.s 9),(V 0)]),I 7 (.mv (.s 10)),I 11 (.ext (.s 7) 0),I 12 (.ext (.s 7) 1),I 5 (.mv (.s 11)),I 6 (.mv (.s 12))])
def ZOo:PC :=
 (.reg [4] [I 13 (.mv (.s 6)),I 4 (.mv (.s 13))])
def ZJE:PF:=⟨false,
 (.seq ZOm
 (.seq ZOn
 (.seq ZOo
 .ret))),
 [.s 4]⟩
theorem ZU8:Zs Proofs.Tryz.prog false ZU7 Proofs.Tryz.f106=some ZJE:=by kernel_rfl
def ZKP:List Hint:=[H [0,1],H [0,1,18],H [0,1,5],H [0,1,40],H [0,1],H [0,1,60],H [0,1,6],H [0,1,6,75],H [4],H [0,1,7],H [0,1,7,92],H [4],H [0,1,7,8,9],H [0,1,8,9,97,98,99],H [0,1,8,9,97,98,99,100],H [0,1,8,9,11,97,98,99],H [0,1,8,9,11,97,98,99,109],H [0,1,12],H [0,1,12,121],H [4],H [0,1,9],H [0,1,8,9,97,98,99],H [0,1,8,9,97,98,99],H [0,1,130],H [4]]
def ZHc:PC :=
 (.reg [0,1] [I 4 (.mv (V 0))])
def ZHd:PC :=
 (.reg [0,1,18] [I 13 (.mv (.s 0)),I 14 (.nilck (.s 13)),I 15 (.fadr 6 (.s 14)),I 16 (.ld false 1 (.s 15)),I 17 (.len 1 (.s 16)),I 18 (.bin .gtr (.s 17) (V 0))])
def ZHe:PC :=
 (.reg [0,1,5] [I 19 (.mv (.s 0)),I 20 (.nilck (.s 19)),I 21 (.fadr 6 (.s 20)),I 22 (.ld false 1 (.s 21)),I 23 (.mv (.s 0)),I 24 (.nilck (.s 23)),I 25 (.fadr 6 (.s 24)),I 26 (.ld false 1 (.s 25)),I 27 (.len 1 (.s 26)),I 28 (.bin .sub (.s 27) (V 1)),I 29 (.ixS 5 (.s 22) (.s 28)),I 30 (.ld true 5 (.s 29)),I 5 (.box (.v (.agg [(.int .i64 0),(.str []),.nils,(.int .i64 0),(.int .i64 0)]))),J (.st 5 (.s 5) (.s 30))])
def ZHf:PC :=
 (.reg [0,1,40] [I 31 (.mv (.s 1)),I 32 (.fadr 3 (.s 5)),I 33 (.ld false 1 (.s 32)),I 34 (.bin .geq (.s 31) (.s 33)),I 35 (.mv (.s 34)),G 36 35 true (.mv (.s 1)),G 37 35 true (.fadr 4 (.s 5)),G 38 35 true (.ld false 1 (.s 37)),G 39 35 true (.bin .lss (.s 36) (.s 38)),I 40 (.pick (.s 35) (.s 39) (.v (.bool false)))])
def ZHg:PC :=
 (.reg [0,1] [I 41 (.mv (.s 0)),I 42 (.mv (.s 0)),I 43 (.nilck (.s 42)),I 44 (.fadr 6 (.s 43)),I 45 (.ld false 1 (.s 44)),I 46 (.mv (.s 0)),I 47 (.nilck (.s 46)),I 48 (.fadr 6 (.s 47)),I 49 (.ld false 1 (.s 48)),I 50 (.len 1 (.s 49)),I 51 (.bin .sub (.s 50) (V 1)),I 52 (.slc 5 (.s 45) none (some (.s 51))),I 53 (.nilck (.s 41)),I 54 (.fadr 6 (.s 53)),J (.st 1 (.s 54) (.s 52))])
def ZHh:PC :=
 (.seq (.seq ZHd
 (.ite (.s 18)
 .skip
 (.exit 0)))
 (.block 1
 (.seq ZHe
 (.seq (.seq ZHf
 (.ite (.s 40)
 (.exit 0)
 .skip))
 ZHg))))
def ZHi:PC :=
 (.reg [0,1,60] [I 55 (.mv (.s 0)),I 56 (.nilck (.s 55)),I 57 (.fadr 6 (.s 56)),I 58 (.ld false 1 (.s 57)),I 59 (.len 1 (.s 58)),I 60 (.bin .eql (.s 59) (V 0))])
def ZHj:PC :=
 (.reg [0,1,6] [I 61 (.mv (.s 0)),I 62 (.mv (.s 0)),I 63 (.nilck (.s 62)),I 64 (.fadr 1 (.s 63)),I 65 (.fadr 0 (.s 64)),I 66 (.ld false 1 (.s 65)),I 67 (.mv (.s 0)),I 68 (.nilck (.s 67)),I 69 (.fadr 1 (.s 68)),I 70 (.fadr 2 (.s 69)),I 71 (.fadr 0 (.s 70)),I 72 (.ld false 1 (.s 71)),I 73 (C Jc [(.s 61),(.s 66),(V 0),(.s 72)]),I 6 (.mv (.s 73))])
def ZHk:PC :=
 (.reg [0,1,6,75] [I 74 (.mv (.s 6)),I 75 (.bin .neq (.s 74) (V 0))])
def ZHl:PC :=
 (.reg [4] [I 76 (.mv (.s 6)),I 4 (.mv (.s 76))])
def ZFW:PC :=
 (.reg [0,1,7] [I 77 (.mv (.s 0)),I 78 (.nilck (.s 77)),I 79 (.fadr 6 (.s 78)),I 80 (.ld false 1 (.s 79)),I 81 (.mv (.s 0)),I 82 (.nilck (.s 81)),I 83 (.fadr 6 (.s 82)),I 84 (.ld false 1 (.s 83)),I 85 (.len 1 (.s 84)),I 86 (.bin .sub (.s 85) (V 1)),I 87 (.ixS 5 (.s 80) (.s 86)),I 88 (.ld true 5 (.s 87)),I 7 (.box (.v (.agg [(.int .i64 0),(.str []),.nils,(.int .i64 0),(.int .i64 0)]))),J (.st 5 (.s 7) (.s 88))])
def ZFX:PC :=
 (.reg [0,1,7,92] [I 89 (.fadr 0 (.s 7)),I 90 (.fadr 0 (.s 89)),I 91 (.ld false 1 (.s 90)),I 92 (.bin .eql (.s 91) (V 0))])
def ZFY:PC :=
 (.reg [4] [I 4 (.mv (V 0))])
def ZFZ:PC :=
 (.reg [0,1,7,8,9] [I 93 (.fadr 3 (.s 7)),I 94 (.ld false 1 (.s 93)),I 8 (.mv (.s 94)),I 9 (.mv (.v (.bool false)))])
def ZFa:PC :=
 (.reg [0,1,8,9,97,98,99] [I 95 (.fadr 0 (.s 7)),I 96 (.fadr 2 (.s 95)),I 97 (.ld false 1 (.s 96)),I 98 (.len 1 (.s 97)),I 99 (.mv (V 0))])
def ZFb:PC :=
 (.reg [0,1,8,9,97,98,99,100] [I 100 (.bin .lss (.s 99) (.s 98))])
def ZFc:PC :=
 (.reg [0,1,8,9,11,97,98,99] [I 101 (.ixS 4 (.s 97) (.s 99)),I 102 (.ld true 4 (.s 101)),I 11 (.box (.v ZK)),J (.st 4 (.s 11) (.s 102))])
def ZFd:PC :=
 (.reg [0,1,8,9,11,97,98,99,109] [I 103 (.mv (.s 1)),I 104 (.mv (.s 8)),I 105 (.fadr 1 (.s 11)),I 106 (.fadr 0 (.s 105)),I 107 (.ld false 1 (.s 106)),I 108 (.bin .add (.s 104) (.s 107)),I 109 (.bin .lss (.s 103) (.s 108))])
def ZFe:PC :=
 (.reg [0,1,12] [I 110 (.mv (.s 0)),I 111 (.fadr 0 (.s 11)),I 112 (.ld false 1 (.s 111)),I 113 (.mv (.s 8)),I 114 (.mv (.s 8)),I 115 (.fadr 1 (.s 11)),I 116 (.fadr 0 (.s 115)),I 117 (.ld false 1 (.s 116)),I 118 (.bin .add (.s 114) (.s 117)),I 119 (C Jc [(.s 110),(.s 112),(.s 113),(.s 118)]),I 12 (.mv (.s 119))])
def ZFf:PC :=
 (.reg [0,1,12,121] [I 120 (.mv (.s 12)),I 121 (.bin .neq (.s 120) (V 0))])
def ZFg:PC :=
 (.reg [4] [I 122 (.mv (.s 12)),I 4 (.mv (.s 122))])
def ZFh:PC :=
 (.reg [0,1,9] [I 9 (.mv (.v (.bool true)))])
def ZFi:PC :=
 (.reg [0,1,8,9,97,98,99] [I 123 (.mv (.s 8)),I 124 (.fadr 1 (.s 11)),I 125 (.fadr 0 (.s 124)),I 126 (.ld false 1 (.s 125)),I 127 (.bin .add (.s 123) (.s 126)),I 8 (.mv (.s 127))])
def ZFj:PC :=
 (.reg [0,1,8,9,97,98,99] [I 128 (.bin .add (.s 99) (V 1)),I 99 (.mv (.s 128))])
def p_cursor_path_enter_24:PC :=
 (.seq ZFb
 (.seq (.ite (.s 100)
 .skip
 (.exit 4))
 (.seq (.block 5
 (.seq ZFc
 (.seq (.seq ZFd
 (.ite (.s 109)
 (.seq (.seq ZFe
 (.seq ZFf
 (.ite (.s 121)
 (.seq ZFg
 .ret)
 .skip)))
 (.seq ZFh
 (.exit 4)))
 .skip))
 ZFi)))
 ZFj)))
def ZFk:PC :=
 (.reg [0,1,130] [I 129 (.mv (.s 9)),I 130 (.un .not (.s 129))])
def ZFl:PC :=
 (.reg [4] [I 4 (.mv (V 23))])
def p_cursor_path_enter_27:PC :=
 (.block 3
 (.seq ZFW
 (.seq (.seq ZFX
 (.ite (.s 92)
 (.seq ZFY
 .ret)
 .skip))
 (.seq ZFZ
 (.seq (.seq ZFa
 (.block 4
 (.loop p_cursor_path_enter_24)))
 (.seq ZFk
 (.ite (.s 130)
 (.seq ZFl
 .ret)
 .skip)))))))
def J1:PF:=⟨true,
 (.seq ZHc
 (.seq (.block 0
 (.loop ZHh))
 (.seq (.seq ZHi
 (.ite (.s 60)
 (.seq ZHj
 (.seq ZHk
 (.ite (.s 75)
 (.seq ZHl
 .ret)
 .skip)))
 .skip))
 (.block 2
 (.loop p_cursor_path_enter_27))))),
 [.s 4]⟩
theorem ZKQ:Zs Proofs.Tryz.prog true ZKP Proofs.Tryz.f107=some J1:=by kernel_rfl
def ZHm:List Hint:=[H [0],H [0,6],H [2],H [0,13],⟨[4],[],[(11,.inner)],[],[(15,(.here 15))],[15]⟩,H [30],H [2],H [2]]
def ZDq:PC :=
 (.reg [0] [I 2 (.mv (V 0))])
def ZDr:PC :=
 (.reg [0,6] [I 5 (.mv (.s 0)),I 6 (.eqs false 3 [] (.s 5) (.v .nilptr))])
def ZDs:PC :=
 (.reg [2] [I 2 (.mv (V 1))])
def ZDt:PC :=
 (.reg [0,13] [I 7 (.mv (.s 0)),I 8 (.nilck (.s 7)),I 9 (.fadr 0 (.s 8)),I 10 (.fadr 1 (.s 9)),I 11 (.fadr 0 (.s 10)),I 12 (.ld false 1 (.s 11)),I 13 (.bin .neq (.s 12) (.v (.int .u64 0)))])
def ZDu:PC :=
 (.regH [15] [4] [I 15 (.mv (.s 0)),I 16 (.nilck (.s 15)),I 17 (.fadr 0 (.s 16)),I 18 (.fadr 0 (.s 17)),I 19 (.ld false 1 (.s 18)),I 20 (.mv (.s 0)),I 21 (.nilck (.s 20)),I 22 (.fadr 0 (.s 21)),I 23 (.fadr 1 (.s 22)),I 24 (.fadr 0 (.s 23)),I 25 (.ld false 1 (.s 24)),I 26 (.call .inner (.v (.func (.func QJ) [] [])) [(.s 19),(.s 25)]),I 14 (.mv (.s 26)),I 27 (.ext (.s 14) 0),I 28 (.ext (.s 14) 1),I 3 (.w (.here 15) (.box (.v ZN))),J (.st 3 (.s 3) (.s 27)),I 4 (.mv (.s 28))])
def ZDv:PC :=
 (.reg [30] [I 29 (.mv (.s 4)),I 30 (.bin .neq (.s 29) (V 0))])
def ZDw:PC :=
 (.reg [2] [I 2 (.mv (V 10))])
def ZDx:PC :=
 (.reg [2] [I 2 (.mv (V 0))])
def ZAC:PF:=⟨false,
 (.seq ZDq
 (.seq (.seq ZDr
 (.ite (.s 6)
 (.seq ZDs
 .ret)
 .skip))
 (.seq (.seq ZDt
 (.ite (.s 13)
 (.seq ZDu
 (.seq ZDv
 (.ite (.s 30)
 (.seq ZDw
 .ret)
 .skip)))
 .skip))
 (.seq ZDx
 .ret)))),
 [.s 2]⟩
theorem ZHn:Zs Proofs.Tryz.prog false ZHm Proofs.Tryz.f108=some ZAC:=by kernel_rfl
def ZDy:List Hint:=[H [0,1],⟨[0,1,6],[0],[],[],[],[]⟩,H [0,1,6,7],H [0,1,6,7,25],H [0,1,6,7,8,9,10],H [0,1,6,7,8,9,39],H [0,1,6,7,11],H [0,1,6,7,11,49],H [4,5],H [0,1,6,7,8,9,59],H [4,5],H [0,1,6,7,12],H [0,1,6,7,12,73],H [0,1,6,7],H [0,1,6,7],H [4,5]]
def ZCu:PC :=
 (.reg [0,1] [I 4 (.mv (.v (.str []))),I 5 (.mv (V 0))])
def ZCv:PC :=
 (.reg [0,1,6] [I 6 (.boxnil 1)])
def ZCw:PC :=
 (.reg [0,1,6,7] [I 13 (.mkf (.func QC) [] [(.s 6)]),I 7 (.mv (.s 13))])
def ZCx:PC :=
 (.reg [0,1,6,7,25] [I 14 (.mv (.s 0)),I 15 (.nilck (.s 14)),I 16 (.fadr 8 (.s 15)),I 17 (.ld false 1 (.s 16)),I 18 (.mv (.s 0)),I 19 (.nilck (.s 18)),I 20 (.fadr 0 (.s 19)),I 21 (.fadr 1 (.s 20)),I 22 (.fadr 2 (.s 21)),I 23 (.fadr 0 (.s 22)),I 24 (.ld false 1 (.s 23)),I 25 (.bin .lss (.s 17) (.s 24))])
def ZCy:PC :=
 (.reg [0,1,6,7,8,9,10] [I 27 (.mv (.s 0)),I 28 (.nilck (.s 27)),I 29 (.fadr 0 (.s 28)),I 30 (C Xa [(.s 29)]),I 26 (.mv (.s 30)),I 31 (.ext (.s 26) 0),I 32 (.ext (.s 26) 1),I 33 (.ext (.s 26) 2),I 8 (.mv (.s 31)),I 9 (.mv (.s 32)),I 10 (.mv (.s 33))])
def ZCz:PC :=
 (.reg [0,1,6,7,8,9,39] [I 34 (.mv (.s 0)),I 35 (.nilck (.s 34)),I 36 (.fadr 8 (.s 35)),I 37 (.ld false 1 (.s 36)),I 38 (.mv (.s 10)),I 39 (.bin .geq (.s 37) (.s 38))])
def ZC0:PC :=
 (.reg [0,1,6,7,11] [I 40 (.mv (.s 0)),I 41 (.nilck (.s 40)),I 42 (.fadr 0 (.s 41)),I 43 (.mv (.s 0)),I 44 (.nilck (.s 43)),I 45 (.fadr 8 (.s 44)),I 46 (.ld false 1 (.s 45)),I 47 (C QV [(.s 42),(.s 46)]),I 11 (.mv (.s 47))])
def ZC1:PC :=
 (.reg [0,1,6,7,11,49] [I 48 (.mv (.s 11)),I 49 (.bin .neq (.s 48) (V 0))])
def ZC2:PC :=
 (.reg [4,5] [I 50 (.mv (.s 11)),I 4 (.mv (.v (.str []))),I 5 (.mv (.s 50))])
def ZC3:PC :=
 (.reg [0,1,6,7,8,9,59] [I 51 (.mv (.s 0)),I 52 (.nilck (.s 51)),I 53 (.fadr 8 (.s 52)),I 54 (.ld false 1 (.s 53)),I 55 (.mv (.s 9)),I 56 (.bin .sub (.s 54) (.s 55)),I 57 (.mv (.s 8)),I 58 (.len 0 (.s 57)),I 59 (.bin .geq (.s 56) (.s 58))])
def ZCV:PC :=
 (.reg [4,5] [I 4 (.mv (.v (.str []))),I 5 (.mv (V 23))])
def ZCW:PC :=
 (.reg [0,1,6,7,12] [I 60 (.mv (.s 8)),I 61 (.mv (.s 0)),I 62 (.nilck (.s 61)),I 63 (.fadr 8 (.s 62)),I 64 (.ld false 1 (.s 63)),I 65 (.mv (.s 9)),I 66 (.bin .sub (.s 64) (.s 65)),I 67 (.ixStr (.s 60) (.s 66)),I 12 (.mv (.s 67))])
def ZCX:PC :=
 (.reg [0,1,6,7,12,73] [I 68 (.mv (.s 1)),I 69 (.ld false 1 (.s 6)),I 70 (.len 1 (.s 69)),I 71 (.mv (.s 12)),I 72 (.call .norm (.s 68) [(.s 70),(.s 71)]),I 73 (.un .not (.s 72))])
def ZCY:PC :=
 (.reg [0,1,6,7] [I 74 (.mv (.s 7)),I 75 (.mv (.s 12)),I 76 (.call .norm (.s 74) [(.s 75)])])
def ZCZ:PC :=
 (.reg [0,1,6,7] [I 77 (.mv (.s 0)),I 78 (.nilck (.s 77)),I 79 (.fadr 8 (.s 78)),I 80 (.ld false 1 (.s 79)),I 81 (.bin .add (.s 80) (V 1)),I 82 (.nilck (.s 77)),I 83 (.fadr 8 (.s 82)),J (.st 1 (.s 83) (.s 81))])
def ZCa:PC :=
 (.seq (.seq ZCx
 (.ite (.s 25)
 .skip
 (.exit 0)))
 (.block 1
 (.seq ZCy
 (.seq (.seq ZCz
 (.ite (.s 39)
 (.seq (.seq ZC0
 (.seq ZC1
 (.ite (.s 49)
 (.seq ZC2
 .ret)
 .skip)))
 (.exit 1))
 .skip))
 (.seq (.seq ZC3
 (.ite (.s 59)
 (.seq ZCV
 .ret)
 .skip))
 (.seq ZCW
 (.seq (.seq ZCX
 (.ite (.s 73)
 (.exit 0)
 .skip))
 (.seq ZCY
 ZCZ))))))))
def ZCb:PC :=
 (.reg [4,5] [I 84 (.ld false 1 (.s 6)),I 85 (.b2s (.s 84)),I 4 (.mv (.s 85)),I 5 (.mv (V 0))])
def YA:PF:=⟨false,
 (.seq ZCu
 (.seq ZCv
 (.seq ZCw
 (.seq (.block 0
 (.loop ZCa))
 (.seq ZCb
 .ret))))),
 [.s 4,.s 5]⟩
theorem ZDz:Zs Proofs.Tryz.prog false ZDy Proofs.Tryz.f109=some YA:=by kernel_rfl
def ZFm:List Hint:=[H [0,2],H [5]]
def ZDZ:PC :=
 (.reg [0,2] [I 5 (.mv (.v (.bool false)))])
def ZDa:PC :=
 (.reg [5] [I 6 (.mv (.s 0)),I 7 (.ld false 1 (.s 2)),I 8 (.bin .lss (.s 6) (.s 7)),I 5 (.mv (.s 8))])
def Xt:PF:=⟨false,
 (.seq ZDZ
 (.seq ZDa
 .ret)),
 [.s 5]⟩
theorem ZFn:Zs Proofs.Tryz.prog false ZFm Proofs.Tryz.f110=some Xt:=by kernel_rfl
def ZMZ:List Hint:=[H [0,1,4],H [0,1,4,9],H [4,5],H [0,4,6,7],H [0,4,6,21],H [4],H [4,5],H [4,6],H [4,5]]
def ZKR:PC :=
 (.reg [0,1,4] [I 4 (.box (.v ZN)),I 5 (.mv (V 0))])
def ZKS:PC :=
 (.reg [0,1,4,9] [I 8 (.mv (.s 0)),I 9 (.eqs false 3 [] (.s 8) (.v .nilptr))])
def ZKT:PC :=
 (.reg [4,5] [I 10 (.build [(.int .i64 0),(.str []),.nils] []),J (.st 3 (.s 4) (.s 10)),I 5 (.mv (V 1))])
def ZKU:PC :=
 (.reg [0,4,6,7] [I 12 (.mv (.s 0)),I 13 (.nilck (.s 12)),I 14 (.fadr 2 (.s 13)),I 15 (.ld false 1 (.s 14)),I 16 (.mv (.s 1)),I 17 (.look 0 ZN true (.s 15) (.s 16)),I 11 (.mv (.s 17)),I 18 (.ext (.s 11) 0),I 19 (.ext (.s 11) 1),I 6 (.box (.v ZN)),J (.st 3 (.s 6) (.s 18)),I 7 (.mv (.s 19))])
def ZKV:PC :=
 (.reg [0,4,6,21] [I 20 (.mv (.s 7)),I 21 (.un .not (.s 20))])
def ZKW:PC :=
 (.reg [4] [I 22 (.mv (.s 0)),I 23 (.nilck (.s 22)),I 24 (.fadr 5 (.s 23)),I 25 (.ld false 1 (.s 24)),I 26 (.bin .add (.s 25) (V 1)),I 27 (.nilck (.s 22)),I 28 (.fadr 5 (.s 27)),J (.st 1 (.s 28) (.s 26))])
def ZKX:PC :=
 (.reg [4,5] [I 29 (.build [(.int .i64 0),(.str []),.nils] []),J (.st 3 (.s 4) (.s 29)),I 5 (.mv (V 10))])
def ZKY:PC :=
 (.reg [4,6] [I 30 (.fadr 2 (.s 6)),I 31 (.ld false 1 (.s 30)),I 32 (C Z9 [(.s 31)]),I 33 (.fadr 2 (.s 6)),J (.st 1 (.s 33) (.s 32))])
def ZKZ:PC :=
 (.reg [4,5] [I 34 (.ld true 3 (.s 6)),J (.st 3 (.s 4) (.s 34)),I 5 (.mv (V 0))])
def ZDJ:PF:=⟨false,
 (.seq ZKR
 (.seq (.seq ZKS
 (.ite (.s 9)
 (.seq ZKT
 .ret)
 .skip))
 (.seq ZKU
 (.seq (.seq ZKV
 (.ite (.s 21)
 (.seq ZKW
 (.seq ZKX
 .ret))
 .skip))
 (.seq ZKY
 (.seq ZKZ
 .ret)))))),
 [.c 4 true 3,.s 5]⟩
theorem ZMa:Zs Proofs.Tryz.prog false ZMZ Proofs.Tryz.f111=some ZDJ:=by kernel_rfl
def ZJF:List Hint:=[H [0,1],H [0,1],H [0,1,15],H [4],H [4]]
def ZFo:PC :=
 (.reg [0,1] [I 4 (.mv (V 0))])
def ZFp:PC :=
 (.reg [0,1] [I 5 (.mv (.s 0)),I 6 (.mv (.s 1)),I 7 (.nilck (.s 5)),I 8 (.fadr 8 (.s 7)),J (.st 1 (.s 8) (.s 6))])
def ZFq:PC :=
 (.reg [0,1,15] [I 9 (.mv (.s 0)),I 10 (.nilck (.s 9)),I 11 (.fadr 0 (.s 10)),I 12 (.fadr 1 (.s 11)),I 13 (.fadr 0 (.s 12)),I 14 (.ld false 1 (.s 13)),I 15 (.bin .eql (.s 14) (.v (.int .u64 0)))])
def ZFr:PC :=
 (.reg [4] [I 4 (.mv (V 0))])
def ZFs:PC :=
 (.reg [4] [I 16 (.mv (.s 0)),I 17 (.nilck (.s 16)),I 18 (.fadr 0 (.s 17)),I 19 (.mv (.s 0)),I 20 (.nilck (.s 19)),I 21 (.fadr 0 (.s 20)),I 22 (.mv (.s 1)),I 23 (C Ym [(.s 21),(.s 22)]),I 24 (C QV [(.s 18),(.s 23)]),I 4 (.mv (.s 24))])
def Yp:PF:=⟨false,
 (.seq ZFo
 (.seq ZFp
 (.seq (.seq ZFq
 (.ite (.s 15)
 (.seq ZFr
 .ret)
 .skip))
 (.seq ZFs
 .ret)))),
 [.s 4]⟩
theorem ZJG:Zs Proofs.Tryz.prog false ZJF Proofs.Tryz.f112=some Yp:=by kernel_rfl
def Zb5:List Hint:=[H [0,3],H [0,3,9],H [4],H [0,3,12],H [4],H [0,3,15],H [4],H [3,5,6],H [3,5,6,24],H [4],H [3,5,6,7],H [45],H [4],H [4]]
def ZU9:PC :=
 (.reg [0,3] [I 3 (.box (.s 1)),I 4 (.mv (V 0))])
def ZVA:PC :=
 (.reg [0,3,9] [I 8 (.mv (.s 0)),I 9 (.eqs false 3 [] (.s 8) (.v .nilptr))])
def ZVB:PC :=
 (.reg [4] [I 4 (.mv (V 1))])
def ZVC:PC :=
 (.reg [0,3,12] [I 10 (.ld true 5 (.s 3)),I 11 (.build [(.int .u64 0),(.int .i64 0),(.int .i64 0),(.int .i64 0),(.int .i64 0)] []),I 12 (.eqs false 0 [(0,0),(1,0),(2,0),(3,0),(4,0)] (.s 10) (.s 11))])
def ZVD:PC :=
 (.reg [4] [I 4 (.mv (V 0))])
def ZVE:PC :=
 (.reg [0,3,15] [I 13 (.fadr 0 (.s 3)),I 14 (.ld false 1 (.s 13)),I 15 (.bin .eql (.s 14) (.v (.int .u64 0)))])
def ZVF:PC :=
 (.reg [4] [I 4 (.mv (V 2))])
def ZVG:PC :=
 (.reg [3,5,6] [I 17 (.mv (.s 0)),I 18 (.fadr 0 (.s 3)),I 19 (.ld false 1 (.s 18)),I 20 (C QJ [(.s 17),(.s 19)]),I 16 (.mv (.s 20)),I 21 (.ext (.s 16) 0),I 22 (.ext (.s 16) 1),I 5 (.box (.v ZN)),J (.st 3 (.s 5) (.s 21)),I 6 (.mv (.s 22))])
def ZVH:PC :=
 (.reg [3,5,6,24] [I 23 (.mv (.s 6)),I 24 (.bin .neq (.s 23) (V 0))])
def ZVI:PC :=
 (.reg [4] [I 25 (.mv (.s 6)),I 4 (.mv (.s 25))])
def ZRG:PC :=
 (.reg [3,5,6,7] [I 27 (.ld true 3 (.s 5)),I 28 (C J9 [(.s 27)]),I 26 (.mv (.s 28)),I 29 (.ext (.s 26) 0),I 30 (.ext (.s 26) 1),I 7 (.box (.v ZM)),J (.st 3 (.s 7) (.s 29)),I 6 (.mv (.s 30))])
def ZRH:PC :=
 (.reg [45] [I 31 (.mv (.s 6)),I 32 (.bin .neq (.s 31) (V 0)),I 33 (.mv (.s 32)),G 34 33 false (.fadr 0 (.s 5)),G 35 33 false (.ld false 1 (.s 34)),G 36 33 false (.fadr 1 (.s 3)),G 37 33 false (.ld false 1 (.s 36)),G 38 33 false (.bin .neq (.s 35) (.s 37)),I 39 (.pick (.s 33) (.v (.bool true)) (.s 38)),I 40 (.mv (.s 39)),G 41 40 false (.ld true 3 (.s 7)),G 42 40 false (.fadr 2 (.s 3)),G 43 40 false (.ld true 3 (.s 42)),G 44 40 false (.eqs true 0 [(0,0),(1,0),(2,0)] (.s 41) (.s 43)),I 45 (.pick (.s 40) (.v (.bool true)) (.s 44))])
def ZRI:PC :=
 (.reg [4] [I 4 (.mv (V 23))])
def ZRJ:PC :=
 (.reg [4] [I 4 (.mv (V 0))])
def ZMb:PF:=⟨false,
 (.seq ZU9
 (.seq (.seq ZVA
 (.ite (.s 9)
 (.seq ZVB
 .ret)
 .skip))
 (.seq (.seq ZVC
 (.ite (.s 12)
 (.seq ZVD
 .ret)
 .skip))
 (.seq (.seq ZVE
 (.ite (.s 15)
 (.seq ZVF
 .ret)
 .skip))
 (.seq ZVG
 (.seq (.seq ZVH
 (.ite (.s 24)
 (.seq ZVI
 .ret)
 .skip))
 (.seq ZRG
 (.seq (.seq ZRH
 (.ite (.s 45)
 (.seq ZRI
 .ret)
 .skip))
 (.seq ZRJ
 .ret))))))))),
 [.s 4]⟩
theorem Zb6:Zs Proofs.Tryz.prog false Zb5 Proofs.Tryz.f116=some ZMb:=by kernel_rfl
def ZFt:List Hint:=[H [0,1],H [4]]
def ZDb:PC :=
 (.reg [0,1] [I 4 (.mv (.v (.bool false)))])
def ZDc:PC :=
 (.reg [4] [I 5 (.mv (.s 0)),I 6 (.bin .eql (.s 5) (V 0)),I 7 (.mv (.s 6)),G 8 7 false (.mv (.s 1)),G 9 7 false (C ZDT [(.s 8)]),I 10 (.pick (.s 7) (.v (.bool true)) (.s 9)),I 4 (.mv (.s 10))])
def Xu:PF:=⟨false,
 (.seq ZDb
 (.seq ZDc
 .ret)),
 [.s 4]⟩
theorem ZFu:Zs Proofs.Tryz.prog false ZFt Proofs.Tryz.f120=some Xu:=by kernel_rfl
def ZYk:List Hint:=[H [0],H [2]]
def ZRK:PC :=
 (.reg [0] [I 2 (.mv (.v (.bool false)))])
def ZRL:PC :=
 (.reg [2] [I 3 (.mv (.s 0)),I 4 (.bin .geq (.s 3) (.v (.int .u8 128))),I 5 (.mv (.s 4)),G 6 5 true (.mv (.s 0)),G 7 5 true (.bin .lss (.s 6) (.v (.int .u8 192))),I 8 (.pick (.s 5) (.s 7) (.v (.bool false))),I 2 (.mv (.s 8))])
def ZKj:PF:=⟨false,
 (.seq ZRK
 (.seq ZRL
 .ret)),
 [.s 2]⟩
theorem ZYl:Zs Proofs.Tryz.prog false ZYk Proofs.Tryz.f121=some ZKj:=by kernel_rfl
def ZLX:List Hint:=[H [0],H [0,11],H [2,3,4],H [5],H [2,3,4]]
def ZJH:PC :=
 (.reg [0] [I 2 (.mv (.v (.str []))),I 3 (.mv (V 0)),I 4 (.mv (V 0))])
def ZJI:PC :=
 (.reg [0,11] [I 6 (.mv (.s 0)),I 7 (.nilck (.s 6)),I 8 (.fadr 6 (.s 7)),I 9 (.ld false 1 (.s 8)),I 10 (.len 1 (.s 9)),I 11 (.bin .eql (.s 10) (V 0))])
def ZJJ:PC :=
 (.reg [2,3,4] [I 2 (.mv (.v (.str []))),I 3 (.mv (V 0)),I 4 (.mv (V 0))])
def ZJK:PC :=
 (.reg [5] [I 12 (.mv (.s 0)),I 13 (.nilck (.s 12)),I 14 (.fadr 6 (.s 13)),I 15 (.ld false 1 (.s 14)),I 16 (.mv (.s 0)),I 17 (.nilck (.s 16)),I 18 (.fadr 6 (.s 17)),I 19 (.ld false 1 (.s 18)),I 20 (.len 1 (.s 19)),I 21 (.bin .sub (.s 20) (V 1)),I 22 (.ixS 5 (.s 15) (.s 21)),I 23 (.ld true 5 (.s 22)),I 5 (.box (.v (.agg [(.int .i64 0),(.str []),.nils,(.int .i64 0),(.int .i64 0)]))),J (.st 5 (.s 5) (.s 23))])
def ZJL:PC :=
 (.reg [2,3,4] [I 24 (.fadr 0 (.s 5)),I 25 (.fadr 1 (.s 24)),I 26 (.ld false 1 (.s 25)),I 27 (.fadr 3 (.s 5)),I 28 (.ld false 1 (.s 27)),I 29 (.fadr 4 (.s 5)),I 30 (.ld false 1 (.s 29)),I 2 (.mv (.s 26)),I 3 (.mv (.s 28)),I 4 (.mv (.s 30))])
def ZCc:PF:=⟨false,
 (.seq ZJH
 (.seq (.seq ZJI
 (.ite (.s 11)
 (.seq ZJJ
 .ret)
 .skip))
 (.seq ZJK
 (.seq ZJL
 .ret)))),
 [.s 2,.s 3,.s 4]⟩
theorem ZLY:Zs Proofs.Tryz.prog false ZLX Proofs.Tryz.f125=some ZCc:=by kernel_rfl
def ZVJ:List Hint:=[H [0,1],H [0,1,21],H [4,5],⟨[0,6],[],[],[],[(1,(.here 1)),(5,(.here 5)),(3,(.here 3))],[3,1,5]⟩,H [0,6,31,32],H [0,6,31,32,33],H [0,6,7,31,32],H [0,6,7,31,32],H [0,6,31,32],H [0,6,31,32],H [4,5]]
def ZOp:PC :=
 (.reg [0,1] [I 4 (.mv (.v .nilptr)),I 5 (.mv (V 0))])
def ZOq:PC :=
 (.reg [0,1,21] [I 8 (.mv (.s 0)),I 9 (.bin .lss (.s 8) (V 1)),I 10 (.mv (.s 9)),G 11 10 false (.mv (.s 0)),G 12 10 false (.bin .gtr (.s 11) (V 16384)),I 13 (.pick (.s 10) (.v (.bool true)) (.s 12)),I 14 (.mv (.s 13)),G 15 14 false (.mv (.s 1)),G 16 14 false (.bin .lss (.s 15) (.v (.int .u64 1))),I 17 (.pick (.s 14) (.v (.bool true)) (.s 16)),I 18 (.mv (.s 17)),G 19 18 false (.mv (.s 1)),G 20 18 false (.bin .gtr (.s 19) (.v (.int .u64 4294967295))),I 21 (.pick (.s 18) (.v (.bool true)) (.s 20))])
def ZOr:PC :=
 (.reg [4,5] [I 4 (.mv (.v .nilptr)),I 5 (.mv (V 3))])
def ZOs:PC :=
 (.regH [3,1,5] [0,6] [I 22 (.mv (.s 0)),I 23 (.w (.here 1) (.mkslice 1 8 (.int .i64 0) (.s 22) (.s 22))),I 24 (.mv (.s 0)),I 25 (.w (.here 3) (.mkslice 1 1 (.int .u8 0) (.s 24) (.s 24))),I 26 (.mv (.s 0)),I 27 (.w (.here 5) (.mkslice 1 8 (.int .u64 0) (.s 26) (.s 26))),I 28 (.mv (.s 1)),I 29 (.build [.nils,.nils,.nils,(.int .u64 0)] [(0,1,(.s 23)),(1,1,(.s 25)),(2,1,(.s 27)),(3,1,(.s 28))]),I 30 (.box (.s 29)),I 6 (.mv (.s 30))])
def ZOt:PC :=
 (.reg [0,6,31,32] [I 31 (.mv (.s 0)),I 32 (.mv (V 0))])
def ZOu:PC :=
 (.reg [0,6,31,32,33] [I 33 (.bin .lss (.s 32) (.s 31))])
def ZOv:PC :=
 (.reg [0,6,7,31,32] [I 34 (.mv (.s 32)),I 7 (.mv (.s 34))])
def ZOw:PC :=
 (.reg [0,6,7,31,32] [I 35 (.mv (.s 6)),I 36 (.nilck (.s 35)),I 37 (.fadr 0 (.s 36)),I 38 (.ld false 1 (.s 37)),I 39 (.mv (.s 7)),I 40 (.mv (.s 0)),I 41 (.bin .sub (.s 40) (V 1)),I 42 (.mv (.s 7)),I 43 (.bin .sub (.s 41) (.s 42)),I 44 (.ixS 1 (.s 38) (.s 39)),J (.st 1 (.s 44) (.s 43))])
def ZOx:PC :=
 (.reg [0,6,31,32] [I 45 (.mv (.s 6)),I 46 (.nilck (.s 45)),I 47 (.fadr 2 (.s 46)),I 48 (.ld false 1 (.s 47)),I 49 (.mv (.s 7)),I 50 (.ixS 1 (.s 48) (.s 49)),J (.st 1 (.s 50) (.v (.int .u64 1)))])
def ZOy:PC :=
 (.reg [0,6,31,32] [I 51 (.bin .add (.s 32) (V 1)),I 32 (.mv (.s 51))])
def ZMc:PC :=
 (.seq ZOu
 (.seq (.ite (.s 33)
 .skip
 (.exit 0))
 (.seq (.block 1
 (.seq ZOv
 (.seq ZOw
 ZOx)))
 ZOy)))
def ZMd:PC :=
 (.reg [4,5] [I 52 (.mv (.s 6)),I 4 (.mv (.s 52)),I 5 (.mv (V 0))])
def ZJM:PF:=⟨true,
 (.seq ZOp
 (.seq (.seq ZOq
 (.ite (.s 21)
 (.seq ZOr
 .ret)
 .skip))
 (.seq ZOs
 (.seq (.seq ZOt
 (.block 0
 (.loop ZMc)))
 (.seq ZMd
 .ret))))),
 [.s 4,.s 5]⟩
theorem ZVK:Zs Proofs.Tryz.prog true ZVJ Proofs.Tryz.f126=some ZJM:=by kernel_rfl
def Zb7:List Hint:=[H [0,2],H [0,2,14],H [2,3],⟨[0,2,4],[0],[],[],[],[]⟩,H [2,4,17,18,19],H [2,4,17,18,19,20],H [2,4,6,17,18,19],H [2,4,17,18,19],H [2,4,17,18,19],H [2,4,31],H [2,4,7,8],H [2,4,7,8,39],H [2,3],⟨[2,4,7,9],[0],[],[],[],[]⟩,H [2,4,9,42,43,44],H [2,4,9,42,43,44,45],H [2,4,9,11,42,43,44],H [2,4,9,11,42,43,44],H [2,4,9,42,43,44],H [2,4,9,42,43,44],H [2,4],H [2,3]]
def ZVL:PC :=
 (.reg [0,2] [I 2 (.box (.v ZT)),I 3 (.mv (V 0))])
def ZVM:PC :=
 (.reg [0,2,14] [I 12 (.mv (.s 0)),I 13 (.len 0 (.s 12)),I 14 (.bin .gtr (.s 13) (V 65536))])
def ZVN:PC :=
 (.reg [2,3] [I 15 (.build [(.int .u64 0),(.int .i64 0),(.int .i64 0),(.int .i64 0),(.int .i64 0),(.str []),.nils] []),J (.st 7 (.s 2) (.s 15)),I 3 (.mv (V 5))])
def ZVO:PC :=
 (.reg [0,2,4] [I 4 (.onil 7)])
def ZVP:PC :=
 (.reg [2,4,17,18,19] [I 16 (.mv (.s 0)),I 17 (C ZCI [(.s 16)]),I 18 (.len 1 (.s 17)),I 19 (.mv (V 0))])
def ZVQ:PC :=
 (.reg [2,4,17,18,19,20] [I 20 (.bin .lss (.s 19) (.s 18))])
def ZVR:PC :=
 (.reg [2,4,6,17,18,19] [I 21 (.ixS 1 (.s 17) (.s 19)),I 22 (.ld false 1 (.s 21)),I 6 (.mv (.s 22))])
def ZVS:PC :=
 (.reg [2,4,17,18,19] [I 23 (.mv (.s 4)),I 24 (.mv (.s 6)),I 25 (.build [(.int .u64 0),(.int .i64 0),(.int .i64 0),(.int .i64 0),(.int .i64 0),(.str []),.nils] [(5,1,(.s 24))]),I 26 (.bslice false 7 [ZT] [(0,(.s 25))]),I 27 (.app 7 80 (.s 23) (.s 26)),I 4 (.mv (.s 27))])
def ZVT:PC :=
 (.reg [2,4,17,18,19] [I 28 (.bin .add (.s 19) (V 1)),I 19 (.mv (.s 28))])
def ZVU:PC :=
 (.seq ZVQ
 (.seq (.ite (.s 20)
 .skip
 (.exit 0))
 (.seq (.block 1
 (.seq ZVR
 ZVS))
 ZVT)))
def ZRM:PC :=
 (.reg [2,4,31] [I 29 (.mv (.s 4)),I 30 (.len 1 (.s 29)),I 31 (.bin .gtr (.s 30) (V 1))])
def ZRN:PC :=
 (.reg [2,4,7,8] [I 33 (.mv (.s 4)),I 34 (.len 1 (.s 33)),I 35 (C ZEl [(.s 34),(V 4)]),I 32 (.mv (.s 35)),I 36 (.ext (.s 32) 0),I 37 (.ext (.s 32) 1),I 7 (.mv (.s 36)),I 8 (.mv (.s 37))])
def ZRO:PC :=
 (.reg [2,4,7,8,39] [I 38 (.mv (.s 8)),I 39 (.bin .neq (.s 38) (V 0))])
def ZRP:PC :=
 (.reg [2,3] [I 40 (.build [(.int .u64 0),(.int .i64 0),(.int .i64 0),(.int .i64 0),(.int .i64 0),(.str []),.nils] []),I 41 (.mv (.s 8)),J (.st 7 (.s 2) (.s 40)),I 3 (.mv (.s 41))])
def ZRQ:PC :=
 (.reg [2,4,7,9] [I 9 (.onil 7)])
def ZRR:PC :=
 (.reg [2,4,9,42,43,44] [I 42 (.mv (.s 7)),I 43 (.len 1 (.s 42)),I 44 (.mv (V 0))])
def ZRS:PC :=
 (.reg [2,4,9,42,43,44,45] [I 45 (.bin .lss (.s 44) (.s 43))])
def ZRT:PC :=
 (.reg [2,4,9,11,42,43,44] [I 46 (.ixS 1 (.s 42) (.s 44)),I 47 (.ld false 1 (.s 46)),I 11 (.mv (.s 47))])
def ZRU:PC :=
 (.reg [2,4,9,11,42,43,44] [I 48 (.mv (.s 9)),I 49 (.mv (.s 4)),I 50 (.mv (.s 11)),I 51 (.slc 7 (.s 49) none (some (.s 50))),I 52 (C QO [(.s 51)]),I 53 (.bslice false 7 [ZT] [(0,(.s 52))]),I 54 (.app 7 80 (.s 48) (.s 53)),I 9 (.mv (.s 54))])
def ZRV:PC :=
 (.reg [2,4,9,42,43,44] [I 55 (.mv (.s 4)),I 56 (.mv (.s 11)),I 57 (.slc 7 (.s 55) (some (.s 56)) none),I 4 (.mv (.s 57))])
def ZRW:PC :=
 (.reg [2,4,9,42,43,44] [I 58 (.bin .add (.s 44) (V 1)),I 44 (.mv (.s 58))])
def ZRX:PC :=
 (.seq ZRS
 (.seq (.ite (.s 45)
 .skip
 (.exit 4))
 (.seq (.block 5
 (.seq ZRT
 (.seq ZRU
 ZRV)))
 ZRW)))
def ZRY:PC :=
 (.reg [2,4] [I 59 (.mv (.s 9)),I 4 (.mv (.s 59))])
def ZGV:PC :=
 (.seq (.seq ZRM
 (.ite (.s 31)
 .skip
 (.exit 2)))
 (.block 3
 (.seq ZRN
 (.seq (.seq ZRO
 (.ite (.s 39)
 (.seq ZRP
 .ret)
 .skip))
 (.seq ZRQ
 (.seq (.seq ZRR
 (.block 4
 (.loop ZRX)))
 ZRY))))))
def ZGW:PC :=
 (.reg [2,3] [I 60 (.mv (.s 4)),I 61 (C QO [(.s 60)]),J (.st 7 (.s 2) (.s 61)),I 3 (.mv (V 0))])
def ZMe:PF:=⟨false,
 (.seq ZVL
 (.seq (.seq ZVM
 (.ite (.s 14)
 (.seq ZVN
 .ret)
 .skip))
 (.seq ZVO
 (.seq (.seq ZVP
 (.block 0
 (.loop ZVU)))
 (.seq (.block 2
 (.loop ZGV))
 (.seq ZGW
 .ret)))))),
 [.c 2 true 7,.s 3]⟩
theorem Zb8:Zs Proofs.Tryz.prog false Zb7 Proofs.Tryz.f127=some ZMe:=by kernel_rfl
def ZVV:List Hint:=[H [0,2,3,4,6,10],H [0,2,3,4,6,10,12],H [0,2,3,4,6,10,12,24],H [10,11],H [0,2,3,4,6,10,13],H [0,2,3,4,6,10,13,46],H [10,11],H [0,2,3,4,6,10,60],H [10,11],H [0,2,3,4,6,10,67],H [10,11],H [0,3,4,10,14,15,16],H [0,3,4,10,14,15,16,79],H [10,11],H [0,4,10,14,16,18],H [0,4,10,14,16,18,91],H [10,11],H [0,10,14,16,18,19],H [0,10,14,16,18,19,100],H [10,11],H [0,10,14,16,18],H [0,10,14,16,18,111],H [10,11],H [10,14,16],H [10,11]]
def ZOz:PC :=
 (.reg [0,2,3,4,6,10] [I 6 (.box (.s 1)),I 10 (.box (.v ZT)),I 11 (.mv (V 0))])
def ZO0:PC :=
 (.reg [0,2,3,4,6,10,12] [I 20 (.mv (.s 0)),I 21 (.ld true 7 (.s 6)),I 22 (C YM [(.s 20),(.s 21)]),I 12 (.mv (.s 22))])
def ZO1:PC :=
 (.reg [0,2,3,4,6,10,12,24] [I 23 (.mv (.s 12)),I 24 (.bin .neq (.s 23) (V 0))])
def ZO2:PC :=
 (.reg [10,11] [I 25 (.build [(.int .u64 0),(.int .i64 0),(.int .i64 0),(.int .i64 0),(.int .i64 0),(.str []),.nils] []),I 26 (.mv (.s 12)),J (.st 7 (.s 10) (.s 25)),I 11 (.mv (.s 26))])
def ZO3:PC :=
 (.reg [0,2,3,4,6,10,13] [I 27 (.ld true 7 (.s 6)),I 28 (C Qp [(.s 27)]),I 13 (.mv (.s 28))])
def ZO4:PC :=
 (.reg [0,2,3,4,6,10,13,46] [I 29 (.mv (.s 2)),I 30 (.bin .lss (.s 29) (V 0)),I 31 (.mv (.s 30)),G 32 31 false (.mv (.s 2)),G 33 31 false (.mv (.s 13)),G 34 31 false (.bin .gtr (.s 32) (.s 33)),I 35 (.pick (.s 31) (.v (.bool true)) (.s 34)),I 36 (.mv (.s 35)),G 37 36 false (.mv (.s 3)),G 38 36 false (.bin .lss (.s 37) (V 0)),I 39 (.pick (.s 36) (.v (.bool true)) (.s 38)),I 40 (.mv (.s 39)),G 41 40 false (.mv (.s 3)),G 42 40 false (.mv (.s 13)),G 43 40 false (.mv (.s 2)),G 44 40 false (.bin .sub (.s 42) (.s 43)),G 45 40 false (.bin .gtr (.s 41) (.s 44)),I 46 (.pick (.s 40) (.v (.bool true)) (.s 45))])
def ZO5:PC :=
 (.reg [10,11] [I 47 (.build [(.int .u64 0),(.int .i64 0),(.int .i64 0),(.int .i64 0),(.int .i64 0),(.str []),.nils] []),J (.st 7 (.s 10) (.s 47)),I 11 (.mv (V 3))])
def ZO6:PC :=
 (.reg [0,2,3,4,6,10,60] [I 48 (.mv (.s 13)),I 49 (.mv (.s 3)),I 50 (.bin .sub (.s 48) (.s 49)),I 51 (.mv (.s 4)),I 52 (.len 0 (.s 51)),I 53 (.mnx false (.s 52) (V 65536)),I 54 (.bin .sub (V 65536) (.s 53)),I 55 (.bin .gtr (.s 50) (.s 54)),I 56 (.mv (.s 55)),G 57 56 false (.mv (.s 4)),G 58 56 false (.len 0 (.s 57)),G 59 56 false (.bin .gtr (.s 58) (V 65536)),I 60 (.pick (.s 56) (.v (.bool true)) (.s 59))])
def ZO7:PC :=
 (.reg [10,11] [I 61 (.build [(.int .u64 0),(.int .i64 0),(.int .i64 0),(.int .i64 0),(.int .i64 0),(.str []),.nils] []),J (.st 7 (.s 10) (.s 61)),I 11 (.mv (V 5))])
def ZO8:PC :=
 (.reg [0,2,3,4,6,10,67] [I 62 (.mv (.s 3)),I 63 (.bin .eql (.s 62) (V 0)),I 64 (.mv (.s 63)),G 65 64 true (.mv (.s 4)),G 66 64 true (.bin .eql (.s 65) (.v (.str []))),I 67 (.pick (.s 64) (.s 66) (.v (.bool false)))])
def ZMf:PC :=
 (.reg [10,11] [I 68 (.ld true 7 (.s 6)),I 69 (C ZCH [(.s 68)]),J (.st 7 (.s 10) (.s 69)),I 11 (.mv (V 0))])
def ZMg:PC :=
 (.reg [0,3,4,10,14,15,16] [I 71 (.mv (.s 0)),I 72 (.ld true 7 (.s 6)),I 73 (.mv (.s 2)),I 74 (C ZAO [(.s 71),(.s 72),(.s 73)]),I 70 (.mv (.s 74)),I 75 (.ext (.s 70) 0),I 76 (.ext (.s 70) 1),I 77 (.ext (.s 70) 2),I 14 (.box (.v ZT)),I 15 (.box (.v ZT)),J (.st 7 (.s 14) (.s 75)),J (.st 7 (.s 15) (.s 76)),I 16 (.mv (.s 77))])
def ZMh:PC :=
 (.reg [0,3,4,10,14,15,16,79] [I 78 (.mv (.s 16)),I 79 (.bin .neq (.s 78) (V 0))])
def ZMi:PC :=
 (.reg [10,11] [I 80 (.build [(.int .u64 0),(.int .i64 0),(.int .i64 0),(.int .i64 0),(.int .i64 0),(.str []),.nils] []),I 81 (.mv (.s 16)),J (.st 7 (.s 10) (.s 80)),I 11 (.mv (.s 81))])
def ZMj:PC :=
 (.reg [0,4,10,14,16,18] [I 83 (.mv (.s 0)),I 84 (.ld true 7 (.s 15)),I 85 (.mv (.s 3)),I 86 (C ZAO [(.s 83),(.s 84),(.s 85)]),I 82 (.mv (.s 86)),I 87 (.ext (.s 82) 0),I 88 (.ext (.s 82) 1),I 89 (.ext (.s 82) 2),I 17 (.box (.v ZT)),I 18 (.box (.v ZT)),J (.st 7 (.s 17) (.s 87)),J (.st 7 (.s 18) (.s 88)),I 16 (.mv (.s 89))])
def ZMk:PC :=
 (.reg [0,4,10,14,16,18,91] [I 90 (.mv (.s 16)),I 91 (.bin .neq (.s 90) (V 0))])
def ZMl:PC :=
 (.reg [10,11] [I 92 (.build [(.int .u64 0),(.int .i64 0),(.int .i64 0),(.int .i64 0),(.int .i64 0),(.str []),.nils] []),I 93 (.mv (.s 16)),J (.st 7 (.s 10) (.s 92)),I 11 (.mv (.s 93))])
def ZMm:PC :=
 (.reg [0,10,14,16,18,19] [I 95 (.mv (.s 4)),I 96 (C Xo [(.s 95)]),I 94 (.mv (.s 96)),I 97 (.ext (.s 94) 0),I 98 (.ext (.s 94) 1),I 19 (.box (.v ZT)),J (.st 7 (.s 19) (.s 97)),I 16 (.mv (.s 98))])
def ZMn:PC :=
 (.reg [0,10,14,16,18,19,100] [I 99 (.mv (.s 16)),I 100 (.bin .neq (.s 99) (V 0))])
def ZMo:PC :=
 (.reg [10,11] [I 101 (.build [(.int .u64 0),(.int .i64 0),(.int .i64 0),(.int .i64 0),(.int .i64 0),(.str []),.nils] []),I 102 (.mv (.s 16)),J (.st 7 (.s 10) (.s 101)),I 11 (.mv (.s 102))])
def ZMp:PC :=
 (.reg [0,10,14,16,18] [I 104 (.mv (.s 0)),I 105 (.ld true 7 (.s 14)),I 106 (.ld true 7 (.s 19)),I 107 (C YY [(.s 104),(.s 105),(.s 106)]),I 103 (.mv (.s 107)),I 108 (.ext (.s 103) 0),I 109 (.ext (.s 103) 1),J (.st 7 (.s 14) (.s 108)),I 16 (.mv (.s 109))])
def ZMq:PC :=
 (.reg [0,10,14,16,18,111] [I 110 (.mv (.s 16)),I 111 (.bin .neq (.s 110) (V 0))])
def ZMr:PC :=
 (.reg [10,11] [I 112 (.build [(.int .u64 0),(.int .i64 0),(.int .i64 0),(.int .i64 0),(.int .i64 0),(.str []),.nils] []),I 113 (.mv (.s 16)),J (.st 7 (.s 10) (.s 112)),I 11 (.mv (.s 113))])
def ZMs:PC :=
 (.reg [10,14,16] [I 115 (.mv (.s 0)),I 116 (.ld true 7 (.s 14)),I 117 (.ld true 7 (.s 18)),I 118 (C YY [(.s 115),(.s 116),(.s 117)]),I 114 (.mv (.s 118)),I 119 (.ext (.s 114) 0),I 120 (.ext (.s 114) 1),J (.st 7 (.s 14) (.s 119)),I 16 (.mv (.s 120))])
def ZMt:PC :=
 (.reg [10,11] [I 121 (.ld true 7 (.s 14)),I 122 (C ZCH [(.s 121)]),I 123 (.mv (.s 16)),J (.st 7 (.s 10) (.s 122)),I 11 (.mv (.s 123))])
def ZJN:PF:=⟨false,
 (.seq ZOz
 (.seq (.seq ZO0
 (.seq ZO1
 (.ite (.s 24)
 (.seq ZO2
 .ret)
 .skip)))
 (.seq ZO3
 (.seq (.seq ZO4
 (.ite (.s 46)
 (.seq ZO5
 .ret)
 .skip))
 (.seq (.seq ZO6
 (.ite (.s 60)
 (.seq ZO7
 .ret)
 .skip))
 (.seq (.seq ZO8
 (.ite (.s 67)
 (.seq ZMf
 .ret)
 .skip))
 (.seq ZMg
 (.seq (.seq ZMh
 (.ite (.s 79)
 (.seq ZMi
 .ret)
 .skip))
 (.seq ZMj
 (.seq (.seq ZMk
 (.ite (.s 91)
 (.seq ZMl
 .ret)
 .skip))
 (.seq ZMm
 (.seq (.seq ZMn
 (.ite (.s 100)
 (.seq ZMo
 .ret)
 .skip))
 (.seq (.seq ZMp
 (.seq ZMq
 (.ite (.s 111)
 (.seq ZMr
 .ret)
 .skip)))
 (.seq ZMs
 (.seq ZMt
 .ret))))))))))))))),
 [.c 10 true 7,.s 11]⟩
theorem ZVW:Zs Proofs.Tryz.prog false ZVV Proofs.Tryz.f134=some ZJN:=by kernel_rfl
def Zb9:List Hint:=[H [0,3],H [0,3,7],H [4],H [0,3,10],H [4],H [3,5],H [3,5,15],H [4],H [19],H [4],H [4]]
def ZVX:PC :=
 (.reg [0,3] [I 3 (.box (.s 1)),I 4 (.mv (V 0))])
def ZVY:PC :=
 (.reg [0,3,7] [I 6 (.mv (.s 0)),I 7 (.eqs false 3 [] (.s 6) (.v .nilptr))])
def ZVZ:PC :=
 (.reg [4] [I 4 (.mv (V 1))])
def ZVa:PC :=
 (.reg [0,3,10] [I 8 (.ld true 7 (.s 3)),I 9 (C Qk [(.s 8)]),I 10 (.bin .eql (.s 9) (V 1))])
def ZVb:PC :=
 (.reg [4] [I 4 (.mv (V 0))])
def ZVc:PC :=
 (.reg [3,5] [I 11 (.mv (.s 0)),I 12 (.ld true 7 (.s 3)),I 13 (C ZBo [(.s 11),(.s 12),(.v (.bool false)),(V 0)]),I 5 (.mv (.s 13))])
def ZVd:PC :=
 (.reg [3,5,15] [I 14 (.mv (.s 5)),I 15 (.bin .neq (.s 14) (V 0))])
def ZVe:PC :=
 (.reg [4] [I 16 (.mv (.s 5)),I 4 (.mv (.s 16))])
def ZVf:PC :=
 (.reg [19] [I 17 (.ld true 7 (.s 3)),I 18 (C Qp [(.s 17)]),I 19 (.bin .gtr (.s 18) (V 65536))])
def ZVg:PC :=
 (.reg [4] [I 4 (.mv (V 5))])
def ZRZ:PC :=
 (.reg [4] [I 4 (.mv (V 0))])
def ZMu:PF:=⟨false,
 (.seq ZVX
 (.seq (.seq ZVY
 (.ite (.s 7)
 (.seq ZVZ
 .ret)
 .skip))
 (.seq (.seq ZVa
 (.ite (.s 10)
 (.seq ZVb
 .ret)
 .skip))
 (.seq (.seq ZVc
 (.seq ZVd
 (.ite (.s 15)
 (.seq ZVe
 .ret)
 .skip)))
 (.seq (.seq ZVf
 (.ite (.s 19)
 (.seq ZVg
 .ret)
 .skip))
 (.seq ZRZ
 .ret)))))),
 [.s 4]⟩
theorem ZcA:Zs Proofs.Tryz.prog false Zb9 Proofs.Tryz.f135=some ZMu:=by kernel_rfl
def ZYm:List Hint:=[H [1,2,3,4],H [1,2,3,4,15],H [2,6,7],H [7],H [5],H [3,8,9],H [3,8,9,33],H [5],H [3,35,36,37],H [3,35,36,37,38],H [3,11,35,36,37],H [3,12,35,36,37],H [3,12,35,36,37,45],H [5],H [3,35,36,37],H [5]]
def ZRa:PC :=
 (.reg [1,2,3,4] [I 4 (.box (.s 0)),I 5 (.mv (V 0))])
def ZRb:PC :=
 (.reg [1,2,3,4,15] [I 13 (.fadr 1 (.s 4)),I 14 (.ld false 1 (.s 13)),I 15 (.bin .eql (.s 14) (V 0))])
def ZRc:PC :=
 (.reg [2,6,7] [I 17 (.ld false 1 (.s 1)),I 18 (.ld true 7 (.s 4)),I 19 (C Xg [(.s 17),(.s 18)]),I 16 (.mv (.s 19)),I 20 (.ext (.s 16) 0),I 21 (.ext (.s 16) 1),I 6 (.mv (.s 20)),I 7 (.mv (.s 21))])
def ZRd:PC :=
 (.reg [7] [I 22 (.ld false 1 (.s 2)),I 23 (.mv (.s 6)),I 24 (.app 1 1 (.s 22) (.s 23)),J (.st 1 (.s 2) (.s 24))])
def ZRe:PC :=
 (.reg [5] [I 25 (.mv (.s 7)),I 5 (.mv (.s 25))])
def ZRf:PC :=
 (.reg [3,8,9] [I 27 (.ld false 1 (.s 1)),I 28 (.ld true 7 (.s 4)),I 29 (C Jr [(.s 27),(.s 28)]),I 26 (.mv (.s 29)),I 30 (.ext (.s 26) 0),I 31 (.ext (.s 26) 1),I 8 (.mv (.s 30)),I 9 (.mv (.s 31))])
def ZRg:PC :=
 (.reg [3,8,9,33] [I 32 (.mv (.s 9)),I 33 (.bin .neq (.s 32) (V 0))])
def ZRh:PC :=
 (.reg [5] [I 34 (.mv (.s 9)),I 5 (.mv (.s 34))])
def ZRi:PC :=
 (.reg [3,35,36,37] [I 35 (.mv (.s 8)),I 36 (.len 1 (.s 35)),I 37 (.mv (V 0))])
def ZRj:PC :=
 (.reg [3,35,36,37,38] [I 38 (.bin .lss (.s 37) (.s 36))])
def ZO9:PC :=
 (.reg [3,11,35,36,37] [I 39 (.ixS 7 (.s 35) (.s 37)),I 40 (.ld true 7 (.s 39)),I 11 (.box (.v ZT)),J (.st 7 (.s 11) (.s 40))])
def ZPA:PC :=
 (.reg [3,12,35,36,37] [I 41 (.ld false 1 (.s 3)),I 42 (.ld true 7 (.s 11)),I 43 (.call .norm (.s 41) [(.s 42)]),I 12 (.mv (.s 43))])
def ZPB:PC :=
 (.reg [3,12,35,36,37,45] [I 44 (.mv (.s 12)),I 45 (.bin .neq (.s 44) (V 0))])
def ZPC:PC :=
 (.reg [5] [I 46 (.mv (.s 12)),I 5 (.mv (.s 46))])
def ZPD:PC :=
 (.reg [3,35,36,37] [I 47 (.bin .add (.s 37) (V 1)),I 37 (.mv (.s 47))])
def ZPE:PC :=
 (.seq ZRj
 (.seq (.ite (.s 38)
 .skip
 (.exit 0))
 (.seq (.block 1
 (.seq ZO9
 (.seq ZPA
 (.seq ZPB
 (.ite (.s 45)
 (.seq ZPC
 .ret)
 .skip)))))
 ZPD)))
def ZPF:PC :=
 (.reg [5] [I 5 (.mv (V 0))])
def ZKk:PF:=⟨false,
 (.seq ZRa
 (.seq (.seq ZRb
 (.ite (.s 15)
 (.seq ZRc
 (.seq ZRd
 (.seq ZRe
 .ret)))
 .skip))
 (.seq ZRf
 (.seq (.seq ZRg
 (.ite (.s 33)
 (.seq ZRh
 .ret)
 .skip))
 (.seq (.seq ZRi
 (.block 0
 (.loop ZPE)))
 (.seq ZPF
 .ret)))))),
 [.s 5]⟩
theorem ZYn:Zs Proofs.Tryz.prog false ZYm Proofs.Tryz.f136=some ZKk:=by kernel_rfl
def ZeV:List Hint:=[H [0,3],H [0,3,10],H [4,5],H [6,7],H [4,5]]
def ZYo:PC :=
 (.reg [0,3] [I 3 (.box (.s 1)),I 4 (.mv (.v (.str []))),I 5 (.mv (V 0))])
def ZYp:PC :=
 (.reg [0,3,10] [I 8 (.fadr 0 (.s 3)),I 9 (.ld false 1 (.s 8)),I 10 (.bin .eql (.s 9) (.v (.int .u64 0)))])
def ZYq:PC :=
 (.reg [4,5] [I 11 (.fadr 5 (.s 3)),I 12 (.ld false 1 (.s 11)),I 4 (.mv (.s 12)),I 5 (.mv (V 0))])
def ZYr:PC :=
 (.reg [6,7] [I 14 (.mv (.s 0)),I 15 (.fadr 0 (.s 3)),I 16 (.ld false 1 (.s 15)),I 17 (C QJ [(.s 14),(.s 16)]),I 13 (.mv (.s 17)),I 18 (.ext (.s 13) 0),I 19 (.ext (.s 13) 1),I 6 (.box (.v ZN)),J (.st 3 (.s 6) (.s 18)),I 7 (.mv (.s 19))])
def ZYs:PC :=
 (.reg [4,5] [I 20 (.fadr 1 (.s 6)),I 21 (.ld false 1 (.s 20)),I 22 (.mv (.s 7)),I 4 (.mv (.s 21)),I 5 (.mv (.s 22))])
def ZQv:PF:=⟨false,
 (.seq ZYo
 (.seq (.seq ZYp
 (.ite (.s 10)
 (.seq ZYq
 .ret)
 .skip))
 (.seq ZYr
 (.seq ZYs
 .ret)))),
 [.s 4,.s 5]⟩
theorem ZeW:Zs Proofs.Tryz.prog false ZeV Proofs.Tryz.f137=some ZQv:=by kernel_rfl
def ZRk:List Hint:=[H [0,3],H [0,3,13],H [4,5],H [6,7],H [6,7,24],H [4,5],⟨[6,8],[0],[],[],[],[]⟩,H [6,8,27,28,29],H [6,8,27,28,29,30],H [6,8,10,27,28,29],H [6,8,27,28,29],H [6,8,27,28,29],H [8,47],H [4,5],H [4,5]]
def ZMv:PC :=
 (.reg [0,3] [I 3 (.box (.s 1)),I 4 (.mv (.v .nils)),I 5 (.mv (V 0))])
def ZMw:PC :=
 (.reg [0,3,13] [I 11 (.fadr 0 (.s 3)),I 12 (.ld false 1 (.s 11)),I 13 (.bin .eql (.s 12) (.v (.int .u64 0)))])
def ZMx:PC :=
 (.reg [4,5] [I 14 (.fadr 6 (.s 3)),I 15 (.ld false 1 (.s 14)),I 4 (.mv (.s 15)),I 5 (.mv (V 0))])
def ZMy:PC :=
 (.reg [6,7] [I 17 (.mv (.s 0)),I 18 (.fadr 0 (.s 3)),I 19 (.ld false 1 (.s 18)),I 20 (C QJ [(.s 17),(.s 19)]),I 16 (.mv (.s 20)),I 21 (.ext (.s 16) 0),I 22 (.ext (.s 16) 1),I 6 (.box (.v ZN)),J (.st 3 (.s 6) (.s 21)),I 7 (.mv (.s 22))])
def ZMz:PC :=
 (.reg [6,7,24] [I 23 (.mv (.s 7)),I 24 (.bin .neq (.s 23) (V 0))])
def ZM0:PC :=
 (.reg [4,5] [I 25 (.mv (.s 7)),I 4 (.mv (.v .nils)),I 5 (.mv (.s 25))])
def ZM1:PC :=
 (.reg [6,8] [I 8 (.onil 7)])
def ZM2:PC :=
 (.reg [6,8,27,28,29] [I 26 (.fadr 2 (.s 6)),I 27 (.ld false 1 (.s 26)),I 28 (.len 1 (.s 27)),I 29 (.mv (V 0))])
def ZM3:PC :=
 (.reg [6,8,27,28,29,30] [I 30 (.bin .lss (.s 29) (.s 28))])
def ZM4:PC :=
 (.reg [6,8,10,27,28,29] [I 31 (.ixS 4 (.s 27) (.s 29)),I 32 (.ld true 4 (.s 31)),I 10 (.box (.v ZK)),J (.st 4 (.s 10) (.s 32))])
def ZLZ:PC :=
 (.reg [6,8,27,28,29] [I 33 (.mv (.s 8)),I 34 (.fadr 0 (.s 10)),I 35 (.ld false 1 (.s 34)),I 36 (.fadr 0 (.s 6)),I 37 (.ld false 1 (.s 36)),I 38 (.bin .sub (.s 37) (V 1)),I 39 (.fadr 1 (.s 10)),I 40 (.ld true 3 (.s 39)),I 41 (.build [(.int .u64 0),(.int .i64 0),(.int .i64 0),(.int .i64 0),(.int .i64 0),(.str []),.nils] [(0,1,(.s 35)),(1,1,(.s 38)),(2,3,(.s 40))]),I 42 (.bslice false 7 [ZT] [(0,(.s 41))]),I 43 (.app 7 80 (.s 33) (.s 42)),I 8 (.mv (.s 43))])
def ZLa:PC :=
 (.reg [6,8,27,28,29] [I 44 (.bin .add (.s 29) (V 1)),I 29 (.mv (.s 44))])
def ZCd:PC :=
 (.seq ZM3
 (.seq (.ite (.s 30)
 .skip
 (.exit 0))
 (.seq (.block 1
 (.seq ZM4
 ZLZ))
 ZLa)))
def ZLb:PC :=
 (.reg [8,47] [I 45 (.mv (.s 8)),I 46 (.len 1 (.s 45)),I 47 (.bin .eql (.s 46) (V 0))])
def ZLc:PC :=
 (.reg [4,5] [I 4 (.mv (.v .nils)),I 5 (.mv (V 23))])
def ZLd:PC :=
 (.reg [4,5] [I 48 (.mv (.s 8)),I 4 (.mv (.s 48)),I 5 (.mv (V 0))])
def ZGX:PF:=⟨false,
 (.seq ZMv
 (.seq (.seq ZMw
 (.ite (.s 13)
 (.seq ZMx
 .ret)
 .skip))
 (.seq ZMy
 (.seq (.seq ZMz
 (.ite (.s 24)
 (.seq ZM0
 .ret)
 .skip))
 (.seq ZM1
 (.seq (.seq ZM2
 (.block 0
 (.loop ZCd)))
 (.seq (.seq ZLb
 (.ite (.s 47)
 (.seq ZLc
 .ret)
 .skip))
 (.seq ZLd
 .ret)))))))),
 [.s 4,.s 5]⟩
theorem ZRl:Zs Proofs.Tryz.prog false ZRk Proofs.Tryz.f138=some ZGX:=by kernel_rfl
def ZeX:List Hint:=[H [1],H [1,3],H [1,3,13],H [2],H [1,3,31],H [2],H [1,3,46],H [2],H [65],H [2],H [2]]
def ZYt:PC :=
 (.reg [1] [I 1 (.box (.s 0)),I 2 (.mv (V 0))])
def ZYu:PC :=
 (.reg [1,3] [I 4 (.fadr 2 (.s 1)),I 5 (.ld true 3 (.s 4)),I 6 (.build [(.int .i64 0),(.int .i64 0),(.int .i64 0)] []),I 7 (.eqs false 0 [(0,0),(1,0),(2,0)] (.s 5) (.s 6)),I 8 (.mv (.s 7)),G 9 8 true (.fadr 0 (.s 1)),G 10 8 true (.ld false 1 (.s 9)),G 11 8 true (.bin .eql (.s 10) (.v (.int .u64 0))),I 12 (.pick (.s 8) (.s 11) (.v (.bool false))),I 3 (.mv (.s 12))])
def ZYv:PC :=
 (.reg [1,3,13] [I 14 (.mv (.s 3)),I 15 (.mv (.s 14)),G 16 15 true (.fadr 1 (.s 1)),G 17 15 true (.ld false 1 (.s 16)),G 18 15 true (.bin .eql (.s 17) (V 0)),I 19 (.pick (.s 15) (.s 18) (.v (.bool false))),I 20 (.mv (.s 19)),G 21 20 true (.fadr 5 (.s 1)),G 22 20 true (.ld false 1 (.s 21)),G 23 20 true (.bin .eql (.s 22) (.v (.str []))),I 24 (.pick (.s 20) (.s 23) (.v (.bool false))),I 25 (.mv (.s 24)),G 26 25 true (.fadr 6 (.s 1)),G 27 25 true (.ld false 1 (.s 26)),G 28 25 true (.len 1 (.s 27)),G 29 25 true (.bin .eql (.s 28) (V 0)),I 30 (.pick (.s 25) (.s 29) (.v (.bool false))),I 13 (.mv (.s 30))])
def ZYw:PC :=
 (.reg [2] [I 2 (.mv (V 1))])
def ZYx:PC :=
 (.reg [1,3,31] [I 32 (.fadr 0 (.s 1)),I 33 (.ld false 1 (.s 32)),I 34 (.bin .neq (.s 33) (.v (.int .u64 0))),I 35 (.mv (.s 34)),G 36 35 true (.fadr 5 (.s 1)),G 37 35 true (.ld false 1 (.s 36)),G 38 35 true (.bin .eql (.s 37) (.v (.str []))),I 39 (.pick (.s 35) (.s 38) (.v (.bool false))),I 40 (.mv (.s 39)),G 41 40 true (.fadr 6 (.s 1)),G 42 40 true (.ld false 1 (.s 41)),G 43 40 true (.len 1 (.s 42)),G 44 40 true (.bin .eql (.s 43) (V 0)),I 45 (.pick (.s 40) (.s 44) (.v (.bool false))),I 31 (.mv (.s 45))])
def ZYy:PC :=
 (.reg [2] [I 2 (.mv (V 2))])
def ZYz:PC :=
 (.reg [1,3,46] [I 47 (.mv (.s 3)),I 48 (.mv (.s 47)),G 49 48 true (.fadr 1 (.s 1)),G 50 48 true (.ld false 1 (.s 49)),G 51 48 true (.bin .eql (.s 50) (V 0)),I 52 (.pick (.s 48) (.s 51) (.v (.bool false))),I 53 (.mv (.s 52)),G 54 53 true (.fadr 6 (.s 1)),G 55 53 true (.ld false 1 (.s 54)),G 56 53 true (.len 1 (.s 55)),G 57 53 true (.bin .eql (.s 56) (V 0)),I 58 (.pick (.s 53) (.s 57) (.v (.bool false))),I 59 (.mv (.s 58)),G 60 59 true (.fadr 5 (.s 1)),G 61 59 true (.ld false 1 (.s 60)),G 62 59 true (.len 0 (.s 61)),G 63 59 true (.bin .leq (.s 62) (V 16)),I 64 (.pick (.s 59) (.s 63) (.v (.bool false))),I 46 (.mv (.s 64))])
def ZY0:PC :=
 (.reg [2] [I 2 (.mv (V 3))])
def ZY1:PC :=
 (.reg [65] [I 66 (.mv (.s 3)),I 67 (.mv (.s 66)),G 68 67 true (.fadr 5 (.s 1)),G 69 67 true (.ld false 1 (.s 68)),G 70 67 true (.bin .eql (.s 69) (.v (.str []))),I 71 (.pick (.s 67) (.s 70) (.v (.bool false))),I 72 (.mv (.s 71)),G 73 72 true (.fadr 1 (.s 1)),G 74 72 true (.ld false 1 (.s 73)),G 75 72 true (.bin .geq (.s 74) (V 1)),I 76 (.pick (.s 72) (.s 75) (.v (.bool false))),I 77 (.mv (.s 76)),G 78 77 true (.fadr 1 (.s 1)),G 79 77 true (.ld false 1 (.s 78)),G 80 77 true (.bin .leq (.s 79) (V 16)),I 81 (.pick (.s 77) (.s 80) (.v (.bool false))),I 82 (.mv (.s 81)),G 83 82 true (.fadr 6 (.s 1)),G 84 82 true (.ld false 1 (.s 83)),G 85 82 true (.len 1 (.s 84)),G 86 82 true (.bin .geq (.s 85) (V 2)),I 87 (.pick (.s 82) (.s 86) (.v (.bool false))),I 88 (.mv (.s 87)),G 89 88 true (.fadr 6 (.s 1)),G 90 88 true (.ld false 1 (.s 89)),G 91 88 true (.len 1 (.s 90)),G 92 88 true (.bin .leq (.s 91) (V 4)),I 93 (.pick (.s 88) (.s 92) (.v (.bool false))),I 65 (.mv (.s 93))])
def ZY2:PC :=
 (.reg [2] [I 2 (.mv (V 4))])
def ZVh:PC :=
 (.reg [2] [I 2 (.mv (V 0))])
def ZQw:PF:=⟨false,
 (.seq ZYt
 (.seq ZYu
 (.seq (.block 0
 (.seq ZYv
 (.ite (.s 13)
 (.seq ZYw
 .ret)
 (.seq ZYx
 (.ite (.s 31)
 (.seq ZYy
 .ret)
 (.seq ZYz
 (.ite (.s 46)
 (.seq ZY0
 .ret)
 (.seq ZY1
 (.ite (.s 65)
 (.seq ZY2
 .ret)
 .skip)))))))))
 (.seq ZVh
 .ret)))),
 [.s 2]⟩
theorem ZeY:Zs Proofs.Tryz.prog false ZeX Proofs.Tryz.f139=some ZQw:=by kernel_rfl
def ZcB:List Hint:=[H [0,3],H [0,3,6],H [0,3,6,12],H [4,5],H [0,3,19],H [4,5],H [3,7],H [7],H [4,5]]
def ZVi:PC :=
 (.reg [0,3] [I 3 (.box (.s 1)),I 4 (.mv (.v .nilptr)),I 5 (.mv (V 0))])
def ZVj:PC :=
 (.reg [0,3,6] [I 8 (.mv (.s 0)),I 9 (.ld true 7 (.s 3)),I 10 (C YM [(.s 8),(.s 9)]),I 6 (.mv (.s 10))])
def ZVk:PC :=
 (.reg [0,3,6,12] [I 11 (.mv (.s 6)),I 12 (.bin .neq (.s 11) (V 0))])
def ZVl:PC :=
 (.reg [4,5] [I 13 (.mv (.s 6)),I 4 (.mv (.v .nilptr)),I 5 (.mv (.s 13))])
def ZVm:PC :=
 (.reg [0,3,19] [I 14 (.ld true 7 (.s 3)),I 15 (C ZAP [(.s 14)]),I 16 (.mv (.s 0)),I 17 (C XC [(.s 16)]),I 18 (.fld false 1 1 (.s 17)),I 19 (.bin .gtr (.s 15) (.s 18))])
def ZVn:PC :=
 (.reg [4,5] [I 4 (.mv (.v .nilptr)),I 5 (.mv (V 6))])
def ZVo:PC :=
 (.reg [3,7] [I 20 (.mv (.s 0)),I 21 (.build [.nilptr,.nils,.nilptr] [(0,1,(.s 20))]),I 22 (.box (.s 21)),I 7 (.mv (.s 22))])
def ZVp:PC :=
 (.reg [7] [I 23 (.mv (.s 7)),I 24 (.mv (.s 7)),I 25 (.ld true 7 (.s 3)),I 26 (C Qn [(.s 24),(.s 25)]),I 27 (.nilck (.s 23)),I 28 (.fadr 2 (.s 27)),J (.st 1 (.s 28) (.s 26))])
def ZVq:PC :=
 (.reg [4,5] [I 29 (.mv (.s 7)),I 4 (.mv (.s 29)),I 5 (.mv (V 0))])
def ZM5:PF:=⟨true,
 (.seq ZVi
 (.seq (.seq ZVj
 (.seq ZVk
 (.ite (.s 12)
 (.seq ZVl
 .ret)
 .skip)))
 (.seq (.seq ZVm
 (.ite (.s 19)
 (.seq ZVn
 .ret)
 .skip))
 (.seq ZVo
 (.seq ZVp
 (.seq ZVq
 .ret)))))),
 [.s 4,.s 5]⟩
theorem ZcC:Zs Proofs.Tryz.prog true ZcB Proofs.Tryz.f140=some ZM5:=by kernel_rfl
def ZRm:List Hint:=[H [0],H [0,6],H [2,3,4],H [0,12],H [2,3,4],H [0,2,4],H [0,2,4,24],H [2,3,4],H [0,2],H [2,3,4]]
def ZM6:PC :=
 (.reg [0] [I 2 (.mv (.v (.int .u64 0))),I 3 (.mv (.v (.bool false))),I 4 (.mv (V 0))])
def ZM7:PC :=
 (.reg [0,6] [I 5 (.mv (.s 0)),I 6 (.eqs false 3 [] (.s 5) (.v .nilptr))])
def ZM8:PC :=
 (.reg [2,3,4] [I 2 (.mv (.v (.int .u64 0))),I 3 (.mv (.v (.bool false))),I 4 (.mv (V 1))])
def ZM9:PC :=
 (.reg [0,12] [I 7 (.mv (.s 0)),I 8 (.nilck (.s 7)),I 9 (.fadr 1 (.s 8)),I 10 (.ld false 1 (.s 9)),I 11 (.len 1 (.s 10)),I 12 (.bin .eql (.s 11) (V 0))])
def ZNA:PC :=
 (.reg [2,3,4] [I 2 (.mv (.v (.int .u64 0))),I 3 (.mv (.v (.bool true))),I 4 (.mv (V 0))])
def ZNB:PC :=
 (.reg [0,2,4] [I 14 (.mv (.s 0)),I 15 (.nilck (.s 14)),I 16 (.fadr 1 (.s 15)),I 17 (.ld false 1 (.s 16)),I 18 (.ixS 1 (.s 17) (V 0)),I 19 (.ld false 1 (.s 18)),I 20 (.call .norm (.s 19) []),I 13 (.mv (.s 20)),I 21 (.ext (.s 13) 0),I 22 (.ext (.s 13) 1),I 2 (.mv (.s 21)),I 4 (.mv (.s 22))])
def ZNC:PC :=
 (.reg [0,2,4,24] [I 23 (.mv (.s 4)),I 24 (.bin .neq (.s 23) (V 0))])
def ZND:PC :=
 (.reg [2,3,4] [I 25 (.mv (.s 4)),I 2 (.mv (.v (.int .u64 0))),I 3 (.mv (.v (.bool false))),I 4 (.mv (.s 25))])
def ZNE:PC :=
 (.reg [0,2] [I 26 (.mv (.s 0)),I 27 (.mv (.s 0)),I 28 (.nilck (.s 27)),I 29 (.fadr 1 (.s 28)),I 30 (.ld false 1 (.s 29)),I 31 (.slc 1 (.s 30) (some (V 1)) none),I 32 (.nilck (.s 26)),I 33 (.fadr 1 (.s 32)),J (.st 1 (.s 33) (.s 31))])
def ZNF:PC :=
 (.reg [2,3,4] [I 34 (.mv (.s 2)),I 35 (.mv (.s 0)),I 36 (.nilck (.s 35)),I 37 (.fadr 1 (.s 36)),I 38 (.ld false 1 (.s 37)),I 39 (.len 1 (.s 38)),I 40 (.bin .eql (.s 39) (V 0)),I 2 (.mv (.s 34)),I 3 (.mv (.s 40)),I 4 (.mv (V 0))])
def ZGY:PF:=⟨false,
 (.seq ZM6
 (.seq (.seq ZM7
 (.ite (.s 6)
 (.seq ZM8
 .ret)
 .skip))
 (.seq (.seq ZM9
 (.ite (.s 12)
 (.seq ZNA
 .ret)
 .skip))
 (.seq ZNB
 (.seq (.seq ZNC
 (.ite (.s 24)
 (.seq ZND
 .ret)
 .skip))
 (.seq ZNE
 (.seq ZNF
 .ret))))))),
 [.s 2,.s 3,.s 4]⟩
theorem ZRn:Zs Proofs.Tryz.prog false ZRm Proofs.Tryz.f141=some ZGY:=by kernel_rfl
def ZRo:List Hint:=[H [0,2],H [0,2,5],H [2,3],H [0,2,12],H [2,3],H [2,3]]
def ZNG:PC :=
 (.reg [0,2] [I 2 (.box (.v ZR)),I 3 (.mv (V 0))])
def ZNH:PC :=
 (.reg [0,2,5] [I 4 (.mv (.s 0)),I 5 (.eqs false 3 [] (.s 4) (.v .nilptr))])
def ZNI:PC :=
 (.reg [2,3] [I 6 (.build [(.int .u64 0),(.int .i64 0),(.int .i64 0),(.int .i64 0),(.int .i64 0)] []),J (.st 5 (.s 2) (.s 6)),I 3 (.mv (V 1))])
def ZNJ:PC :=
 (.reg [0,2,12] [I 7 (.mv (.s 0)),I 8 (.nilck (.s 7)),I 9 (.fadr 1 (.s 8)),I 10 (.ld false 1 (.s 9)),I 11 (.len 1 (.s 10)),I 12 (.bin .gtr (.s 11) (V 0))])
def ZNK:PC :=
 (.reg [2,3] [I 13 (.build [(.int .u64 0),(.int .i64 0),(.int .i64 0),(.int .i64 0),(.int .i64 0)] []),J (.st 5 (.s 2) (.s 13)),I 3 (.mv (V 8))])
def ZNL:PC :=
 (.reg [2,3] [I 14 (.mv (.s 0)),I 15 (.nilck (.s 14)),I 16 (.fadr 2 (.s 15)),I 17 (.ld false 1 (.s 16)),I 18 (.nilck (.s 17)),I 19 (.ld true 5 (.s 18)),J (.st 5 (.s 2) (.s 19)),I 3 (.mv (V 0))])
def ZGZ:PF:=⟨false,
 (.seq ZNG
 (.seq (.seq ZNH
 (.ite (.s 5)
 (.seq ZNI
 .ret)
 .skip))
 (.seq (.seq ZNJ
 (.ite (.s 12)
 (.seq ZNK
 .ret)
 .skip))
 (.seq ZNL
 .ret)))),
 [.c 2 true 5,.s 3]⟩
theorem ZRp:Zs Proofs.Tryz.prog false ZRo Proofs.Tryz.f142=some ZGZ:=by kernel_rfl
def ZeZ:List Hint:=[H [0,2,4],H [0,2,4,10],H [0,2,4,10,16],H [6,7,8,9],H [0,2,4,26],H [6,7,8,9],H [9,11],H [6,7,8,9]]
def ZY3:PC :=
 (.reg [0,2,4] [I 4 (.box (.s 1)),I 6 (.mv (.v (.str []))),I 7 (.mv (V 0)),I 8 (.mv (.v .nils)),I 9 (.mv (V 0))])
def ZY4:PC :=
 (.reg [0,2,4,10] [I 12 (.mv (.s 0)),I 13 (.ld true 5 (.s 4)),I 14 (C ZBm [(.s 12),(.s 13)]),I 10 (.mv (.s 14))])
def ZY5:PC :=
 (.reg [0,2,4,10,16] [I 15 (.mv (.s 10)),I 16 (.bin .neq (.s 15) (V 0))])
def ZY6:PC :=
 (.reg [6,7,8,9] [I 17 (.mv (.s 10)),I 6 (.mv (.v (.str []))),I 7 (.mv (V 0)),I 8 (.mv (.v .nils)),I 9 (.mv (.s 17))])
def ZY7:PC :=
 (.reg [0,2,4,26] [I 18 (.mv (.s 2)),I 19 (.bin .lss (.s 18) (V 0)),I 20 (.mv (.s 19)),G 21 20 false (.mv (.s 2)),G 22 20 false (.fadr 2 (.s 4)),G 23 20 false (.fadr 0 (.s 22)),G 24 20 false (.ld false 1 (.s 23)),G 25 20 false (.bin .geq (.s 21) (.s 24)),I 26 (.pick (.s 20) (.v (.bool true)) (.s 25))])
def ZY8:PC :=
 (.reg [6,7,8,9] [I 6 (.mv (.v (.str []))),I 7 (.mv (V 0)),I 8 (.mv (.v .nils)),I 9 (.mv (V 3))])
def ZY9:PC :=
 (.reg [9,11] [I 28 (.mv (.s 0)),I 29 (.ld true 5 (.s 4)),I 30 (.mv (.s 2)),I 31 (C ZIJ [(.s 28),(.s 29),(.s 30),(.v (.func (.func ZBn) [] [])),(.v (.func (.func ZAZ) [] []))]),I 27 (.mv (.s 31)),I 32 (.ext (.s 27) 0),I 33 (.ext (.s 27) 1),I 11 (.box (.v (.agg [(.str []),(.int .i64 0),.nils]))),J (.st 3 (.s 11) (.s 32)),I 9 (.mv (.s 33))])
def ZZA:PC :=
 (.reg [6,7,8,9] [I 34 (.fadr 0 (.s 11)),I 35 (.ld false 1 (.s 34)),I 36 (.fadr 1 (.s 11)),I 37 (.ld false 1 (.s 36)),I 38 (.fadr 2 (.s 11)),I 39 (.ld false 1 (.s 38)),I 40 (.mv (.s 9)),I 6 (.mv (.s 35)),I 7 (.mv (.s 37)),I 8 (.mv (.s 39)),I 9 (.mv (.s 40))])
def ZQx:PF:=⟨false,
 (.seq ZY3
 (.seq (.seq ZY4
 (.seq ZY5
 (.ite (.s 16)
 (.seq ZY6
 .ret)
 .skip)))
 (.seq (.seq ZY7
 (.ite (.s 26)
 (.seq ZY8
 .ret)
 .skip))
 (.seq ZY9
 (.seq ZZA
 .ret))))),
 [.s 6,.s 7,.s 8,.s 9]⟩
theorem Zea:Zs Proofs.Tryz.prog false ZeZ Proofs.Tryz.f144=some ZQx:=by kernel_rfl
def Zeb:List Hint:=[H [0,1,2,7],H [2,7,9,10],H [2,7,9,10,19],H [8],H [2,7,9,10,11],H [38],H [8],H [8]]
def ZZB:PC :=
 (.reg [0,1,2,7] [I 7 (.box (.s 3)),I 8 (.mv (V 0))])
def ZZC:PC :=
 (.reg [2,7,9,10] [I 13 (.mv (.s 0)),I 14 (.mv (.s 1)),I 15 (C QJ [(.s 13),(.s 14)]),I 12 (.mv (.s 15)),I 16 (.ext (.s 12) 0),I 17 (.ext (.s 12) 1),I 9 (.box (.v ZN)),J (.st 3 (.s 9) (.s 16)),I 10 (.mv (.s 17))])
def ZZD:PC :=
 (.reg [2,7,9,10,19] [I 18 (.mv (.s 10)),I 19 (.bin .neq (.s 18) (V 0))])
def ZZE:PC :=
 (.reg [8] [I 20 (.mv (.s 10)),I 8 (.mv (.s 20))])
def ZZF:PC :=
 (.reg [2,7,9,10,11] [I 22 (.ld true 3 (.s 9)),I 23 (C J9 [(.s 22)]),I 21 (.mv (.s 23)),I 24 (.ext (.s 21) 0),I 25 (.ext (.s 21) 1),I 11 (.box (.v ZM)),J (.st 3 (.s 11) (.s 24)),I 10 (.mv (.s 25))])
def ZZG:PC :=
 (.reg [38] [I 26 (.mv (.s 10)),I 27 (.bin .neq (.s 26) (V 0)),I 28 (.mv (.s 27)),G 29 28 false (.fadr 0 (.s 9)),G 30 28 false (.ld false 1 (.s 29)),G 31 28 false (.mv (.s 2)),G 32 28 false (.bin .neq (.s 30) (.s 31)),I 33 (.pick (.s 28) (.v (.bool true)) (.s 32)),I 34 (.mv (.s 33)),G 35 34 false (.ld true 3 (.s 11)),G 36 34 false (.ld true 3 (.s 7)),G 37 34 false (.eqs true 0 [(0,0),(1,0),(2,0)] (.s 35) (.s 36)),I 38 (.pick (.s 34) (.v (.bool true)) (.s 37))])
def ZZH:PC :=
 (.reg [8] [I 8 (.mv (V 23))])
def ZZI:PC :=
 (.reg [8] [I 8 (.mv (V 0))])
def ZQy:PF:=⟨false,
 (.seq ZZB
 (.seq ZZC
 (.seq (.seq ZZD
 (.ite (.s 19)
 (.seq ZZE
 .ret)
 .skip))
 (.seq ZZF
 (.seq (.seq ZZG
 (.ite (.s 38)
 (.seq ZZH
 .ret)
 .skip))
 (.seq ZZI
 .ret)))))),
 [.s 8]⟩
theorem Zec:Zs Proofs.Tryz.prog false Zeb Proofs.Tryz.f149=some ZQy:=by kernel_rfl
def ZcD:List Hint:=[H [1],H [1,3],H [3,14,15,16],H [3,14,15,16,17],H [3,5,14,15,16],H [3,14,15,16],H [3,14,15,16],H [2]]
def ZVr:PC :=
 (.reg [1] [I 1 (.box (.s 0)),I 2 (.mv (V 0))])
def ZVs:PC :=
 (.reg [1,3] [I 6 (.fadr 2 (.s 1)),I 7 (.fadr 0 (.s 6)),I 8 (.ld false 1 (.s 7)),I 9 (.fadr 5 (.s 1)),I 10 (.ld false 1 (.s 9)),I 11 (.len 0 (.s 10)),I 12 (.bin .add (.s 8) (.s 11)),I 3 (.mv (.s 12))])
def ZVt:PC :=
 (.reg [3,14,15,16] [I 13 (.fadr 6 (.s 1)),I 14 (.ld false 1 (.s 13)),I 15 (.len 1 (.s 14)),I 16 (.mv (V 0))])
def ZVu:PC :=
 (.reg [3,14,15,16,17] [I 17 (.bin .lss (.s 16) (.s 15))])
def ZVv:PC :=
 (.reg [3,5,14,15,16] [I 18 (.ixS 7 (.s 14) (.s 16)),I 19 (.ld true 7 (.s 18)),I 5 (.box (.v ZT)),J (.st 7 (.s 5) (.s 19))])
def ZVw:PC :=
 (.reg [3,14,15,16] [I 20 (.mv (.s 3)),I 21 (.ld true 7 (.s 5)),I 22 (C Qp [(.s 21)]),I 23 (.bin .add (.s 20) (.s 22)),I 3 (.mv (.s 23))])
def ZVx:PC :=
 (.reg [3,14,15,16] [I 24 (.bin .add (.s 16) (V 1)),I 16 (.mv (.s 24))])
def ZVy:PC :=
 (.seq ZVu
 (.seq (.ite (.s 17)
 .skip
 (.exit 0))
 (.seq (.block 1
 (.seq ZVv
 ZVw))
 ZVx)))
def ZVz:PC :=
 (.reg [2] [I 25 (.mv (.s 3)),I 2 (.mv (.s 25))])
def ZNM:PF:=⟨false,
 (.seq ZVr
 (.seq ZVs
 (.seq (.seq ZVt
 (.block 0
 (.loop ZVy)))
 (.seq ZVz
 .ret)))),
 [.s 2]⟩
theorem ZcE:Zs Proofs.Tryz.prog false ZcD Proofs.Tryz.f157=some ZNM:=by kernel_rfl
def ZgB:List Hint:=[H [0,2,4,6,7],H [0,2,4,6,7,18],⟨[6,7,8],[],[],[],[(1,(.hide [(.s 6)])),(2,(.plain (.s 6)))],[]⟩,H [0,2,4,6,7,24],H [6,7,8],H [0,2,4,6,7,29],H [2,6,7,9,10],H [2,6,7,9,10,37],H [6,7,8],H [6,7,10,11,12],H [6,7,8],H [0,2,6,7,8,13],H [0,2,6,7,8,13,60],H [6,7,8],H [0,2,6,7,13,14],H [0,2,6,7,13,14,77],H [0,2,6,7,13,14],H [0,2,6,7,13,14],H [0,2,6,7,13,14,88],⟨[6,7,8],[],[(3,.pure)],[],[],[]⟩,H [0,6,7,8,13,14,15,16],H [0,6,7,8,13,14,15,16,109],H [6,7,8],⟨[0,6,7,8,13,14,16],[],[(4,.pure)],[],[],[]⟩,H [0,6,7,8,13,14,16,124],H [6,7,8],⟨[6,7,8],[],[(6,.pure)],[],[],[]⟩,H [6,7,8,140],H [6,7,8],⟨[6,7,8],[],[],[],[(1,(.hide [(.s 6)])),(2,(.plain (.s 6)))],[]⟩]
def ZcF:PC :=
 (.reg [0,2,4,6,7] [I 4 (.box (.s 1)),I 6 (.box (.v ZT)),I 7 (.box (.v ZT)),I 8 (.mv (V 0))])
def ZcG:PC :=
 (.reg [0,2,4,6,7,18] [I 17 (.mv (.s 2)),I 18 (.bin .eql (.s 17) (V 0))])
def ZcH:PC :=
 (.reg [6,7,8] [I 19 (.build [(.int .u64 0),(.int .i64 0),(.int .i64 0),(.int .i64 0),(.int .i64 0),(.str []),.nils] []),I 20 (.w (.hide [(.s 6)]) (.ld true 7 (.s 4))),J (.w (.plain (.s 6)) (.st 7 (.s 6) (.s 19))),J (.st 7 (.s 7) (.s 20)),I 8 (.mv (V 0))])
def ZcI:PC :=
 (.reg [0,2,4,6,7,24] [I 21 (.mv (.s 2)),I 22 (.ld true 7 (.s 4)),I 23 (C Qp [(.s 22)]),I 24 (.bin .eql (.s 21) (.s 23))])
def ZcJ:PC :=
 (.reg [6,7,8] [I 25 (.ld true 7 (.s 4)),I 26 (.build [(.int .u64 0),(.int .i64 0),(.int .i64 0),(.int .i64 0),(.int .i64 0),(.str []),.nils] []),J (.st 7 (.s 6) (.s 25)),J (.st 7 (.s 7) (.s 26)),I 8 (.mv (V 0))])
def ZcK:PC :=
 (.reg [0,2,4,6,7,29] [I 27 (.fadr 1 (.s 4)),I 28 (.ld false 1 (.s 27)),I 29 (.bin .eql (.s 28) (V 0))])
def ZcL:PC :=
 (.reg [2,6,7,9,10] [I 31 (.mv (.s 0)),I 32 (.ld true 7 (.s 4)),I 33 (C Xg [(.s 31),(.s 32)]),I 30 (.mv (.s 33)),I 34 (.ext (.s 30) 0),I 35 (.ext (.s 30) 1),I 9 (.mv (.s 34)),I 10 (.mv (.s 35))])
def ZcM:PC :=
 (.reg [2,6,7,9,10,37] [I 36 (.mv (.s 10)),I 37 (.bin .neq (.s 36) (V 0))])
def ZcN:PC :=
 (.reg [6,7,8] [I 38 (.build [(.int .u64 0),(.int .i64 0),(.int .i64 0),(.int .i64 0),(.int .i64 0),(.str []),.nils] []),I 39 (.build [(.int .u64 0),(.int .i64 0),(.int .i64 0),(.int .i64 0),(.int .i64 0),(.str []),.nils] []),I 40 (.mv (.s 10)),J (.st 7 (.s 6) (.s 38)),J (.st 7 (.s 7) (.s 39)),I 8 (.mv (.s 40))])
def ZcO:PC :=
 (.reg [6,7,10,11,12] [I 42 (.mv (.s 9)),I 43 (.mv (.s 2)),I 44 (C ZIK [(.s 42),(.s 43)]),I 41 (.mv (.s 44)),I 45 (.ext (.s 41) 0),I 46 (.ext (.s 41) 1),I 47 (.ext (.s 41) 2),I 11 (.mv (.s 45)),I 12 (.mv (.s 46)),I 10 (.mv (.s 47))])
def ZZJ:PC :=
 (.reg [6,7,8] [I 48 (.mv (.s 11)),I 49 (.build [(.int .u64 0),(.int .i64 0),(.int .i64 0),(.int .i64 0),(.int .i64 0),(.str []),.nils] [(5,1,(.s 48))]),I 50 (.mv (.s 12)),I 51 (.build [(.int .u64 0),(.int .i64 0),(.int .i64 0),(.int .i64 0),(.int .i64 0),(.str []),.nils] [(5,1,(.s 50))]),I 52 (.mv (.s 10)),J (.st 7 (.s 6) (.s 49)),J (.st 7 (.s 7) (.s 51)),I 8 (.mv (.s 52))])
def ZZK:PC :=
 (.reg [0,2,6,7,8,13] [I 54 (.mv (.s 0)),I 55 (.ld true 7 (.s 4)),I 56 (C Jr [(.s 54),(.s 55)]),I 53 (.mv (.s 56)),I 57 (.ext (.s 53) 0),I 58 (.ext (.s 53) 1),I 13 (.mv (.s 57)),I 8 (.mv (.s 58))])
def ZZL:PC :=
 (.reg [0,2,6,7,8,13,60] [I 59 (.mv (.s 8)),I 60 (.bin .neq (.s 59) (V 0))])
def ZZM:PC :=
 (.reg [6,7,8] [I 61 (.build [(.int .u64 0),(.int .i64 0),(.int .i64 0),(.int .i64 0),(.int .i64 0),(.str []),.nils] []),I 62 (.build [(.int .u64 0),(.int .i64 0),(.int .i64 0),(.int .i64 0),(.int .i64 0),(.str []),.nils] []),I 63 (.mv (.s 8)),J (.st 7 (.s 6) (.s 61)),J (.st 7 (.s 7) (.s 62)),I 8 (.mv (.s 63))])
def ZZN:PC :=
 (.reg [0,2,6,7,13,14] [I 14 (.mv (V 0))])
def ZZO:PC :=
 (.reg [0,2,6,7,13,14,77] [I 64 (.mv (.s 14)),I 65 (.bin .add (.s 64) (V 1)),I 66 (.mv (.s 13)),I 67 (.len 1 (.s 66)),I 68 (.bin .lss (.s 65) (.s 67)),I 69 (.mv (.s 68)),G 70 69 true (.mv (.s 2)),G 71 69 true (.mv (.s 13)),G 72 69 true (.mv (.s 14)),G 73 69 true (.ixS 7 (.s 71) (.s 72)),G 74 69 true (.ld true 7 (.s 73)),G 75 69 true (C Qp [(.s 74)]),G 76 69 true (.bin .geq (.s 70) (.s 75)),I 77 (.pick (.s 69) (.s 76) (.v (.bool false)))])
def ZZP:PC :=
 (.reg [0,2,6,7,13,14] [I 78 (.mv (.s 2)),I 79 (.mv (.s 13)),I 80 (.mv (.s 14)),I 81 (.ixS 7 (.s 79) (.s 80)),I 82 (.ld true 7 (.s 81)),I 83 (C Qp [(.s 82)]),I 84 (.bin .sub (.s 78) (.s 83)),I 2 (.mv (.s 84))])
def ZZQ:PC :=
 (.reg [0,2,6,7,13,14] [I 85 (.mv (.s 14)),I 86 (.bin .add (.s 85) (V 1)),I 14 (.mv (.s 86))])
def ZKl:PC :=
 (.seq (.seq ZZO
 (.ite (.s 77)
 .skip
 (.exit 0)))
 (.block 1
 (.seq ZZP
 ZZQ)))
def ZZR:PC :=
 (.reg [0,2,6,7,13,14,88] [I 87 (.mv (.s 2)),I 88 (.bin .eql (.s 87) (V 0))])
def ZZS:PC :=
 (.reg [6,7,8] [I 89 (.mv (.s 13)),I 90 (.mv (.s 14)),I 91 (.slc 7 (.s 89) none (some (.s 90))),I 92 (.call .pure (.v (.func (.func QO) [] [])) [(.s 91)]),I 93 (.mv (.s 13)),I 94 (.mv (.s 14)),I 95 (.slc 7 (.s 93) (some (.s 94)) none),I 96 (C QO [(.s 95)]),J (.st 7 (.s 6) (.s 92)),J (.st 7 (.s 7) (.s 96)),I 8 (.mv (V 0))])
def ZZT:PC :=
 (.reg [0,6,7,8,13,14,15,16] [I 98 (.mv (.s 0)),I 99 (.mv (.s 13)),I 100 (.mv (.s 14)),I 101 (.ixS 7 (.s 99) (.s 100)),I 102 (.ld true 7 (.s 101)),I 103 (.mv (.s 2)),I 104 (C ZAO [(.s 98),(.s 102),(.s 103)]),I 97 (.mv (.s 104)),I 105 (.ext (.s 97) 0),I 106 (.ext (.s 97) 1),I 107 (.ext (.s 97) 2),I 15 (.box (.v ZT)),I 16 (.box (.v ZT)),J (.st 7 (.s 15) (.s 105)),J (.st 7 (.s 16) (.s 106)),I 8 (.mv (.s 107))])
def ZZU:PC :=
 (.reg [0,6,7,8,13,14,15,16,109] [I 108 (.mv (.s 8)),I 109 (.bin .neq (.s 108) (V 0))])
def ZZV:PC :=
 (.reg [6,7,8] [I 110 (.build [(.int .u64 0),(.int .i64 0),(.int .i64 0),(.int .i64 0),(.int .i64 0),(.str []),.nils] []),I 111 (.build [(.int .u64 0),(.int .i64 0),(.int .i64 0),(.int .i64 0),(.int .i64 0),(.str []),.nils] []),I 112 (.mv (.s 8)),J (.st 7 (.s 6) (.s 110)),J (.st 7 (.s 7) (.s 111)),I 8 (.mv (.s 112))])
def ZZW:PC :=
 (.reg [0,6,7,8,13,14,16] [I 114 (.mv (.s 0)),I 115 (.mv (.s 13)),I 116 (.mv (.s 14)),I 117 (.slc 7 (.s 115) none (some (.s 116))),I 118 (.call .pure (.v (.func (.func QO) [] [])) [(.s 117)]),I 119 (.ld true 7 (.s 15)),I 120 (C YY [(.s 114),(.s 118),(.s 119)]),I 113 (.mv (.s 120)),I 121 (.ext (.s 113) 0),I 122 (.ext (.s 113) 1),J (.st 7 (.s 6) (.s 121)),I 8 (.mv (.s 122))])
def ZZX:PC :=
 (.reg [0,6,7,8,13,14,16,124] [I 123 (.mv (.s 8)),I 124 (.bin .neq (.s 123) (V 0))])
def ZZY:PC :=
 (.reg [6,7,8] [I 125 (.build [(.int .u64 0),(.int .i64 0),(.int .i64 0),(.int .i64 0),(.int .i64 0),(.str []),.nils] []),I 126 (.build [(.int .u64 0),(.int .i64 0),(.int .i64 0),(.int .i64 0),(.int .i64 0),(.str []),.nils] []),I 127 (.mv (.s 8)),J (.st 7 (.s 6) (.s 125)),J (.st 7 (.s 7) (.s 126)),I 8 (.mv (.s 127))])
def ZZZ:PC :=
 (.reg [6,7,8] [I 129 (.mv (.s 0)),I 130 (.ld true 7 (.s 16)),I 131 (.mv (.s 13)),I 132 (.mv (.s 14)),I 133 (.bin .add (.s 132) (V 1)),I 134 (.slc 7 (.s 131) (some (.s 133)) none),I 135 (.call .pure (.v (.func (.func QO) [] [])) [(.s 134)]),I 136 (C YY [(.s 129),(.s 130),(.s 135)]),I 128 (.mv (.s 136)),I 137 (.ext (.s 128) 0),I 138 (.ext (.s 128) 1),J (.st 7 (.s 7) (.s 137)),I 8 (.mv (.s 138))])
def ZZa:PC :=
 (.reg [6,7,8,140] [I 139 (.mv (.s 8)),I 140 (.bin .neq (.s 139) (V 0))])
def ZZb:PC :=
 (.reg [6,7,8] [I 141 (.build [(.int .u64 0),(.int .i64 0),(.int .i64 0),(.int .i64 0),(.int .i64 0),(.str []),.nils] []),I 142 (.build [(.int .u64 0),(.int .i64 0),(.int .i64 0),(.int .i64 0),(.int .i64 0),(.str []),.nils] []),I 143 (.mv (.s 8)),J (.st 7 (.s 6) (.s 141)),J (.st 7 (.s 7) (.s 142)),I 8 (.mv (.s 143))])
def ZZc:PC :=
 (.reg [6,7,8] [I 144 (.ld true 7 (.s 6)),I 145 (.w (.hide [(.s 6)]) (.ld true 7 (.s 7))),J (.w (.plain (.s 6)) (.st 7 (.s 6) (.s 144))),J (.st 7 (.s 7) (.s 145)),I 8 (.mv (V 0))])
def ZV0:PF:=⟨false,
 (.seq ZcF
 (.seq (.seq ZcG
 (.ite (.s 18)
 (.seq ZcH
 .ret)
 .skip))
 (.seq (.seq ZcI
 (.ite (.s 24)
 (.seq ZcJ
 .ret)
 .skip))
 (.seq (.seq ZcK
 (.ite (.s 29)
 (.seq ZcL
 (.seq (.seq ZcM
 (.ite (.s 37)
 (.seq ZcN
 .ret)
 .skip))
 (.seq ZcO
 (.seq ZZJ
 .ret))))
 .skip))
 (.seq ZZK
 (.seq (.seq ZZL
 (.ite (.s 60)
 (.seq ZZM
 .ret)
 .skip))
 (.seq ZZN
 (.seq (.block 0
 (.loop ZKl))
 (.seq (.seq ZZR
 (.ite (.s 88)
 (.seq ZZS
 .ret)
 .skip))
 (.seq ZZT
 (.seq (.seq ZZU
 (.ite (.s 109)
 (.seq ZZV
 .ret)
 .skip))
 (.seq (.seq ZZW
 (.seq ZZX
 (.ite (.s 124)
 (.seq ZZY
 .ret)
 .skip)))
 (.seq (.seq ZZZ
 (.seq ZZa
 (.ite (.s 140)
 (.seq ZZb
 .ret)
 .skip)))
 (.seq ZZc
 .ret)))))))))))))),
 [.c 6 true 7,.c 7 true 7,.s 8]⟩
theorem ZgC:Zs Proofs.Tryz.prog false ZgB Proofs.Tryz.f158=some ZV0:=by kernel_rfl
def ZgD:List Hint:=[H [1,2],H [1,2,9],H [1,2],H [2],H [1,2,3],H [1,2,3,17,18,19],H [1,2,3,17,18,19,20],H [1,2,3,4,5,17,18,19],H [1,2,3,17,18,19],H [1,2,3,17,18,19],H [1,2],H [2]]
def ZcP:PC :=
 (.reg [1,2] [I 1 (.box (.s 0)),I 2 (.box (.v ZT))])
def ZcQ:PC :=
 (.reg [1,2,9] [I 6 (.fadr 6 (.s 1)),I 7 (.ld false 1 (.s 6)),I 8 (.len 1 (.s 7)),I 9 (.bin .eql (.s 8) (V 0))])
def ZcR:PC :=
 (.reg [1,2] [I 10 (.fadr 6 (.s 1)),J (.st 1 (.s 10) (.v .nils))])
def ZcS:PC :=
 (.reg [2] [I 11 (.ld true 7 (.s 1)),J (.st 7 (.s 2) (.s 11))])
def ZcT:PC :=
 (.reg [1,2,3] [I 12 (.fadr 6 (.s 1)),I 13 (.ld false 1 (.s 12)),I 14 (.len 1 (.s 13)),I 15 (.mkslice 7 80 ZT (.s 14) (.s 14)),I 3 (.mv (.s 15))])
def ZcU:PC :=
 (.reg [1,2,3,17,18,19] [I 16 (.fadr 6 (.s 1)),I 17 (.ld false 1 (.s 16)),I 18 (.len 1 (.s 17)),I 19 (.mv (V 0))])
def ZcV:PC :=
 (.reg [1,2,3,17,18,19,20] [I 20 (.bin .lss (.s 19) (.s 18))])
def ZcW:PC :=
 (.reg [1,2,3,4,5,17,18,19] [I 21 (.mv (.s 19)),I 22 (.ixS 7 (.s 17) (.s 19)),I 23 (.ld true 7 (.s 22)),I 5 (.box (.v ZT)),I 4 (.mv (.s 21)),J (.st 7 (.s 5) (.s 23))])
def ZcX:PC :=
 (.reg [1,2,3,17,18,19] [I 24 (.mv (.s 3)),I 25 (.mv (.s 4)),I 26 (.ld true 7 (.s 5)),I 27 (C ZCH [(.s 26)]),I 28 (.ixS 7 (.s 24) (.s 25)),J (.st 7 (.s 28) (.s 27))])
def ZcY:PC :=
 (.reg [1,2,3,17,18,19] [I 29 (.bin .add (.s 19) (V 1)),I 19 (.mv (.s 29))])
def ZZd:PC :=
 (.seq ZcV
 (.seq (.ite (.s 20)
 .skip
 (.exit 0))
 (.seq (.block 1
 (.seq ZcW
 ZcX))
 ZcY)))
def ZZe:PC :=
 (.reg [1,2] [I 30 (.mv (.s 3)),I 31 (.fadr 6 (.s 1)),J (.st 1 (.s 31) (.s 30))])
def ZZf:PC :=
 (.reg [2] [I 32 (.ld true 7 (.s 1)),J (.st 7 (.s 2) (.s 32))])
def ZV1:PF:=⟨false,
 (.seq ZcP
 (.seq (.seq ZcQ
 (.ite (.s 9)
 (.seq ZcR
 (.seq ZcS
 .ret))
 .skip))
 (.seq ZcT
 (.seq (.seq ZcU
 (.block 0
 (.loop ZZd)))
 (.seq ZZe
 (.seq ZZf
 .ret)))))),
 [.c 2 true 7]⟩
theorem ZgE:Zs Proofs.Tryz.prog false ZgD Proofs.Tryz.f159=some ZV1:=by kernel_rfl
def ZHo:List Hint:=[H [0,1],⟨[0,1,5],[0],[],[],[],[]⟩,H [0,1,5,9],H [4],H [1,5,14,15,16],H [1,5,14,15,16,17],H [1,5,6,7,14,15,16],H [1,5,6,14,15,16,23],H [1,5,14,15,16],H [1,5,14,15,16],H [4]]
def ZD0:PC :=
 (.reg [0,1] [I 4 (.mv (.v .nils))])
def ZD1:PC :=
 (.reg [0,1,5] [I 5 (.onil 1)])
def ZD2:PC :=
 (.reg [0,1,5,9] [I 8 (.mv (.s 0)),I 9 (.eqs false 3 [] (.s 8) (.v .nilptr))])
def ZD3:PC :=
 (.reg [4] [I 10 (.mv (.s 5)),I 4 (.mv (.s 10))])
def ZD4:PC :=
 (.reg [1,5,14,15,16] [I 11 (.mv (.s 0)),I 12 (.nilck (.s 11)),I 13 (.fadr 1 (.s 12)),I 14 (.ld false 1 (.s 13)),I 15 (.len 1 (.s 14)),I 16 (.mv (V 0))])
def ZD5:PC :=
 (.reg [1,5,14,15,16,17] [I 17 (.bin .lss (.s 16) (.s 15))])
def ZD6:PC :=
 (.reg [1,5,6,7,14,15,16] [I 18 (.mv (.s 16)),I 19 (.ixS 1 (.s 14) (.s 16)),I 20 (.ld false 1 (.s 19)),I 6 (.mv (.s 18)),I 7 (.mv (.s 20))])
def ZD7:PC :=
 (.reg [1,5,6,14,15,16,23] [I 21 (.mv (.s 7)),I 22 (.mv (.s 1)),I 23 (.bin .eql (.s 21) (.s 22))])
def ZD8:PC :=
 (.reg [1,5,14,15,16] [I 24 (.mv (.s 5)),I 25 (.mv (.s 6)),I 26 (.bslice false 1 [(.int .i64 0)] [(0,(.s 25))]),I 27 (.app 1 8 (.s 24) (.s 26)),I 5 (.mv (.s 27))])
def ZD9:PC :=
 (.reg [1,5,14,15,16] [I 28 (.bin .add (.s 16) (V 1)),I 16 (.mv (.s 28))])
def ZDd:PC :=
 (.seq ZD5
 (.seq (.ite (.s 17)
 .skip
 (.exit 0))
 (.seq (.block 1
 (.seq ZD6
 (.seq ZD7
 (.ite (.s 23)
 ZD8
 .skip))))
 ZD9)))
def ZDe:PC :=
 (.reg [4] [I 29 (.mv (.s 5)),I 4 (.mv (.s 29))])
def ZAD:PF:=⟨false,
 (.seq ZD0
 (.seq ZD1
 (.seq (.seq ZD2
 (.ite (.s 9)
 (.seq ZD3
 .ret)
 .skip))
 (.seq (.seq ZD4
 (.block 0
 (.loop ZDd)))
 (.seq ZDe
 .ret))))),
 [.s 4]⟩
theorem ZHp:Zs Proofs.Tryz.prog false ZHo Proofs.Tryz.f164=some ZAD:=by kernel_rfl
def ZRq:List Hint:=[H [0,2,4],H [0,2,4,8],H [0,2,4,8,15],H [6,7],H [0,2,4,25],H [6,7],H [0,2,4,30],H [6,7],H [9,10],H [6,7]]
def ZNN:PC :=
 (.reg [0,2,4] [I 4 (.box (.s 1)),I 6 (.mv (.v (.bool false))),I 7 (.mv (V 0))])
def ZNO:PC :=
 (.reg [0,2,4,8] [I 11 (.mv (.s 0)),I 12 (.ld true 5 (.s 4)),I 13 (C ZBm [(.s 11),(.s 12)]),I 8 (.mv (.s 13))])
def ZNP:PC :=
 (.reg [0,2,4,8,15] [I 14 (.mv (.s 8)),I 15 (.bin .neq (.s 14) (V 0))])
def ZNQ:PC :=
 (.reg [6,7] [I 16 (.mv (.s 8)),I 6 (.mv (.v (.bool false))),I 7 (.mv (.s 16))])
def ZNR:PC :=
 (.reg [0,2,4,25] [I 17 (.mv (.s 2)),I 18 (.bin .lss (.s 17) (V 0)),I 19 (.mv (.s 18)),G 20 19 false (.mv (.s 2)),G 21 19 false (.fadr 2 (.s 4)),G 22 19 false (.fadr 0 (.s 21)),G 23 19 false (.ld false 1 (.s 22)),G 24 19 false (.bin .gtr (.s 20) (.s 23)),I 25 (.pick (.s 19) (.v (.bool true)) (.s 24))])
def ZNS:PC :=
 (.reg [6,7] [I 6 (.mv (.v (.bool false))),I 7 (.mv (V 3))])
def ZNT:PC :=
 (.reg [0,2,4,30] [I 26 (.mv (.s 2)),I 27 (.fadr 2 (.s 4)),I 28 (.fadr 0 (.s 27)),I 29 (.ld false 1 (.s 28)),I 30 (.bin .eql (.s 26) (.s 29))])
def ZNU:PC :=
 (.reg [6,7] [I 6 (.mv (.v (.bool true))),I 7 (.mv (V 0))])
def ZNV:PC :=
 (.reg [9,10] [I 32 (.mv (.s 0)),I 33 (.ld true 5 (.s 4)),I 34 (.mv (.s 2)),I 35 (C ZDG [(.s 32),(.s 33),(.s 34)]),I 31 (.mv (.s 35)),I 36 (.ext (.s 31) 0),I 37 (.ext (.s 31) 1),I 9 (.mv (.s 36)),I 10 (.mv (.s 37))])
def ZNW:PC :=
 (.reg [6,7] [I 38 (.mv (.s 10)),I 39 (.bin .eql (.s 38) (V 0)),I 40 (.mv (.s 39)),G 41 40 true (.mv (.s 9)),G 42 40 true (.bin .lss (.s 41) (.v (.int .u8 128))),G 43 40 true (.mv (.s 42)),G 44 43 false (.mv (.s 9)),G 45 43 false (.bin .gtr (.s 44) (.v (.int .u8 191))),G 46 40 true (.pick (.s 43) (.v (.bool true)) (.s 45)),I 47 (.pick (.s 40) (.s 46) (.v (.bool false))),I 48 (.mv (.s 10)),I 6 (.mv (.s 47)),I 7 (.mv (.s 48))])
def ZGa:PF:=⟨false,
 (.seq ZNN
 (.seq (.seq ZNO
 (.seq ZNP
 (.ite (.s 15)
 (.seq ZNQ
 .ret)
 .skip)))
 (.seq (.seq ZNR
 (.ite (.s 25)
 (.seq ZNS
 .ret)
 .skip))
 (.seq (.seq ZNT
 (.ite (.s 30)
 (.seq ZNU
 .ret)
 .skip))
 (.seq ZNV
 (.seq ZNW
 .ret)))))),
 [.s 6,.s 7]⟩
theorem ZRr:Zs Proofs.Tryz.prog false ZRq Proofs.Tryz.f176=some ZGa:=by kernel_rfl
def ZKa:List Hint:=[H [0,1,2,3],H [0,2,3,9,10],H [0,2,3,9,10,21],H [8],⟨[0],[],[],[],[(9,.imm)],[]⟩,H [],H [8]]
def ZHq:PC :=
 (.reg [0,1,2,3] [I 8 (.mv (V 0))])
def ZHr:PC :=
 (.reg [0,2,3,9,10] [I 12 (.mv (.s 0)),I 13 (.nilck (.s 12)),I 14 (.fadr 0 (.s 13)),I 15 (.ld false 1 (.s 14)),I 16 (.mv (.s 1)),I 17 (C QJ [(.s 15),(.s 16)]),I 11 (.mv (.s 17)),I 18 (.ext (.s 11) 0),I 19 (.ext (.s 11) 1),I 9 (.box (.v ZN)),J (.st 3 (.s 9) (.s 18)),I 10 (.mv (.s 19))])
def ZHs:PC :=
 (.reg [0,2,3,9,10,21] [I 20 (.mv (.s 10)),I 21 (.bin .neq (.s 20) (V 0))])
def ZHt:PC :=
 (.reg [8] [I 22 (.mv (.s 10)),I 8 (.mv (.s 22))])
def ZHu:PC :=
 (.reg [0] [I 23 (.mv (.s 0)),I 24 (.mv (.s 0)),I 25 (.nilck (.s 24)),I 26 (.fadr 6 (.s 25)),I 27 (.ld false 1 (.s 26)),I 28 (.ld true 3 (.s 9)),I 29 (.mv (.s 2)),I 30 (.mv (.s 3)),I 31 (.build [(.int .i64 0),(.str []),.nils,(.int .i64 0),(.int .i64 0)] [(0,3,(.s 28)),(3,1,(.s 29)),(4,1,(.s 30))]),I 32 (.w .imm (.bslice false 5 [(.agg [(.int .i64 0),(.str []),.nils,(.int .i64 0),(.int .i64 0)])] [(0,(.s 31))])),I 33 (.app 5 64 (.s 27) (.s 32)),I 34 (.nilck (.s 23)),I 35 (.fadr 6 (.s 34)),J (.st 1 (.s 35) (.s 33))])
def ZHv:PC :=
 (.reg [] [I 36 (.mv (.s 0)),I 37 (.nilck (.s 36)),I 38 (.fadr 7 (.s 37)),I 39 (.ld false 1 (.s 38)),I 40 (.bin .add (.s 39) (V 1)),I 41 (.nilck (.s 36)),I 42 (.fadr 7 (.s 41)),J (.st 1 (.s 42) (.s 40))])
def ZHw:PC :=
 (.reg [8] [I 8 (.mv (V 0))])
def ZBc:PF:=⟨true,
 (.seq ZHq
 (.seq ZHr
 (.seq (.seq ZHs
 (.ite (.s 21)
 (.seq ZHt
 .ret)
 .skip))
 (.seq ZHu
 (.seq ZHv
 (.seq ZHw
 .ret)))))),
 [.s 8]⟩
theorem ZKb:Zs Proofs.Tryz.prog true ZKa Proofs.Tryz.f177=some ZBc:=by kernel_rfl
def ZC4:List Hint:=[H []]
def ZBr:PC :=
 (.reg [] [I 3 (.ld false 1 (.s 1)),I 4 (.mv (.s 0)),I 5 (.bslice false 1 [(.int .u8 0)] [(0,(.s 4))]),I 6 (.app 1 1 (.s 3) (.s 5)),J (.st 1 (.s 1) (.s 6))])
def Y6:PF:=⟨false,
 ZBr,
 []⟩
theorem ZC5:Zs Proofs.Tryz.prog false ZC4 Proofs.Tryz.f178=some Y6:=by kernel_rfl
def ZJO:List Hint:=[H [0,1],H [4]]
def ZFv:PC :=
 (.reg [0,1] [I 4 (.mv (V 0))])
def ZFw:PC :=
 (.reg [4] [I 5 (.mv (.s 1)),I 6 (.mv (.s 0)),I 7 (.nilck (.s 6)),I 8 (.fadr 1 (.s 7)),I 9 (.fadr 2 (.s 8)),I 10 (.fadr 0 (.s 9)),I 11 (.ld false 1 (.s 10)),I 12 (.bin .sub (.s 11) (V 1)),I 13 (.mnx false (.s 5) (.s 12)),I 4 (.mv (.s 13))])
def ZBA:PF:=⟨false,
 (.seq ZFv
 (.seq ZFw
 .ret)),
 [.s 4]⟩
theorem ZJP:Zs Proofs.Tryz.prog false ZJO Proofs.Tryz.f180=some ZBA:=by kernel_rfl
def Zed:List Hint:=[H [0,2,3,4,6,10],H [0,3,4,6,10,12],H [0,3,4,10,12,13],H [0,3,4,10,12,13,14,15],H [0,3,4,10,12,13,14,15,31],H [10,11],H [0,3,4,10,12,14],H [0,3,4,10,12,14,42],H [10,12],H [10,11],H [0,3,4,10,12,14,15,16,17],H [0,3,4,10,12,14,15,16,17,57],H [10,11],H [0,3,4,10,12,14,16,17,63,64,65],H [0,3,4,10,12,14,16,17,63,64,65,66],H [0,3,4,10,12,14,16,17,19,63,64,65],H [0,3,4,10,12,14,16,17,63,64,65],H [0,3,4,10,12,14,16,17,63,64,65],⟨[0,3,4,10,12,13],[],[],[],[(6,(.hide [(.s 12)])),(8,(.plain (.s 12))),(4,(.hide [(.s 12)])),(2,(.hide [(.s 12)]))],[]⟩]
def ZZg:PC :=
 (.reg [0,2,3,4,6,10] [I 6 (.box (.s 1)),I 10 (.box (.v (.agg [(.str []),(.int .i64 0),.nils]))),I 11 (.mv (V 0))])
def ZZh:PC :=
 (.reg [0,3,4,6,10,12] [I 20 (.mv (.s 2)),I 21 (.build [(.str []),(.int .i64 0),.nils] [(1,1,(.s 20))]),I 12 (.box (.v (.agg [(.str []),(.int .i64 0),.nils]))),J (.st 3 (.s 12) (.s 21))])
def ZZi:PC :=
 (.reg [0,3,4,10,12,13] [I 22 (.fadr 0 (.s 6)),I 23 (.ld false 1 (.s 22)),I 13 (.mv (.s 23))])
def ZZj:PC :=
 (.reg [0,3,4,10,12,13,14,15] [I 25 (.mv (.s 0)),I 26 (.mv (.s 13)),I 27 (C QJ [(.s 25),(.s 26)]),I 24 (.mv (.s 27)),I 28 (.ext (.s 24) 0),I 29 (.ext (.s 24) 1),I 14 (.box (.v ZN)),J (.st 3 (.s 14) (.s 28)),I 15 (.mv (.s 29))])
def ZZk:PC :=
 (.reg [0,3,4,10,12,13,14,15,31] [I 30 (.mv (.s 15)),I 31 (.bin .neq (.s 30) (V 0))])
def ZZl:PC :=
 (.reg [10,11] [I 32 (.build [(.str []),(.int .i64 0),.nils] []),I 33 (.mv (.s 15)),J (.st 3 (.s 10) (.s 32)),I 11 (.mv (.s 33))])
def ZKm:PC :=
 (.reg [0,3,4,10,12,14] [I 34 (.fadr 2 (.s 12)),I 35 (.ld false 1 (.s 34)),I 36 (.mv (.s 13)),I 37 (.bslice false 1 [(.int .u64 0)] [(0,(.s 36))]),I 38 (.app 1 8 (.s 35) (.s 37)),I 39 (.fadr 2 (.s 12)),J (.st 1 (.s 39) (.s 38))])
def ZZm:PC :=
 (.reg [0,3,4,10,12,14,42] [I 40 (.fadr 0 (.s 14)),I 41 (.ld false 1 (.s 40)),I 42 (.bin .eql (.s 41) (V 0))])
def ZZn:PC :=
 (.reg [10,12] [I 43 (.fadr 1 (.s 14)),I 44 (.ld false 1 (.s 43)),I 45 (.fadr 0 (.s 12)),J (.st 1 (.s 45) (.s 44))])
def ZZo:PC :=
 (.reg [10,11] [I 46 (.ld true 3 (.s 12)),J (.st 3 (.s 10) (.s 46)),I 11 (.mv (V 0))])
def ZV2:PC :=
 (.reg [0,3,4,10,12,14,15,16,17] [I 48 (.mv (.s 3)),I 49 (.ld true 3 (.s 14)),I 50 (.fadr 1 (.s 12)),I 51 (.ld false 1 (.s 50)),I 52 (.call .norm (.s 48) [(.s 49),(.s 51)]),I 47 (.mv (.s 52)),I 53 (.ext (.s 47) 0),I 54 (.ext (.s 47) 1),I 55 (.ext (.s 47) 2),I 16 (.mv (.s 53)),I 17 (.mv (.s 54)),I 15 (.mv (.s 55))])
def ZV3:PC :=
 (.reg [0,3,4,10,12,14,15,16,17,57] [I 56 (.mv (.s 15)),I 57 (.bin .neq (.s 56) (V 0))])
def ZV4:PC :=
 (.reg [10,11] [I 58 (.build [(.str []),(.int .i64 0),.nils] []),I 59 (.mv (.s 15)),J (.st 3 (.s 10) (.s 58)),I 11 (.mv (.s 59))])
def ZV5:PC :=
 (.reg [0,3,4,10,12,14,16,17,63,64,65] [I 60 (.fadr 2 (.s 14)),I 61 (.ld false 1 (.s 60)),I 62 (.mv (.s 16)),I 63 (.slc 4 (.s 61) none (some (.s 62))),I 64 (.len 1 (.s 63)),I 65 (.mv (V 0))])
def ZV6:PC :=
 (.reg [0,3,4,10,12,14,16,17,63,64,65,66] [I 66 (.bin .lss (.s 65) (.s 64))])
def ZV7:PC :=
 (.reg [0,3,4,10,12,14,16,17,19,63,64,65] [I 67 (.ixS 4 (.s 63) (.s 65)),I 68 (.ld true 4 (.s 67)),I 19 (.box (.v ZK)),J (.st 4 (.s 19) (.s 68))])
def ZV8:PC :=
 (.reg [0,3,4,10,12,14,16,17,63,64,65] [I 69 (.mv (.s 4)),I 70 (.fadr 1 (.s 19)),I 71 (.ld true 3 (.s 70)),I 72 (.call .norm (.s 69) [(.s 71)])])
def ZV9:PC :=
 (.reg [0,3,4,10,12,14,16,17,63,64,65] [I 73 (.bin .add (.s 65) (V 1)),I 65 (.mv (.s 73))])
def p_seek_walk_18:PC :=
 (.seq ZV6
 (.seq (.ite (.s 66)
 .skip
 (.exit 2))
 (.seq (.block 3
 (.seq ZV7
 ZV8))
 ZV9)))
def ZWA:PC :=
 (.reg [0,3,4,10,12,13] [I 74 (.mv (.s 17)),I 75 (.fadr 2 (.s 14)),I 76 (.w (.hide [(.s 12)]) (.ld false 1 (.s 75))),I 77 (.mv (.s 16)),I 78 (.w (.hide [(.s 12)]) (.ixS 4 (.s 76) (.s 77))),I 79 (.fadr 0 (.s 78)),I 80 (.w (.hide [(.s 12)]) (.ld false 1 (.s 79))),I 81 (.fadr 1 (.s 12)),J (.w (.plain (.s 12)) (.st 1 (.s 81) (.s 74))),I 13 (.mv (.s 80))])
def ZWB:PC :=
 (.block 1
 (.seq ZZj
 (.seq (.seq ZZk
 (.ite (.s 31)
 (.seq ZZl
 .ret)
 .skip))
 (.seq ZKm
 (.seq (.seq ZZm
 (.ite (.s 42)
 (.seq ZZn
 (.seq ZZo
 .ret))
 .skip))
 (.seq ZV2
 (.seq (.seq ZV3
 (.ite (.s 57)
 (.seq ZV4
 .ret)
 .skip))
 (.seq (.seq ZV5
 (.block 2
 (.loop p_seek_walk_18)))
 ZWA))))))))
def ZQz:PF:=⟨false,
 (.seq ZZg
 (.seq ZZh
 (.seq ZZi
 (.block 0
 (.loop ZWB))))),
 [.c 10 true 3,.s 11]⟩
theorem Zee:Zs Proofs.Tryz.prog false Zed Proofs.Tryz.f181=some ZQz:=by kernel_rfl
def ZcZ:List Hint:=[H [1,2],H [4,5,6]]
def ZWC:PC :=
 (.reg [1,2] [I 2 (.box (.s 0)),I 4 (.mv (V 0)),I 5 (.mv (V 0)),I 6 (.mv (V 0))])
def ZWD:PC :=
 (.reg [4,5,6] [I 7 (.ld true 3 (.s 2)),I 8 (.mv (.s 1)),I 9 (C ZDU [(.s 7),(.s 8),(.v (.func (.func ZCJ) [] []))]),I 10 (.ext (.s 9) 0),I 11 (.ext (.s 9) 1),I 12 (.ext (.s 9) 2),I 4 (.mv (.s 10)),I 5 (.mv (.s 11)),I 6 (.mv (.s 12))])
def ZNX:PF:=⟨false,
 (.seq ZWC
 (.seq ZWD
 .ret)),
 [.s 4,.s 5,.s 6]⟩
theorem Zca:Zs Proofs.Tryz.prog false ZcZ Proofs.Tryz.f182=some ZNX:=by kernel_rfl
def ZRs:List Hint:=[H [0],H [2]]
def ZNY:PC :=
 (.reg [0] [I 2 (.mv (.v (.bool false)))])
def ZNZ:PC :=
 (.reg [2] [I 3 (.mv (.s 0)),I 4 (.bin .eql (.s 3) (.v (.int .u8 10))),I 2 (.mv (.s 4))])
def ZGb:PF:=⟨false,
 (.seq ZNY
 (.seq ZNZ
 .ret)),
 [.s 2]⟩
theorem ZRt:Zs Proofs.Tryz.prog false ZRs Proofs.Tryz.f185=some ZGb:=by kernel_rfl
def ZWE:List Hint:=[H [1,2],H [1,2,4],H [1,2,4,8],H [2,3],H [2,3]]
def ZPG:PC :=
 (.reg [1,2] [I 1 (.box (.s 0)),I 2 (.box (.v ZM)),I 3 (.mv (V 0))])
def ZPH:PC :=
 (.reg [1,2,4] [I 5 (.ld true 3 (.s 1)),I 6 (C Xp [(.s 5)]),I 4 (.mv (.s 6))])
def ZPI:PC :=
 (.reg [1,2,4,8] [I 7 (.mv (.s 4)),I 8 (.bin .neq (.s 7) (V 0))])
def ZPJ:PC :=
 (.reg [2,3] [I 9 (.build [(.int .i64 0),(.int .i64 0),(.int .i64 0)] []),I 10 (.mv (.s 4)),J (.st 3 (.s 2) (.s 9)),I 3 (.mv (.s 10))])
def ZPK:PC :=
 (.reg [2,3] [I 11 (.ld true 3 (.s 1)),I 12 (C ZCK [(.s 11)]),J (.st 3 (.s 2) (.s 12)),I 3 (.mv (V 0))])
def ZJQ:PF:=⟨false,
 (.seq ZPG
 (.seq (.seq ZPH
 (.seq ZPI
 (.ite (.s 8)
 (.seq ZPJ
 .ret)
 .skip)))
 (.seq ZPK
 .ret))),
 [.c 2 true 3,.s 3]⟩
theorem ZWF:Zs Proofs.Tryz.prog false ZWE Proofs.Tryz.f186=some ZJQ:=by kernel_rfl
def ZZp:List Hint:=[H [1,2,3],H [1,2,3,9],H [1,2,3,9,15],H [6,7,8],H [1,2,3,19],H [6,7,8],H [1,2,3,21],H [6,7,8],H [1,2,23,24,25],H [1,2,23,24,25,26],H [1,2,10,11,23,24,25],H [1,2,10,11,23,24,25,35],H [6,7,8],H [1,2,23,24,25],H [1,2,23,24,25],H [6,7,8]]
def ZRu:PC :=
 (.reg [1,2,3] [I 3 (.box (.s 0)),I 6 (.mv (V 0)),I 7 (.mv (V 0)),I 8 (.mv (V 0))])
def ZRv:PC :=
 (.reg [1,2,3,9] [I 12 (.ld true 3 (.s 3)),I 13 (C Xp [(.s 12)]),I 9 (.mv (.s 13))])
def ZRw:PC :=
 (.reg [1,2,3,9,15] [I 14 (.mv (.s 9)),I 15 (.bin .neq (.s 14) (V 0))])
def ZRx:PC :=
 (.reg [6,7,8] [I 16 (.mv (.s 9)),I 6 (.mv (V 0)),I 7 (.mv (V 0)),I 8 (.mv (.s 16))])
def ZRy:PC :=
 (.reg [1,2,3,19] [I 17 (.fadr 0 (.s 3)),I 18 (.ld false 1 (.s 17)),I 19 (.bin .eql (.s 18) (V 0))])
def ZRz:PC :=
 (.reg [6,7,8] [I 6 (.mv (V 0)),I 7 (.mv (V 0)),I 8 (.mv (V 8))])
def ZR0:PC :=
 (.reg [1,2,3,21] [I 20 (.mv (.s 1)),I 21 (.bin .lss (.s 20) (V 0))])
def ZR1:PC :=
 (.reg [6,7,8] [I 6 (.mv (V 0)),I 7 (.mv (V 0)),I 8 (.mv (V 3))])
def ZR2:PC :=
 (.reg [1,2,23,24,25] [I 22 (.fadr 2 (.s 3)),I 23 (.ld false 1 (.s 22)),I 24 (.len 1 (.s 23)),I 25 (.mv (V 0))])
def ZR3:PC :=
 (.reg [1,2,23,24,25,26] [I 26 (.bin .lss (.s 25) (.s 24))])
def ZPL:PC :=
 (.reg [1,2,10,11,23,24,25] [I 27 (.mv (.s 25)),I 28 (.ixS 4 (.s 23) (.s 25)),I 29 (.ld true 4 (.s 28)),I 11 (.box (.v ZK)),I 10 (.mv (.s 27)),J (.st 4 (.s 11) (.s 29))])
def ZPM:PC :=
 (.reg [1,2,10,11,23,24,25,35] [I 30 (.mv (.s 1)),I 31 (.mv (.s 2)),I 32 (.fadr 1 (.s 11)),I 33 (.ld true 3 (.s 32)),I 34 (.call .norm (.s 31) [(.s 33)]),I 35 (.bin .lss (.s 30) (.s 34))])
def ZPN:PC :=
 (.reg [6,7,8] [I 36 (.mv (.s 10)),I 37 (.mv (.s 1)),I 6 (.mv (.s 36)),I 7 (.mv (.s 37)),I 8 (.mv (V 0))])
def ZPO:PC :=
 (.reg [1,2,23,24,25] [I 38 (.mv (.s 1)),I 39 (.mv (.s 2)),I 40 (.fadr 1 (.s 11)),I 41 (.ld true 3 (.s 40)),I 42 (.call .norm (.s 39) [(.s 41)]),I 43 (.bin .sub (.s 38) (.s 42)),I 1 (.mv (.s 43))])
def ZPP:PC :=
 (.reg [1,2,23,24,25] [I 44 (.bin .add (.s 25) (V 1)),I 25 (.mv (.s 44))])
def ZPQ:PC :=
 (.seq ZR3
 (.seq (.ite (.s 26)
 .skip
 (.exit 0))
 (.seq (.block 1
 (.seq ZPL
 (.seq (.seq ZPM
 (.ite (.s 35)
 (.seq ZPN
 .ret)
 .skip))
 ZPO)))
 ZPP)))
def ZPR:PC :=
 (.reg [6,7,8] [I 6 (.mv (V 0)),I 7 (.mv (V 0)),I 8 (.mv (V 3))])
def ZKn:PF:=⟨false,
 (.seq ZRu
 (.seq (.seq ZRv
 (.seq ZRw
 (.ite (.s 15)
 (.seq ZRx
 .ret)
 .skip)))
 (.seq (.seq ZRy
 (.ite (.s 19)
 (.seq ZRz
 .ret)
 .skip))
 (.seq (.seq ZR0
 (.ite (.s 21)
 (.seq ZR1
 .ret)
 .skip))
 (.seq (.seq ZR2
 (.block 0
 (.loop ZPQ)))
 (.seq ZPR
 .ret)))))),
 [.s 6,.s 7,.s 8]⟩
theorem ZZq:Zs Proofs.Tryz.prog false ZZp Proofs.Tryz.f188=some ZKn:=by kernel_rfl
def ZWG:List Hint:=[H [0],⟨[0,3],[0],[],[],[],[]⟩,H [0,3,8,9,10],H [0,3,8,9,10,11],H [0,3,5,8,9,10],H [0,3,5,8,9,10],H [0,3,8,9,10],H [0,3,8,9,10],H [2]]
def ZPS:PC :=
 (.reg [0] [I 2 (.mv (.v .nils))])
def ZPT:PC :=
 (.reg [0,3] [I 3 (.onil 1)])
def ZPU:PC :=
 (.reg [0,3,8,9,10] [I 6 (.mv (.s 0)),I 7 (.len 0 (.s 6)),I 8 (C ZAa [(.s 7),(V 16)]),I 9 (.len 1 (.s 8)),I 10 (.mv (V 0))])
def ZPV:PC :=
 (.reg [0,3,8,9,10,11] [I 11 (.bin .lss (.s 10) (.s 9))])
def ZPW:PC :=
 (.reg [0,3,5,8,9,10] [I 12 (.ixS 1 (.s 8) (.s 10)),I 13 (.ld false 1 (.s 12)),I 5 (.mv (.s 13))])
def ZPX:PC :=
 (.reg [0,3,5,8,9,10] [I 14 (.mv (.s 3)),I 15 (.mv (.s 0)),I 16 (.mv (.s 5)),I 17 (.slcS (.s 15) none (some (.s 16))),I 18 (.bslice false 1 [(.str [])] [(0,(.s 17))]),I 19 (.app 1 16 (.s 14) (.s 18)),I 3 (.mv (.s 19))])
def ZPY:PC :=
 (.reg [0,3,8,9,10] [I 20 (.mv (.s 0)),I 21 (.mv (.s 5)),I 22 (.slcS (.s 20) (some (.s 21)) none),I 0 (.mv (.s 22))])
def ZPZ:PC :=
 (.reg [0,3,8,9,10] [I 23 (.bin .add (.s 10) (V 1)),I 10 (.mv (.s 23))])
def ZPa:PC :=
 (.seq ZPV
 (.seq (.ite (.s 11)
 .skip
 (.exit 0))
 (.seq (.block 1
 (.seq ZPW
 (.seq ZPX
 ZPY)))
 ZPZ)))
def ZPb:PC :=
 (.reg [2] [I 24 (.mv (.s 3)),I 2 (.mv (.s 24))])
def ZJR:PF:=⟨false,
 (.seq ZPS
 (.seq ZPT
 (.seq (.seq ZPU
 (.block 0
 (.loop ZPa)))
 (.seq ZPb
 .ret)))),
 [.s 2]⟩
theorem ZWH:Zs Proofs.Tryz.prog false ZWG Proofs.Tryz.f197=some ZJR:=by kernel_rfl
def Zcb:List Hint:=[H [0,1],H [0,1,11],H [4,5],H [0,1,13],H [4,5],H [4,5]]
def ZWI:PC :=
 (.reg [0,1] [I 4 (.mv (.v .nils)),I 5 (.mv (V 0))])
def ZWJ:PC :=
 (.reg [0,1,11] [I 6 (.mv (.s 0)),I 7 (.bin .lss (.s 6) (V 0)),I 8 (.mv (.s 7)),G 9 8 false (.mv (.s 1)),G 10 8 false (.bin .lss (.s 9) (V 1)),I 11 (.pick (.s 8) (.v (.bool true)) (.s 10))])
def ZWK:PC :=
 (.reg [4,5] [I 4 (.mv (.v .nils)),I 5 (.mv (V 2))])
def ZWL:PC :=
 (.reg [0,1,13] [I 12 (.mv (.s 0)),I 13 (.bin .gtr (.s 12) (V 65536))])
def ZWM:PC :=
 (.reg [4,5] [I 4 (.mv (.v .nils)),I 5 (.mv (V 5))])
def ZWN:PC :=
 (.reg [4,5] [I 14 (.mv (.s 0)),I 15 (.mv (.s 1)),I 16 (C ZAa [(.s 14),(.s 15)]),I 4 (.mv (.s 16)),I 5 (.mv (V 0))])
def ZNa:PF:=⟨false,
 (.seq ZWI
 (.seq (.seq ZWJ
 (.ite (.s 11)
 (.seq ZWK
 .ret)
 .skip))
 (.seq (.seq ZWL
 (.ite (.s 13)
 (.seq ZWM
 .ret)
 .skip))
 (.seq ZWN
 .ret)))),
 [.s 4,.s 5]⟩
theorem Zcc:Zs Proofs.Tryz.prog false Zcb Proofs.Tryz.f198=some ZNa:=by kernel_rfl
def Zcd:List Hint:=[H [0,2],H [0,2,3],H [2],H [0,2,8],H [2],⟨[2],[],[],[],[(7,.app0),(5,.imm)],[]⟩]
def ZWO:PC :=
 (.reg [0,2] [I 2 (.box (.v ZT))])
def ZWP:PC :=
 (.reg [0,2,3] [I 4 (.mv (.s 0)),I 5 (.len 1 (.s 4)),I 6 (.bin .eql (.s 5) (V 0)),I 3 (.mv (.s 6))])
def ZWQ:PC :=
 (.reg [2] [I 7 (.build [(.int .u64 0),(.int .i64 0),(.int .i64 0),(.int .i64 0),(.int .i64 0),(.str []),.nils] []),J (.st 7 (.s 2) (.s 7))])
def ZWR:PC :=
 (.reg [0,2,8] [I 9 (.mv (.s 0)),I 10 (.len 1 (.s 9)),I 11 (.bin .eql (.s 10) (V 1)),I 8 (.mv (.s 11))])
def ZWS:PC :=
 (.reg [2] [I 12 (.mv (.s 0)),I 13 (.ixS 7 (.s 12) (V 0)),I 14 (.ld true 7 (.s 13)),J (.st 7 (.s 2) (.s 14))])
def ZWT:PC :=
 (.reg [2] [I 15 (.mv (.s 0)),I 16 (.ixS 7 (.s 15) (V 0)),I 17 (.fadr 1 (.s 16)),I 18 (.ld false 1 (.s 17)),I 19 (.bin .add (.s 18) (V 1)),I 20 (.w .imm (.bslice false 7 [] [])),I 21 (.mv (.s 0)),I 22 (.w .app0 (.app 7 80 (.s 20) (.s 21))),I 23 (.build [(.int .u64 0),(.int .i64 0),(.int .i64 0),(.int .i64 0),(.int .i64 0),(.str []),.nils] [(1,1,(.s 19)),(6,1,(.s 22))]),J (.st 7 (.s 2) (.s 23))])
def ZNb:PF:=⟨false,
 (.seq ZWO
 (.seq (.block 0
 (.seq ZWP
 (.ite (.s 3)
 (.seq ZWQ
 .ret)
 (.seq ZWR
 (.ite (.s 8)
 (.seq ZWS
 .ret)
 .skip)))))
 (.seq ZWT
 .ret))),
 [.c 2 true 7]⟩
theorem Zce:Zs Proofs.Tryz.prog false Zcd Proofs.Tryz.f199=some ZNb:=by kernel_rfl
def ZZr:List Hint:=[H [0,1],H [0,1,19],H [4,5],H [4,5]]
def ZR4:PC :=
 (.reg [0,1] [I 4 (.mv (.v (.int .u64 0))),I 5 (.mv (V 0))])
def ZR5:PC :=
 (.reg [0,1,19] [I 6 (.mv (.s 0)),I 7 (.bin .lss (.s 6) (V 0)),I 8 (.mv (.s 7)),G 9 8 false (.mv (.s 0)),G 10 8 false (.bin .geq (.s 9) (V 16384)),I 11 (.pick (.s 8) (.v (.bool true)) (.s 10)),I 12 (.mv (.s 11)),G 13 12 false (.mv (.s 1)),G 14 12 false (.bin .lss (.s 13) (.v (.int .u64 1))),I 15 (.pick (.s 12) (.v (.bool true)) (.s 14)),I 16 (.mv (.s 15)),G 17 16 false (.mv (.s 1)),G 18 16 false (.bin .gtr (.s 17) (.v (.int .u64 4294967295))),I 19 (.pick (.s 16) (.v (.bool true)) (.s 18))])
def ZR6:PC :=
 (.reg [4,5] [I 4 (.mv (.v (.int .u64 0))),I 5 (.mv (V 3))])
def ZR7:PC :=
 (.reg [4,5] [I 20 (.mv (.s 1)),I 21 (.bin .shl (.s 20) (.v (.int .u64 16))),I 22 (.mv (.s 0)),I 23 (.cint .u64 (.s 22)),I 24 (.bin .or (.s 21) (.s 23)),I 4 (.mv (.s 24)),I 5 (.mv (V 0))])
def ZKo:PF:=⟨false,
 (.seq ZR4
 (.seq (.seq ZR5
 (.ite (.s 19)
 (.seq ZR6
 .ret)
 .skip))
 (.seq ZR7
 .ret))),
 [.s 4,.s 5]⟩
theorem ZZs:Zs Proofs.Tryz.prog false ZZr Proofs.Tryz.f201=some ZKo:=by kernel_rfl
def ZZt:List Hint:=[H [0,4,5,6],H [0,4,5,6,12],H [6,7],H [0,4,5,6,16],H [6,7],H [6,8,9],H [6,8,9,26],H [6,7],H [6,7]]
def ZR8:PC :=
 (.reg [0,4,5,6] [I 4 (.box (.s 1)),I 5 (.box (.s 2)),I 6 (.box (.v ZT)),I 7 (.mv (V 0))])
def ZR9:PC :=
 (.reg [0,4,5,6,12] [I 10 (.ld true 7 (.s 4)),I 11 (C Qk [(.s 10)]),I 12 (.bin .eql (.s 11) (V 1))])
def ZSA:PC :=
 (.reg [6,7] [I 13 (.ld true 7 (.s 5)),J (.st 7 (.s 6) (.s 13)),I 7 (.mv (V 0))])
def ZSB:PC :=
 (.reg [0,4,5,6,16] [I 14 (.ld true 7 (.s 5)),I 15 (C Qk [(.s 14)]),I 16 (.bin .eql (.s 15) (V 1))])
def ZSC:PC :=
 (.reg [6,7] [I 17 (.ld true 7 (.s 4)),J (.st 7 (.s 6) (.s 17)),I 7 (.mv (V 0))])
def ZSD:PC :=
 (.reg [6,8,9] [I 19 (.mv (.s 0)),I 20 (.ld true 7 (.s 4)),I 21 (.ld true 7 (.s 5)),I 22 (C Xq [(.s 19),(.s 20),(.s 21)]),I 18 (.mv (.s 22)),I 23 (.ext (.s 18) 0),I 24 (.ext (.s 18) 1),I 8 (.mv (.s 23)),I 9 (.mv (.s 24))])
def ZSE:PC :=
 (.reg [6,8,9,26] [I 25 (.mv (.s 9)),I 26 (.bin .neq (.s 25) (V 0))])
def ZSF:PC :=
 (.reg [6,7] [I 27 (.build [(.int .u64 0),(.int .i64 0),(.int .i64 0),(.int .i64 0),(.int .i64 0),(.str []),.nils] []),I 28 (.mv (.s 9)),J (.st 7 (.s 6) (.s 27)),I 7 (.mv (.s 28))])
def ZSG:PC :=
 (.reg [6,7] [I 29 (.mv (.s 8)),I 30 (C QO [(.s 29)]),J (.st 7 (.s 6) (.s 30)),I 7 (.mv (V 0))])
def ZKp:PF:=⟨false,
 (.seq ZR8
 (.seq (.seq ZR9
 (.ite (.s 12)
 (.seq ZSA
 .ret)
 .skip))
 (.seq (.seq ZSB
 (.ite (.s 16)
 (.seq ZSC
 .ret)
 .skip))
 (.seq ZSD
 (.seq (.seq ZSE
 (.ite (.s 26)
 (.seq ZSF
 .ret)
 .skip))
 (.seq ZSG
 .ret)))))),
 [.c 6 true 7,.s 7]⟩
theorem ZZu:Zs Proofs.Tryz.prog false ZZt Proofs.Tryz.f203=some ZKp:=by kernel_rfl
def Zcf:List Hint:=[H [0,2,3,5],H [0,2,3,5,9],H [0,2,5,9,30],H [8],H [0,2,5,32],H [0,2,5,10],H [0,2,5,10,42],H [8],H [0,5,54],H [8],H [0,5,56,57,58],H [0,5,56,57,58,59],H [0,5,12,56,57,58],H [0,5,13,56,57,58],H [0,5,13,56,57,58,69],H [8],H [0,5,56,57,58],H [8]]
def ZWU:PC :=
 (.reg [0,2,3,5] [I 5 (.box (.s 1)),I 8 (.mv (V 0))])
def ZWV:PC :=
 (.reg [0,2,3,5,9] [I 14 (.ld true 7 (.s 5)),I 15 (C Qk [(.s 14)]),I 9 (.mv (.s 15))])
def ZWW:PC :=
 (.reg [0,2,5,9,30] [I 16 (.mv (.s 9)),I 17 (.bin .eql (.s 16) (V 0)),I 18 (.mv (.s 17)),G 19 18 false (.mv (.s 9)),G 20 18 false (.bin .eql (.s 19) (V 1)),I 21 (.pick (.s 18) (.v (.bool true)) (.s 20)),I 22 (.mv (.s 21)),G 23 22 false (.mv (.s 2)),G 24 22 false (.mv (.s 23)),G 25 24 true (.fadr 1 (.s 5)),G 26 24 true (.ld false 1 (.s 25)),G 27 24 true (.mv (.s 3)),G 28 24 true (.bin .neq (.s 26) (.s 27)),G 29 22 false (.pick (.s 24) (.s 28) (.v (.bool false))),I 30 (.pick (.s 22) (.v (.bool true)) (.s 29))])
def ZWX:PC :=
 (.reg [8] [I 8 (.mv (V 23))])
def ZWY:PC :=
 (.reg [0,2,5,32] [I 31 (.mv (.s 9)),I 32 (.bin .eql (.s 31) (V 2))])
def ZWZ:PC :=
 (.reg [0,2,5,10] [I 33 (.mv (.s 0)),I 34 (.fadr 0 (.s 5)),I 35 (.ld false 1 (.s 34)),I 36 (.fadr 1 (.s 5)),I 37 (.ld false 1 (.s 36)),I 38 (.fadr 2 (.s 5)),I 39 (.ld true 3 (.s 38)),I 40 (C ZDF [(.s 33),(.s 35),(.s 37),(.s 39)]),I 10 (.mv (.s 40))])
def ZWa:PC :=
 (.reg [0,2,5,10,42] [I 41 (.mv (.s 10)),I 42 (.bin .neq (.s 41) (V 0))])
def ZWb:PC :=
 (.reg [8] [I 43 (.mv (.s 10)),I 8 (.mv (.s 43))])
def ZWc:PC :=
 (.reg [0,5,54] [I 44 (.mv (.s 2)),I 45 (.mv (.s 44)),G 46 45 true (.fadr 1 (.s 5)),G 47 45 true (.ld false 1 (.s 46)),G 48 45 true (.bin .eql (.s 47) (V 0)),I 49 (.pick (.s 45) (.s 48) (.v (.bool false))),I 50 (.mv (.s 49)),G 51 50 true (.ld true 7 (.s 5)),G 52 50 true (C Qp [(.s 51)]),G 53 50 true (.bin .lss (.s 52) (V 8)),I 54 (.pick (.s 50) (.s 53) (.v (.bool false)))])
def ZWd:PC :=
 (.reg [8] [I 8 (.mv (V 23))])
def ZSH:PC :=
 (.reg [0,5,56,57,58] [I 55 (.fadr 6 (.s 5)),I 56 (.ld false 1 (.s 55)),I 57 (.len 1 (.s 56)),I 58 (.mv (V 0))])
def ZSI:PC :=
 (.reg [0,5,56,57,58,59] [I 59 (.bin .lss (.s 58) (.s 57))])
def ZSJ:PC :=
 (.reg [0,5,12,56,57,58] [I 60 (.ixS 7 (.s 56) (.s 58)),I 61 (.ld true 7 (.s 60)),I 12 (.box (.v ZT)),J (.st 7 (.s 12) (.s 61))])
def ZSK:PC :=
 (.reg [0,5,13,56,57,58] [I 62 (.mv (.s 0)),I 63 (.ld true 7 (.s 12)),I 64 (.fadr 1 (.s 5)),I 65 (.ld false 1 (.s 64)),I 66 (.bin .sub (.s 65) (V 1)),I 67 (C ZBo [(.s 62),(.s 63),(.v (.bool true)),(.s 66)]),I 13 (.mv (.s 67))])
def ZSL:PC :=
 (.reg [0,5,13,56,57,58,69] [I 68 (.mv (.s 13)),I 69 (.bin .neq (.s 68) (V 0))])
def ZSM:PC :=
 (.reg [8] [I 70 (.mv (.s 13)),I 8 (.mv (.s 70))])
def ZSN:PC :=
 (.reg [0,5,56,57,58] [I 71 (.bin .add (.s 58) (V 1)),I 58 (.mv (.s 71))])
def ZGc:PC :=
 (.seq ZSI
 (.seq (.ite (.s 59)
 .skip
 (.exit 0))
 (.seq (.block 1
 (.seq ZSJ
 (.seq ZSK
 (.seq ZSL
 (.ite (.s 69)
 (.seq ZSM
 .ret)
 .skip)))))
 ZSN)))
def ZSO:PC :=
 (.reg [8] [I 8 (.mv (V 0))])
def ZNc:PF:=⟨false,
 (.seq ZWU
 (.seq ZWV
 (.seq (.seq ZWW
 (.ite (.s 30)
 (.seq ZWX
 .ret)
 .skip))
 (.seq (.seq ZWY
 (.ite (.s 32)
 (.seq ZWZ
 (.seq ZWa
 (.ite (.s 42)
 (.seq ZWb
 .ret)
 .skip)))
 .skip))
 (.seq (.seq ZWc
 (.ite (.s 54)
 (.seq ZWd
 .ret)
 .skip))
 (.seq (.seq ZSH
 (.block 0
 (.loop ZGc)))
 (.seq ZSO
 .ret))))))),
 [.s 8]⟩
theorem Zcg:Zs Proofs.Tryz.prog false Zcf Proofs.Tryz.f204=some ZNc:=by kernel_rfl
def ZgF:List Hint:=[H [1],H [1,3],H [1,3,4],H [1,3,14],H [1,3],H [3,16,17,18],H [3,16,17,18,19],H [3,6,16,17,18],H [3,16,17,18],H [3,16,17,18],H [2]]
def Zch:PC :=
 (.reg [1] [I 1 (.box (.s 0)),I 2 (.mv (V 0))])
def Zci:PC :=
 (.reg [1,3] [I 3 (.mv (V 0))])
def Zcj:PC :=
 (.reg [1,3,4] [I 7 (.ld true 7 (.s 1)),I 8 (C Qk [(.s 7)]),I 4 (.mv (.s 8))])
def Zck:PC :=
 (.reg [1,3,14] [I 9 (.mv (.s 4)),I 10 (.bin .eql (.s 9) (V 3)),I 11 (.mv (.s 10)),G 12 11 false (.mv (.s 4)),G 13 11 false (.bin .eql (.s 12) (V 4)),I 14 (.pick (.s 11) (.v (.bool true)) (.s 13))])
def Zcl:PC :=
 (.reg [1,3] [I 3 (.mv (V 1))])
def Zcm:PC :=
 (.reg [3,16,17,18] [I 15 (.fadr 6 (.s 1)),I 16 (.ld false 1 (.s 15)),I 17 (.len 1 (.s 16)),I 18 (.mv (V 0))])
def Zcn:PC :=
 (.reg [3,16,17,18,19] [I 19 (.bin .lss (.s 18) (.s 17))])
def Zco:PC :=
 (.reg [3,6,16,17,18] [I 20 (.ixS 7 (.s 16) (.s 18)),I 21 (.ld true 7 (.s 20)),I 6 (.box (.v ZT)),J (.st 7 (.s 6) (.s 21))])
def Zcp:PC :=
 (.reg [3,16,17,18] [I 22 (.mv (.s 3)),I 23 (.ld true 7 (.s 6)),I 24 (C ZAP [(.s 23)]),I 25 (.bin .add (.s 22) (.s 24)),I 3 (.mv (.s 25))])
def Zcq:PC :=
 (.reg [3,16,17,18] [I 26 (.bin .add (.s 18) (V 1)),I 18 (.mv (.s 26))])
def ZZv:PC :=
 (.seq Zcn
 (.seq (.ite (.s 19)
 .skip
 (.exit 0))
 (.seq (.block 1
 (.seq Zco
 Zcp))
 Zcq)))
def ZZw:PC :=
 (.reg [2] [I 27 (.mv (.s 3)),I 2 (.mv (.s 27))])
def ZWe:PF:=⟨false,
 (.seq Zch
 (.seq Zci
 (.seq (.seq Zcj
 (.seq Zck
 (.ite (.s 14)
 Zcl
 .skip)))
 (.seq (.seq Zcm
 (.block 0
 (.loop ZZv)))
 (.seq ZZw
 .ret))))),
 [.s 2]⟩
theorem ZgG:Zs Proofs.Tryz.prog false ZgF Proofs.Tryz.f205=some ZWe:=by kernel_rfl
def ZWf:List Hint:=[H [0,3],H [0,3,5],H [0,3,5,80],H [0,3,5,95],H [0,5,6],H [0,5,6],H [5],⟨[0,3,5,7],[0],[],[],[],[]⟩,H [0,3,5,7,20,21,22],H [0,3,5,7,20,21,22,23],H [0,3,5,7,9,20,21,22],H [0,3,5,7,10,20,21,22],⟨[0,3,5,7,10,20,21,22],[2],[],[],[],[]⟩,H [0,3,5,7,10,20,21,22],H [0,3,5,7,10,20,21,22],H [0,3,5,7,20,21,22],H [0,3,5,7,20,21,22],H [5],H [4]]
def ZPc:PC :=
 (.reg [0,3] [I 3 (.box (.s 1)),I 4 (.mv (.v .nilptr))])
def ZPd:PC :=
 (.reg [0,3,5] [I 11 (.fadr 1 (.s 3)),I 12 (.ld false 1 (.s 11)),I 13 (.fadr 2 (.s 3)),I 14 (.ld true 3 (.s 13)),I 15 (.fadr 0 (.s 3)),I 16 (.ld false 1 (.s 15)),I 17 (.build [(.int .u64 0),(.int .i64 0),(.int .i64 0),(.int .i64 0),(.int .i64 0)] [(1,1,(.s 12)),(2,3,(.s 14)),(0,1,(.s 16))]),I 18 (.box (.s 17)),I 5 (.mv (.s 18))])
def ZPe:PC :=
 (.reg [0,3,5,80] [I 81 (.fadr 0 (.s 3)),I 82 (.ld false 1 (.s 81)),I 83 (.bin .neq (.s 82) (.v (.int .u64 0))),I 84 (.mv (.s 83)),G 85 84 false (.fadr 5 (.s 3)),G 86 84 false (.ld false 1 (.s 85)),G 87 84 false (.bin .eql (.s 86) (.v (.str []))),G 88 84 false (.mv (.s 87)),G 89 88 true (.fadr 6 (.s 3)),G 90 88 true (.ld false 1 (.s 89)),G 91 88 true (.len 1 (.s 90)),G 92 88 true (.bin .eql (.s 91) (V 0)),G 93 84 false (.pick (.s 88) (.s 92) (.v (.bool false))),I 94 (.pick (.s 84) (.v (.bool true)) (.s 93)),I 80 (.mv (.s 94))])
def ZPf:PC :=
 (.reg [0,3,5,95] [I 96 (.fadr 1 (.s 3)),I 97 (.ld false 1 (.s 96)),I 98 (.bin .eql (.s 97) (V 0)),I 95 (.mv (.s 98))])
def ZPg:PC :=
 (.reg [0,5,6] [I 99 (.fadr 5 (.s 3)),I 100 (.ld false 1 (.s 99)),I 101 (.build [(.int .i64 0),(.str []),.nils] [(1,1,(.s 100))]),I 6 (.box (.v ZN)),J (.st 3 (.s 6) (.s 101))])
def ZPh:PC :=
 (.reg [0,5,6] [I 103 (.mv (.s 5)),I 104 (.ld true 3 (.s 6)),I 105 (C J9 [(.s 104)]),I 102 (.mv (.s 105)),I 106 (.ext (.s 102) 0),I 107 (.ext (.s 102) 1),I 108 (.nilck (.s 103)),I 109 (.fadr 2 (.s 108)),J (.st 3 (.s 109) (.s 106))])
def ZPi:PC :=
 (.reg [5] [I 110 (.mv (.s 0)),I 111 (.mv (.s 5)),I 112 (.mkf (.func Ji) [] [(.s 6)]),I 113 (C Xr [(.s 110),(.s 111),(.s 112)])])
def ZPj:PC :=
 (.reg [0,3,5,7] [I 7 (.boxnil 1)])
def ZPk:PC :=
 (.reg [0,3,5,7,20,21,22] [I 19 (.fadr 6 (.s 3)),I 20 (.ld false 1 (.s 19)),I 21 (.len 1 (.s 20)),I 22 (.mv (V 0))])
def ZPl:PC :=
 (.reg [0,3,5,7,20,21,22,23] [I 23 (.bin .lss (.s 22) (.s 21))])
def ZNd:PC :=
 (.reg [0,3,5,7,9,20,21,22] [I 24 (.ixS 7 (.s 20) (.s 22)),I 25 (.ld true 7 (.s 24)),I 9 (.box (.v ZT)),J (.st 7 (.s 9) (.s 25))])
def ZNe:PC :=
 (.reg [0,3,5,7,10,20,21,22] [I 26 (.mv (.s 0)),I 27 (.ld true 7 (.s 9)),I 28 (C Qn [(.s 26),(.s 27)]),I 10 (.mv (.s 28))])
def ZNf:PC :=
 (.reg [0,3,5,7,10,20,21,22] [I 29 (.ld false 1 (.s 7)),I 30 (.mv (.s 10)),I 31 (.bslice true 1 [.nilptr] [(0,(.s 30))]),I 32 (.app 1 8 (.s 29) (.s 31)),J (.st 1 (.s 7) (.s 32))])
def ZDK:PC :=
 (.reg [0,3,5,7,10,20,21,22] [I 33 (.mv (.s 5)),I 34 (.nilck (.s 33)),I 35 (.fadr 2 (.s 34)),I 36 (.fadr 0 (.s 35)),I 37 (.ld false 1 (.s 36)),I 38 (.mv (.s 10)),I 39 (.nilck (.s 38)),I 40 (.fadr 2 (.s 39)),I 41 (.fadr 0 (.s 40)),I 42 (.ld false 1 (.s 41)),I 43 (.bin .add (.s 37) (.s 42)),I 44 (.nilck (.s 33)),I 45 (.fadr 2 (.s 44)),I 46 (.fadr 0 (.s 45)),J (.st 1 (.s 46) (.s 43))])
def ZDL:PC :=
 (.reg [0,3,5,7,10,20,21,22] [I 47 (.mv (.s 5)),I 48 (.nilck (.s 47)),I 49 (.fadr 2 (.s 48)),I 50 (.fadr 1 (.s 49)),I 51 (.ld false 1 (.s 50)),I 52 (.mv (.s 10)),I 53 (.nilck (.s 52)),I 54 (.fadr 2 (.s 53)),I 55 (.fadr 1 (.s 54)),I 56 (.ld false 1 (.s 55)),I 57 (.bin .add (.s 51) (.s 56)),I 58 (.nilck (.s 47)),I 59 (.fadr 2 (.s 58)),I 60 (.fadr 1 (.s 59)),J (.st 1 (.s 60) (.s 57))])
def ZDM:PC :=
 (.reg [0,3,5,7,20,21,22] [I 61 (.mv (.s 5)),I 62 (.nilck (.s 61)),I 63 (.fadr 2 (.s 62)),I 64 (.fadr 2 (.s 63)),I 65 (.ld false 1 (.s 64)),I 66 (.mv (.s 10)),I 67 (.nilck (.s 66)),I 68 (.fadr 2 (.s 67)),I 69 (.fadr 2 (.s 68)),I 70 (.ld false 1 (.s 69)),I 71 (.bin .add (.s 65) (.s 70)),I 72 (.nilck (.s 61)),I 73 (.fadr 2 (.s 72)),I 74 (.fadr 2 (.s 73)),J (.st 1 (.s 74) (.s 71))])
def ZNg:PC :=
 (.reg [0,3,5,7,20,21,22] [I 75 (.bin .add (.s 22) (V 1)),I 22 (.mv (.s 75))])
def ZNh:PC :=
 (.seq ZPl
 (.seq (.ite (.s 23)
 .skip
 (.exit 1))
 (.seq (.block 2
 (.seq ZNd
 (.seq ZNe
 (.seq ZNf
 (.seq ZDK
 (.seq ZDL
 ZDM))))))
 ZNg)))
def ZNi:PC :=
 (.reg [5] [I 76 (.mv (.s 0)),I 77 (.mv (.s 5)),I 78 (.mkf (.func JI) [] [(.s 3),(.s 7)]),I 79 (C Xr [(.s 76),(.s 77),(.s 78)])])
def ZNj:PC :=
 (.reg [4] [I 114 (.mv (.s 5)),I 4 (.mv (.s 114))])
def ZJS:PF:=⟨true,
 (.seq ZPc
 (.seq ZPd
 (.seq (.block 0
 (.seq ZPe
 (.ite (.s 80)
 .skip
 (.seq ZPf
 (.ite (.s 95)
 (.seq ZPg
 (.seq ZPh
 ZPi))
 (.seq ZPj
 (.seq (.seq ZPk
 (.block 1
 (.loop ZNh)))
 ZNi)))))))
 (.seq ZNj
 .ret)))),
 [.s 4]⟩
theorem ZWg:Zs Proofs.Tryz.prog true ZWf Proofs.Tryz.f206=some ZJS:=by kernel_rfl
def ZZx:List Hint:=[H []]
def ZSP:PC :=
 (.reg [] [I 1 (.box (.s 0))])
def ZKq:PF:=⟨false,
 ZSP,
 []⟩
theorem ZZy:Zs Proofs.Tryz.prog false ZZx Proofs.Tryz.f207=some ZKq:=by kernel_rfl
def ZPm:List Hint:=[H [0],H [2]]
def ZLe:PC :=
 (.reg [0] [I 2 (.mv (.v (.bool false)))])
def ZLf:PC :=
 (.reg [2] [I 3 (.mv (.s 0)),I 4 (.bin .lss (.s 3) (.v (.int .u8 128))),I 5 (.mv (.s 4)),G 6 5 false (.mv (.s 0)),G 7 5 false (.bin .gtr (.s 6) (.v (.int .u8 191))),I 8 (.pick (.s 5) (.v (.bool true)) (.s 7)),I 2 (.mv (.s 8))])
def ZEA:PF:=⟨false,
 (.seq ZLe
 (.seq ZLf
 .ret)),
 [.s 2]⟩
theorem ZPn:Zs Proofs.Tryz.prog false ZPm Proofs.Tryz.f208=some ZEA:=by kernel_rfl
def Zef:List Hint:=[H [0,1],H [0,1,9],H [4,5,6],H [0,1,17],H [4,5,6],H [4,5,6]]
def ZZz:PC :=
 (.reg [0,1] [I 4 (.mv (.v (.str []))),I 5 (.mv (.v (.str []))),I 6 (.mv (V 0))])
def ZZ0:PC :=
 (.reg [0,1,9] [I 7 (.mv (.s 0)),I 8 (C Xs [(.s 7)]),I 9 (.un .not (.s 8))])
def ZZ1:PC :=
 (.reg [4,5,6] [I 4 (.mv (.v (.str []))),I 5 (.mv (.v (.str []))),I 6 (.mv (V 2))])
def ZZ2:PC :=
 (.reg [0,1,17] [I 10 (.mv (.s 1)),I 11 (.bin .lss (.s 10) (V 0)),I 12 (.mv (.s 11)),G 13 12 false (.mv (.s 1)),G 14 12 false (.mv (.s 0)),G 15 12 false (.len 0 (.s 14)),G 16 12 false (.bin .gtr (.s 13) (.s 15)),I 17 (.pick (.s 12) (.v (.bool true)) (.s 16))])
def ZZ3:PC :=
 (.reg [4,5,6] [I 4 (.mv (.v (.str []))),I 5 (.mv (.v (.str []))),I 6 (.mv (V 3))])
def ZZ4:PC :=
 (.reg [4,5,6] [I 18 (.mv (.s 0)),I 19 (.mv (.s 1)),I 20 (.slcS (.s 18) none (some (.s 19))),I 21 (.mv (.s 0)),I 22 (.mv (.s 1)),I 23 (.slcS (.s 21) (some (.s 22)) none),I 4 (.mv (.s 20)),I 5 (.mv (.s 23)),I 6 (.mv (V 0))])
def ZQ0:PF:=⟨false,
 (.seq ZZz
 (.seq (.seq ZZ0
 (.ite (.s 9)
 (.seq ZZ1
 .ret)
 .skip))
 (.seq (.seq ZZ2
 (.ite (.s 17)
 (.seq ZZ3
 .ret)
 .skip))
 (.seq ZZ4
 .ret)))),
 [.s 4,.s 5,.s 6]⟩
theorem Zeg:Zs Proofs.Tryz.prog false Zef Proofs.Tryz.f213=some ZQ0:=by kernel_rfl
def Zeh:List Hint:=[H [0,2,4],H [8,9,11],H [8,9,11,22],H [6,7],H [8,9,31],H [6,7],H [6,7]]
def ZZ5:PC :=
 (.reg [0,2,4] [I 4 (.box (.s 1)),I 6 (.mv (.v (.int .u8 0))),I 7 (.mv (V 0))])
def ZZ6:PC :=
 (.reg [8,9,11] [I 13 (.mv (.s 0)),I 14 (.ld true 5 (.s 4)),I 15 (.mv (.s 2)),I 16 (C ZIH [(.s 13),(.s 14),(.s 15)]),I 12 (.mv (.s 16)),I 17 (.ext (.s 12) 0),I 18 (.ext (.s 12) 1),I 19 (.ext (.s 12) 2),I 20 (.ext (.s 12) 3),I 8 (.mv (.s 17)),I 9 (.mv (.s 18)),I 10 (.mv (.s 19)),I 11 (.mv (.s 20))])
def ZZ7:PC :=
 (.reg [8,9,11,22] [I 21 (.mv (.s 11)),I 22 (.bin .neq (.s 21) (V 0))])
def ZZ8:PC :=
 (.reg [6,7] [I 23 (.mv (.s 11)),I 6 (.mv (.v (.int .u8 0))),I 7 (.mv (.s 23))])
def ZZ9:PC :=
 (.reg [8,9,31] [I 24 (.mv (.s 9)),I 25 (.bin .lss (.s 24) (V 0)),I 26 (.mv (.s 25)),G 27 26 false (.mv (.s 9)),G 28 26 false (.mv (.s 8)),G 29 26 false (.len 0 (.s 28)),G 30 26 false (.bin .geq (.s 27) (.s 29)),I 31 (.pick (.s 26) (.v (.bool true)) (.s 30))])
def ZaA:PC :=
 (.reg [6,7] [I 6 (.mv (.v (.int .u8 0))),I 7 (.mv (V 23))])
def ZaB:PC :=
 (.reg [6,7] [I 32 (.mv (.s 8)),I 33 (.mv (.s 9)),I 34 (.ixStr (.s 32) (.s 33)),I 6 (.mv (.s 34)),I 7 (.mv (V 0))])
def ZQ1:PF:=⟨false,
 (.seq ZZ5
 (.seq ZZ6
 (.seq (.seq ZZ7
 (.ite (.s 22)
 (.seq ZZ8
 .ret)
 .skip))
 (.seq (.seq ZZ9
 (.ite (.s 31)
 (.seq ZaA
 .ret)
 .skip))
 (.seq ZaB
 .ret))))),
 [.s 6,.s 7]⟩
theorem Zei:Zs Proofs.Tryz.prog false Zeh Proofs.Tryz.f218=some ZQ1:=by kernel_rfl
def ZWh:List Hint:=[H [1],H [2]]
def ZPo:PC :=
 (.reg [1] [I 1 (.box (.s 0)),I 2 (.mv (V 0))])
def ZPp:PC :=
 (.reg [2] [I 3 (.fadr 0 (.s 1)),I 4 (.ld false 1 (.s 3)),I 2 (.mv (.s 4))])
def ZJT:PF:=⟨false,
 (.seq ZPo
 (.seq ZPp
 .ret)),
 [.s 2]⟩
theorem ZWi:Zs Proofs.Tryz.prog false ZWh Proofs.Tryz.f219=some ZJT:=by kernel_rfl
def ZSQ:List Hint:=[H [0,1],H [0,1,5],H [0,1,5,8,9],H [0,1,5,8,9,10],H [0,1,5,6,8,9],H [0,1,5,8,9,16],H [0,1,5,8,9],H [0,1,5,8,9],H [4]]
def ZNk:PC :=
 (.reg [0,1] [I 4 (.mv (V 0))])
def ZNl:PC :=
 (.reg [0,1,5] [I 5 (.mv (V 0))])
def ZNm:PC :=
 (.reg [0,1,5,8,9] [I 7 (.mv (.s 0)),I 8 (.len 0 (.s 7)),I 9 (.mv (V 0))])
def ZNn:PC :=
 (.reg [0,1,5,8,9,10] [I 10 (.bin .lss (.s 9) (.s 8))])
def ZNo:PC :=
 (.reg [0,1,5,6,8,9] [I 11 (.mv (.s 9)),I 6 (.mv (.s 11))])
def ZNp:PC :=
 (.reg [0,1,5,8,9,16] [I 12 (.mv (.s 1)),I 13 (.mv (.s 0)),I 14 (.mv (.s 6)),I 15 (.ixStr (.s 13) (.s 14)),I 16 (.call .norm (.s 12) [(.s 15)])])
def ZNq:PC :=
 (.reg [0,1,5,8,9] [I 17 (.mv (.s 5)),I 18 (.bin .add (.s 17) (V 1)),I 5 (.mv (.s 18))])
def ZNr:PC :=
 (.reg [0,1,5,8,9] [I 19 (.bin .add (.s 9) (V 1)),I 9 (.mv (.s 19))])
def ZNs:PC :=
 (.seq ZNn
 (.seq (.ite (.s 10)
 .skip
 (.exit 0))
 (.seq (.block 1
 (.seq ZNo
 (.seq ZNp
 (.ite (.s 16)
 ZNq
 .skip))))
 ZNr)))
def ZNt:PC :=
 (.reg [4] [I 20 (.mv (.s 5)),I 4 (.mv (.s 20))])
def ZGd:PF:=⟨false,
 (.seq ZNk
 (.seq ZNl
 (.seq (.seq ZNm
 (.block 0
 (.loop ZNs)))
 (.seq ZNt
 .ret)))),
 [.s 4]⟩
theorem ZSR:Zs Proofs.Tryz.prog false ZSQ Proofs.Tryz.f220=some ZGd:=by kernel_rfl
def Zcr:List Hint:=[H [1],H [1,5],H [2],H [9],H [2],H [2]]
def ZWj:PC :=
 (.reg [1] [I 1 (.box (.s 0)),I 2 (.mv (V 0))])
def ZWk:PC :=
 (.reg [1,5] [I 3 (.ld true 3 (.s 1)),I 4 (C ZAb [(.s 3)]),I 5 (.un .not (.s 4))])
def ZWl:PC :=
 (.reg [2] [I 2 (.mv (V 23))])
def ZWm:PC :=
 (.reg [9] [I 6 (.ld true 3 (.s 1)),I 7 (C ZCK [(.s 6)]),I 8 (.fld false 0 1 (.s 7)),I 9 (.bin .gtr (.s 8) (V 65536))])
def ZWn:PC :=
 (.reg [2] [I 2 (.mv (V 5))])
def ZWo:PC :=
 (.reg [2] [I 2 (.mv (V 0))])
def ZNu:PF:=⟨false,
 (.seq ZWj
 (.seq (.seq ZWk
 (.ite (.s 5)
 (.seq ZWl
 .ret)
 .skip))
 (.seq (.seq ZWm
 (.ite (.s 9)
 (.seq ZWn
 .ret)
 .skip))
 (.seq ZWo
 .ret)))),
 [.s 2]⟩
theorem Zcs:Zs Proofs.Tryz.prog false Zcr Proofs.Tryz.f221=some ZNu:=by kernel_rfl
def ZgH:List Hint:=[H [1,2],H [1,2,8],H [2],⟨[1,2,3],[0],[],[],[],[]⟩,H [2,3,13,14,15],H [2,3,13,14,15,16],H [2,3,5,13,14,15],H [2,3,13,14,15],H [2,3,13,14,15],H [2]]
def Zct:PC :=
 (.reg [1,2] [I 1 (.box (.s 0)),I 2 (.box (.v ZM))])
def Zcu:PC :=
 (.reg [1,2,8] [I 6 (.fadr 0 (.s 1)),I 7 (.ld false 1 (.s 6)),I 8 (.bin .eql (.s 7) (V 0))])
def Zcv:PC :=
 (.reg [2] [I 9 (.fadr 1 (.s 1)),I 10 (.ld false 1 (.s 9)),I 11 (C ZEm [(.s 10)]),J (.st 3 (.s 2) (.s 11))])
def Zcw:PC :=
 (.reg [1,2,3] [I 3 (.onil 3)])
def Zcx:PC :=
 (.reg [2,3,13,14,15] [I 12 (.fadr 2 (.s 1)),I 13 (.ld false 1 (.s 12)),I 14 (.len 1 (.s 13)),I 15 (.mv (V 0))])
def Zcy:PC :=
 (.reg [2,3,13,14,15,16] [I 16 (.bin .lss (.s 15) (.s 14))])
def Zcz:PC :=
 (.reg [2,3,5,13,14,15] [I 17 (.ixS 4 (.s 13) (.s 15)),I 18 (.ld true 4 (.s 17)),I 5 (.box (.v ZK)),J (.st 4 (.s 5) (.s 18))])
def Zc0:PC :=
 (.reg [2,3,13,14,15] [I 19 (.mv (.s 3)),I 20 (.fadr 1 (.s 5)),I 21 (.ld true 3 (.s 20)),I 22 (.bslice false 3 [ZM] [(0,(.s 21))]),I 23 (.app 3 24 (.s 19) (.s 22)),I 3 (.mv (.s 23))])
def Zc1:PC :=
 (.reg [2,3,13,14,15] [I 24 (.bin .add (.s 15) (V 1)),I 15 (.mv (.s 24))])
def Zc2:PC :=
 (.seq Zcy
 (.seq (.ite (.s 16)
 .skip
 (.exit 0))
 (.seq (.block 1
 (.seq Zcz
 Zc0))
 Zc1)))
def ZaC:PC :=
 (.reg [2] [I 25 (.mv (.s 3)),I 26 (C ZDW [(.s 25)]),J (.st 3 (.s 2) (.s 26))])
def ZWp:PF:=⟨false,
 (.seq Zct
 (.seq (.seq Zcu
 (.ite (.s 8)
 (.seq Zcv
 .ret)
 .skip))
 (.seq Zcw
 (.seq (.seq Zcx
 (.block 0
 (.loop Zc2)))
 (.seq ZaC
 .ret))))),
 [.c 2 true 3]⟩
theorem ZgI:Zs Proofs.Tryz.prog false ZgH Proofs.Tryz.f222=some ZWp:=by kernel_rfl
def ZaD:List Hint:=[H [1,2],H [1,2,10],H [4],H [1,2,5],H [2,5,17],H [2,5],H [5,6],H [5,6,7],H [6,7,23,24],H [6,7,23,24,25],H [6,7,8,23,24],H [6,7,23,24],H [6,7,23,24],H [4]]
def ZSS:PC :=
 (.reg [1,2] [I 2 (.box (.s 0)),I 4 (.mv (.v .nils))])
def ZST:PC :=
 (.reg [1,2,10] [I 9 (.ld false 1 (.s 2)),I 10 (.bin .eql (.s 9) (V 0))])
def ZSU:PC :=
 (.reg [4] [I 4 (.mv (.v .nils))])
def ZSV:PC :=
 (.reg [1,2,5] [I 11 (.ld false 1 (.s 2)),I 12 (.mv (.s 1)),I 13 (.bin .quo (.s 11) (.s 12)),I 5 (.box (V 0)),J (.st 1 (.s 5) (.s 13))])
def ZSW:PC :=
 (.reg [2,5,17] [I 14 (.ld false 1 (.s 2)),I 15 (.mv (.s 1)),I 16 (.bin .rem (.s 14) (.s 15)),I 17 (.bin .gtr (.s 16) (V 0))])
def ZSX:PC :=
 (.reg [2,5] [I 18 (.ld false 1 (.s 5)),I 19 (.bin .add (.s 18) (V 1)),J (.st 1 (.s 5) (.s 19))])
def ZSY:PC :=
 (.reg [5,6] [I 20 (.mkf (.func Js) [] [(.s 2),(.s 5)]),I 6 (.mv (.s 20))])
def ZSZ:PC :=
 (.reg [5,6,7] [I 21 (.ld false 1 (.s 5)),I 22 (.mkslice 1 8 (.int .i64 0) (.s 21) (.s 21)),I 7 (.mv (.s 22))])
def ZSa:PC :=
 (.reg [6,7,23,24] [I 23 (.ld false 1 (.s 5)),I 24 (.mv (V 0))])
def ZSb:PC :=
 (.reg [6,7,23,24,25] [I 25 (.bin .lss (.s 24) (.s 23))])
def ZPq:PC :=
 (.reg [6,7,8,23,24] [I 26 (.mv (.s 24)),I 8 (.mv (.s 26))])
def ZPr:PC :=
 (.reg [6,7,23,24] [I 27 (.mv (.s 7)),I 28 (.mv (.s 8)),I 29 (.mv (.s 6)),I 30 (.mv (.s 8)),I 31 (.call .norm (.s 29) [(.s 30)]),I 32 (.ixS 1 (.s 27) (.s 28)),J (.st 1 (.s 32) (.s 31))])
def ZPs:PC :=
 (.reg [6,7,23,24] [I 33 (.bin .add (.s 24) (V 1)),I 24 (.mv (.s 33))])
def ZEB:PC :=
 (.seq ZSb
 (.seq (.ite (.s 25)
 .skip
 (.exit 0))
 (.seq (.block 1
 (.seq ZPq
 ZPr))
 ZPs)))
def ZPt:PC :=
 (.reg [4] [I 34 (.mv (.s 7)),I 4 (.mv (.s 34))])
def ZKr:PF:=⟨false,
 (.seq ZSS
 (.seq (.seq ZST
 (.ite (.s 10)
 (.seq ZSU
 .ret)
 .skip))
 (.seq ZSV
 (.seq (.seq ZSW
 (.ite (.s 17)
 ZSX
 .skip))
 (.seq ZSY
 (.seq ZSZ
 (.seq (.seq ZSa
 (.block 0
 (.loop ZEB)))
 (.seq ZPt
 .ret)))))))),
 [.s 4]⟩
theorem ZaE:Zs Proofs.Tryz.prog false ZaD Proofs.Tryz.f223=some ZKr:=by kernel_rfl
def Zc3:List Hint:=[H [0,4,5],H [0,4,5,22],H [6,7],H [0,4,5,8,9],H [0,4,5,8,9],H [0,4,5,8,9,33],H [0,4,5,8,9,10],H [0,4,5,8,9,10,41],H [6,7],H [0,4,5,8,9,47],H [0,4,5,8,9,10],H [0,4,5,8,9,10,55],H [6,7],H [0,4,5,8,9,57],H [6,7],H [0,4,5,8,9,78],H [6,7],H [0,4,5,8,9,87],H [0,5,8,11],H [8,11,12,13],H [8,11,12,13,107],H [6,7],H [6,7],H [9,10,14],H [9,10,14,127],H [6,7],⟨[6,7],[],[],[],[(4,.blind),(2,.app0),(0,.imm)],[]⟩]
def ZWq:PC :=
 (.reg [0,4,5] [I 4 (.box (.s 1)),I 5 (.box (.s 2)),I 6 (.mv (.v .nils)),I 7 (.mv (V 0))])
def ZWr:PC :=
 (.reg [0,4,5,22] [I 15 (.fadr 1 (.s 4)),I 16 (.ld false 1 (.s 15)),I 17 (.bin .eql (.s 16) (V 0)),I 18 (.mv (.s 17)),G 19 18 true (.fadr 1 (.s 5)),G 20 18 true (.ld false 1 (.s 19)),G 21 18 true (.bin .eql (.s 20) (V 0)),I 22 (.pick (.s 18) (.s 21) (.v (.bool false)))])
def ZWs:PC :=
 (.reg [6,7] [I 23 (.mv (.s 0)),I 24 (.ld true 7 (.s 4)),I 25 (.ld true 7 (.s 5)),I 26 (C ZDX [(.s 23),(.s 24),(.s 25)]),I 27 (.ext (.s 26) 0),I 28 (.ext (.s 26) 1),I 6 (.mv (.s 27)),I 7 (.mv (.s 28))])
def ZWt:PC :=
 (.reg [0,4,5,8,9] [I 8 (.mv (.v .nils)),I 9 (.mv (.v .nils))])
def ZWu:PC :=
 (.reg [0,4,5,8,9] [I 10 (.mv (V 0))])
def ZWv:PC :=
 (.reg [0,4,5,8,9,33] [I 29 (.fadr 1 (.s 4)),I 30 (.ld false 1 (.s 29)),I 31 (.fadr 1 (.s 5)),I 32 (.ld false 1 (.s 31)),I 33 (.bin .geq (.s 30) (.s 32))])
def ZWw:PC :=
 (.reg [0,4,5,8,9,10] [I 35 (.mv (.s 0)),I 36 (.ld true 7 (.s 4)),I 37 (C Jr [(.s 35),(.s 36)]),I 34 (.mv (.s 37)),I 38 (.ext (.s 34) 0),I 39 (.ext (.s 34) 1),I 8 (.mv (.s 38)),I 10 (.mv (.s 39))])
def ZWx:PC :=
 (.reg [0,4,5,8,9,10,41] [I 40 (.mv (.s 10)),I 41 (.bin .neq (.s 40) (V 0))])
def ZWy:PC :=
 (.reg [6,7] [I 42 (.mv (.s 10)),I 6 (.mv (.v .nils)),I 7 (.mv (.s 42))])
def ZWz:PC :=
 (.reg [0,4,5,8,9,47] [I 43 (.fadr 1 (.s 5)),I 44 (.ld false 1 (.s 43)),I 45 (.fadr 1 (.s 4)),I 46 (.ld false 1 (.s 45)),I 47 (.bin .geq (.s 44) (.s 46))])
def ZSc:PC :=
 (.reg [0,4,5,8,9,10] [I 49 (.mv (.s 0)),I 50 (.ld true 7 (.s 5)),I 51 (C Jr [(.s 49),(.s 50)]),I 48 (.mv (.s 51)),I 52 (.ext (.s 48) 0),I 53 (.ext (.s 48) 1),I 9 (.mv (.s 52)),I 10 (.mv (.s 53))])
def ZSd:PC :=
 (.reg [0,4,5,8,9,10,55] [I 54 (.mv (.s 10)),I 55 (.bin .neq (.s 54) (V 0))])
def ZSe:PC :=
 (.reg [6,7] [I 56 (.mv (.s 10)),I 6 (.mv (.v .nils)),I 7 (.mv (.s 56))])
def ZSf:PC :=
 (.reg [0,4,5,8,9,57] [I 58 (.fadr 1 (.s 4)),I 59 (.ld false 1 (.s 58)),I 60 (.fadr 1 (.s 5)),I 61 (.ld false 1 (.s 60)),I 62 (.bin .eql (.s 59) (.s 61)),I 63 (.mv (.s 62)),G 64 63 true (.mv (.s 8)),G 65 63 true (.len 1 (.s 64)),G 66 63 true (.mv (.s 9)),G 67 63 true (.len 1 (.s 66)),G 68 63 true (.bin .add (.s 65) (.s 67)),G 69 63 true (.bin .leq (.s 68) (V 4)),I 70 (.pick (.s 63) (.s 69) (.v (.bool false))),I 57 (.mv (.s 70))])
def ZSg:PC :=
 (.reg [6,7] [I 71 (.bslice false 7 [] []),I 72 (.mv (.s 8)),I 73 (.app 7 80 (.s 71) (.s 72)),I 74 (.mv (.s 9)),I 75 (.app 7 80 (.s 73) (.s 74)),I 76 (C QO [(.s 75)]),I 77 (.bslice false 7 [ZT] [(0,(.s 76))]),I 6 (.mv (.s 77)),I 7 (.mv (V 0))])
def ZSh:PC :=
 (.reg [0,4,5,8,9,78] [I 79 (.fadr 1 (.s 4)),I 80 (.ld false 1 (.s 79)),I 81 (.fadr 1 (.s 5)),I 82 (.ld false 1 (.s 81)),I 83 (.bin .eql (.s 80) (.s 82)),I 78 (.mv (.s 83))])
def ZSi:PC :=
 (.reg [6,7] [I 84 (.ld true 7 (.s 4)),I 85 (.ld true 7 (.s 5)),I 86 (.bslice false 7 [ZT,ZT] [(0,(.s 84)),(1,(.s 85))]),I 6 (.mv (.s 86)),I 7 (.mv (V 0))])
def ZSj:PC :=
 (.reg [0,4,5,8,9,87] [I 88 (.fadr 1 (.s 4)),I 89 (.ld false 1 (.s 88)),I 90 (.fadr 1 (.s 5)),I 91 (.ld false 1 (.s 90)),I 92 (.bin .gtr (.s 89) (.s 91)),I 87 (.mv (.s 92))])
def ZSk:PC :=
 (.reg [0,5,8,11] [I 93 (.mv (.s 8)),I 94 (.len 1 (.s 93)),I 95 (.bin .sub (.s 94) (V 1)),I 11 (.mv (.s 95))])
def ZSl:PC :=
 (.reg [8,11,12,13] [I 97 (.mv (.s 0)),I 98 (.mv (.s 8)),I 99 (.mv (.s 11)),I 100 (.ixS 7 (.s 98) (.s 99)),I 101 (.ld true 7 (.s 100)),I 102 (.ld true 7 (.s 5)),I 103 (C Xq [(.s 97),(.s 101),(.s 102)]),I 96 (.mv (.s 103)),I 104 (.ext (.s 96) 0),I 105 (.ext (.s 96) 1),I 12 (.mv (.s 104)),I 13 (.mv (.s 105))])
def ZSm:PC :=
 (.reg [8,11,12,13,107] [I 106 (.mv (.s 13)),I 107 (.bin .neq (.s 106) (V 0))])
def ZSn:PC :=
 (.reg [6,7] [I 108 (.mv (.s 13)),I 6 (.mv (.v .nils)),I 7 (.mv (.s 108))])
def ZSo:PC :=
 (.reg [6,7] [I 109 (.bslice false 7 [] []),I 110 (.mv (.s 8)),I 111 (.mv (.s 11)),I 112 (.slc 7 (.s 110) none (some (.s 111))),I 113 (.app 7 80 (.s 109) (.s 112)),I 114 (.mv (.s 12)),I 115 (.app 7 80 (.s 113) (.s 114)),I 116 (C ZDI [(.s 115)]),I 6 (.mv (.s 116)),I 7 (.mv (V 0))])
def ZSp:PC :=
 (.reg [9,10,14] [I 118 (.mv (.s 0)),I 119 (.ld true 7 (.s 4)),I 120 (.mv (.s 9)),I 121 (.ixS 7 (.s 120) (V 0)),I 122 (.ld true 7 (.s 121)),I 123 (C Xq [(.s 118),(.s 119),(.s 122)]),I 117 (.mv (.s 123)),I 124 (.ext (.s 117) 0),I 125 (.ext (.s 117) 1),I 14 (.mv (.s 124)),I 10 (.mv (.s 125))])
def ZSq:PC :=
 (.reg [9,10,14,127] [I 126 (.mv (.s 10)),I 127 (.bin .neq (.s 126) (V 0))])
def ZSr:PC :=
 (.reg [6,7] [I 128 (.mv (.s 10)),I 6 (.mv (.v .nils)),I 7 (.mv (.s 128))])
def ZSs:PC :=
 (.reg [6,7] [I 129 (.w .imm (.bslice false 7 [] [])),I 130 (.mv (.s 14)),I 131 (.w .app0 (.app 7 80 (.s 129) (.s 130))),I 132 (.mv (.s 9)),I 133 (.w .blind (.slc 7 (.s 132) (some (V 1)) none)),I 134 (.app 7 80 (.s 131) (.s 133)),I 135 (C ZDI [(.s 134)]),I 6 (.mv (.s 135)),I 7 (.mv (V 0))])
def ZNv:PF:=⟨false,
 (.seq ZWq
 (.seq (.seq ZWr
 (.ite (.s 22)
 (.seq ZWs
 .ret)
 .skip))
 (.seq ZWt
 (.seq ZWu
 (.seq (.seq ZWv
 (.ite (.s 33)
 (.seq ZWw
 (.seq ZWx
 (.ite (.s 41)
 (.seq ZWy
 .ret)
 .skip)))
 .skip))
 (.seq (.seq ZWz
 (.ite (.s 47)
 (.seq ZSc
 (.seq ZSd
 (.ite (.s 55)
 (.seq ZSe
 .ret)
 .skip)))
 .skip))
 (.seq (.block 0
 (.seq ZSf
 (.ite (.s 57)
 (.seq ZSg
 .ret)
 (.seq ZSh
 (.ite (.s 78)
 (.seq ZSi
 .ret)
 (.seq ZSj
 (.ite (.s 87)
 (.seq ZSk
 (.seq ZSl
 (.seq (.seq ZSm
 (.ite (.s 107)
 (.seq ZSn
 .ret)
 .skip))
 (.seq ZSo
 .ret))))
 .skip)))))))
 (.seq ZSp
 (.seq (.seq ZSq
 (.ite (.s 127)
 (.seq ZSr
 .ret)
 .skip))
 (.seq ZSs
 .ret)))))))))),
 [.s 6,.s 7]⟩
theorem Zc4:Zs Proofs.Tryz.prog false Zc3 Proofs.Tryz.f225=some ZNv:=by kernel_rfl
def ZW0:List Hint:=[H [3,4,5],⟨[],[6],[],[],[(0,(.only (.s 3))),(7,(.grow (.s 3)))],[]⟩]
def ZPu:PC :=
 (.reg [3,4,5] [I 3 (.box (.s 0)),I 4 (.box (.s 1)),I 5 (.box (.s 2))])
def ZPv:PC :=
 (.reg [] [I 6 (.w (.only (.s 3)) (.ld false 1 (.s 3))),I 7 (.ld false 1 (.s 3)),I 8 (.nilck (.s 7)),I 9 (.fadr 1 (.s 8)),I 10 (.ld false 1 (.s 9)),I 11 (.mkf (.func Yy) [] [(.s 3),(.s 5),(.s 4)]),I 12 (.bslice true 1 [.nilfunc] [(0,(.s 11))]),I 13 (.w (.grow (.s 3)) (.app 1 8 (.s 10) (.s 12))),I 14 (.nilck (.s 6)),I 15 (.fadr 1 (.s 14)),J (.st 1 (.s 15) (.s 13))])
def ZJU:PF:=⟨true,
 (.seq ZPu
 ZPv),
 []⟩
theorem ZW1:Zs Proofs.Tryz.prog true ZW0 Proofs.Tryz.f226=some ZJU:=by kernel_rfl
def ZPw:List Hint:=[H [0,1],H [1]]
def ZLg:PC :=
 (.reg [0,1] [I 1 (.box (.v ZN))])
def ZLh:PC :=
 (.reg [1] [I 2 (.ld true 3 (.s 0)),J (.st 3 (.s 1) (.s 2))])
def ZEC:PF:=⟨false,
 (.seq ZLg
 (.seq ZLh
 .ret)),
 [.c 1 true 3]⟩
theorem ZPx:Zs Proofs.Tryz.prog false ZPw Proofs.Tryz.f227=some ZEC:=by kernel_rfl
def ZPy:List Hint:=[H [0,1,2],H [1,2,3],H [2,3,9,10,11],H [2,3,9,10,11,12],H [2,3,5,9,10,11],⟨[2,3,9,10,11],[],[],[],[(11,.imm)],[]⟩,H [2,3,9,10,11],H [2]]
def ZLi:PC :=
 (.reg [0,1,2] [I 2 (.box (.v ZN))])
def ZLj:PC :=
 (.reg [1,2,3] [I 6 (.fadr 1 (.s 0)),I 7 (.ld false 1 (.s 6)),I 8 (.build [(.int .i64 0),(.str []),.nils] [(0,1,(.s 7))]),I 3 (.box (.v ZN)),J (.st 3 (.s 3) (.s 8))])
def ZLk:PC :=
 (.reg [2,3,9,10,11] [I 9 (.ld false 1 (.s 1)),I 10 (.len 1 (.s 9)),I 11 (.mv (V 0))])
def ZLl:PC :=
 (.reg [2,3,9,10,11,12] [I 12 (.bin .lss (.s 11) (.s 10))])
def ZLm:PC :=
 (.reg [2,3,5,9,10,11] [I 13 (.ixS 1 (.s 9) (.s 11)),I 14 (.ld false 1 (.s 13)),I 5 (.mv (.s 14))])
def ZLn:PC :=
 (.reg [2,3,9,10,11] [I 15 (.fadr 2 (.s 3)),I 16 (.ld false 1 (.s 15)),I 17 (.mv (.s 5)),I 18 (.nilck (.s 17)),I 19 (.fadr 0 (.s 18)),I 20 (.ld false 1 (.s 19)),I 21 (.mv (.s 5)),I 22 (.nilck (.s 21)),I 23 (.fadr 2 (.s 22)),I 24 (.ld true 3 (.s 23)),I 25 (.build [(.int .u64 0),(.int .i64 0),(.int .i64 0),(.int .i64 0)] [(0,1,(.s 20)),(1,3,(.s 24))]),I 26 (.w .imm (.bslice false 4 [ZK] [(0,(.s 25))])),I 27 (.app 4 32 (.s 16) (.s 26)),I 28 (.fadr 2 (.s 3)),J (.st 1 (.s 28) (.s 27))])
def ZLo:PC :=
 (.reg [2,3,9,10,11] [I 29 (.bin .add (.s 11) (V 1)),I 11 (.mv (.s 29))])
def ZLp:PC :=
 (.seq ZLl
 (.seq (.ite (.s 12)
 .skip
 (.exit 0))
 (.seq (.block 1
 (.seq ZLm
 ZLn))
 ZLo)))
def ZLq:PC :=
 (.reg [2] [I 30 (.ld true 3 (.s 3)),J (.st 3 (.s 2) (.s 30))])
def ZED:PF:=⟨false,
 (.seq ZLi
 (.seq ZLj
 (.seq (.seq ZLk
 (.block 0
 (.loop ZLp)))
 (.seq ZLq
 .ret)))),
 [.c 2 true 3]⟩
theorem ZPz:Zs Proofs.Tryz.prog false ZPy Proofs.Tryz.f228=some ZED:=by kernel_rfl
def Zc5:List Hint:=[H [0],H [2]]
def ZW2:PC :=
 (.reg [0] [I 2 (.mv (.v (.bool false)))])
def ZW3:PC :=
 (.reg [2] [I 3 (.mv (.s 0)),I 4 (.len 0 (.s 3)),I 5 (.bin .geq (.s 4) (V 1)),I 6 (.mv (.s 5)),G 7 6 true (.mv (.s 0)),G 8 6 true (.len 0 (.s 7)),G 9 6 true (.bin .leq (.s 8) (V 16)),I 10 (.pick (.s 6) (.s 9) (.v (.bool false))),I 2 (.mv (.s 10))])
def ZNw:PF:=⟨false,
 (.seq ZW2
 (.seq ZW3
 .ret)),
 [.s 2]⟩
theorem Zc6:Zs Proofs.Tryz.prog false Zc5 Proofs.Tryz.f229=some ZNw:=by kernel_rfl
def ZaF:List Hint:=[H [1],H [1,9],H [2],H [1,50],H [2],H [1,3,4],H [3,4,59,60,61],H [3,4,59,60,61,62],H [3,4,6,59,60,61],H [3,4,59,60,61,112],H [2],H [3,4,59,60,61],H [2]]
def ZSt:PC :=
 (.reg [1] [I 1 (.box (.s 0)),I 2 (.mv (.v (.bool false)))])
def ZSu:PC :=
 (.reg [1,9] [I 7 (.fadr 0 (.s 1)),I 8 (.ld false 1 (.s 7)),I 9 (.bin .eql (.s 8) (V 0))])
def ZSv:PC :=
 (.reg [2] [I 10 (.fadr 1 (.s 1)),I 11 (.ld false 1 (.s 10)),I 12 (.len 0 (.s 11)),I 13 (.bin .geq (.s 12) (V 1)),I 14 (.mv (.s 13)),G 15 14 true (.fadr 1 (.s 1)),G 16 14 true (.ld false 1 (.s 15)),G 17 14 true (.len 0 (.s 16)),G 18 14 true (.bin .leq (.s 17) (V 16)),I 19 (.pick (.s 14) (.s 18) (.v (.bool false))),I 20 (.mv (.s 19)),G 21 20 true (.fadr 2 (.s 1)),G 22 20 true (.ld false 1 (.s 21)),G 23 20 true (.len 1 (.s 22)),G 24 20 true (.bin .eql (.s 23) (V 0)),I 25 (.pick (.s 20) (.s 24) (.v (.bool false))),I 2 (.mv (.s 25))])
def ZSw:PC :=
 (.reg [1,50] [I 26 (.fadr 0 (.s 1)),I 27 (.ld false 1 (.s 26)),I 28 (.bin .lss (.s 27) (V 1)),I 29 (.mv (.s 28)),G 30 29 false (.fadr 0 (.s 1)),G 31 29 false (.ld false 1 (.s 30)),G 32 29 false (.bin .gtr (.s 31) (V 16)),I 33 (.pick (.s 29) (.v (.bool true)) (.s 32)),I 34 (.mv (.s 33)),G 35 34 false (.fadr 1 (.s 1)),G 36 34 false (.ld false 1 (.s 35)),G 37 34 false (.bin .neq (.s 36) (.v (.str []))),I 38 (.pick (.s 34) (.v (.bool true)) (.s 37)),I 39 (.mv (.s 38)),G 40 39 false (.fadr 2 (.s 1)),G 41 39 false (.ld false 1 (.s 40)),G 42 39 false (.len 1 (.s 41)),G 43 39 false (.bin .lss (.s 42) (V 2)),I 44 (.pick (.s 39) (.v (.bool true)) (.s 43)),I 45 (.mv (.s 44)),G 46 45 false (.fadr 2 (.s 1)),G 47 45 false (.ld false 1 (.s 46)),G 48 45 false (.len 1 (.s 47)),G 49 45 false (.bin .gtr (.s 48) (V 4)),I 50 (.pick (.s 45) (.v (.bool true)) (.s 49))])
def ZSx:PC :=
 (.reg [2] [I 2 (.mv (.v (.bool false)))])
def ZSy:PC :=
 (.reg [1,3,4] [I 52 (.fadr 0 (.s 1)),I 53 (.ld false 1 (.s 52)),I 54 (.bin .sub (.s 53) (V 1)),I 55 (C ZDY [(.s 54)]),I 51 (.mv (.s 55)),I 56 (.ext (.s 51) 0),I 57 (.ext (.s 51) 1),I 3 (.mv (.s 56)),I 4 (.mv (.s 57))])
def ZSz:PC :=
 (.reg [3,4,59,60,61] [I 58 (.fadr 2 (.s 1)),I 59 (.ld false 1 (.s 58)),I 60 (.len 1 (.s 59)),I 61 (.mv (V 0))])
def ZS0:PC :=
 (.reg [3,4,59,60,61,62] [I 62 (.bin .lss (.s 61) (.s 60))])
def ZS1:PC :=
 (.reg [3,4,6,59,60,61] [I 63 (.ixS 4 (.s 59) (.s 61)),I 64 (.ld true 4 (.s 63)),I 6 (.box (.v ZK)),J (.st 4 (.s 6) (.s 64))])
def ZS2:PC :=
 (.reg [3,4,59,60,61,112] [I 65 (.fadr 0 (.s 6)),I 66 (.ld false 1 (.s 65)),I 67 (C ZCL [(.s 66)]),I 68 (.bin .neq (.s 67) (V 0)),I 69 (.mv (.s 68)),G 70 69 false (.fadr 1 (.s 6)),G 71 69 false (.fadr 0 (.s 70)),G 72 69 false (.ld false 1 (.s 71)),G 73 69 false (.mv (.s 3)),G 74 69 false (.bin .lss (.s 72) (.s 73)),I 75 (.pick (.s 69) (.v (.bool true)) (.s 74)),I 76 (.mv (.s 75)),G 77 76 false (.fadr 1 (.s 6)),G 78 76 false (.fadr 0 (.s 77)),G 79 76 false (.ld false 1 (.s 78)),G 80 76 false (.mv (.s 4)),G 81 76 false (.bin .gtr (.s 79) (.s 80)),I 82 (.pick (.s 76) (.v (.bool true)) (.s 81)),I 83 (.mv (.s 82)),G 84 83 false (.fadr 1 (.s 6)),G 85 83 false (.fadr 1 (.s 84)),G 86 83 false (.ld false 1 (.s 85)),G 87 83 false (.bin .lss (.s 86) (V 0)),I 88 (.pick (.s 83) (.v (.bool true)) (.s 87)),I 89 (.mv (.s 88)),G 90 89 false (.fadr 1 (.s 6)),G 91 89 false (.fadr 1 (.s 90)),G 92 89 false (.ld false 1 (.s 91)),G 93 89 false (.fadr 1 (.s 6)),G 94 89 false (.fadr 0 (.s 93)),G 95 89 false (.ld false 1 (.s 94)),G 96 89 false (.bin .gtr (.s 92) (.s 95)),I 97 (.pick (.s 89) (.v (.bool true)) (.s 96)),I 98 (.mv (.s 97)),G 99 98 false (.fadr 1 (.s 6)),G 100 98 false (.fadr 2 (.s 99)),G 101 98 false (.ld false 1 (.s 100)),G 102 98 false (.bin .lss (.s 101) (V 0)),I 103 (.pick (.s 98) (.v (.bool true)) (.s 102)),I 104 (.mv (.s 103)),G 105 104 false (.fadr 1 (.s 6)),G 106 104 false (.fadr 2 (.s 105)),G 107 104 false (.ld false 1 (.s 106)),G 108 104 false (.fadr 1 (.s 6)),G 109 104 false (.fadr 1 (.s 108)),G 110 104 false (.ld false 1 (.s 109)),G 111 104 false (.bin .gtr (.s 107) (.s 110)),I 112 (.pick (.s 104) (.v (.bool true)) (.s 111))])
def ZP0:PC :=
 (.reg [2] [I 2 (.mv (.v (.bool false)))])
def ZP1:PC :=
 (.reg [3,4,59,60,61] [I 113 (.bin .add (.s 61) (V 1)),I 61 (.mv (.s 113))])
def ZP2:PC :=
 (.seq ZS0
 (.seq (.ite (.s 62)
 .skip
 (.exit 0))
 (.seq (.block 1
 (.seq ZS1
 (.seq ZS2
 (.ite (.s 112)
 (.seq ZP0
 .ret)
 .skip))))
 ZP1)))
def ZP3:PC :=
 (.reg [2] [I 2 (.mv (.v (.bool true)))])
def ZKs:PF:=⟨false,
 (.seq ZSt
 (.seq (.seq ZSu
 (.ite (.s 9)
 (.seq ZSv
 .ret)
 .skip))
 (.seq (.seq ZSw
 (.ite (.s 50)
 (.seq ZSx
 .ret)
 .skip))
 (.seq ZSy
 (.seq (.seq ZSz
 (.block 0
 (.loop ZP2)))
 (.seq ZP3
 .ret)))))),
 [.s 2]⟩
theorem ZaG:Zs Proofs.Tryz.prog false ZaF Proofs.Tryz.f240=some ZKs:=by kernel_rfl
def Zc7:List Hint:=[H [0,2],H [0,2,3],H [0,2,3,6,7],H [0,2,3,6,7,8],H [0,2,3,4,5,6,7],H [0,2,3,6,7],H [0,2,3,6,7],H [2]]
def ZW4:PC :=
 (.reg [0,2] [I 2 (.box (.v ZM))])
def ZW5:PC :=
 (.reg [0,2,3] [I 3 (.box (.v ZM))])
def ZW6:PC :=
 (.reg [0,2,3,6,7] [I 6 (.build [.nilfunc,.nilfunc,.nilfunc] [(0,1,(.v (.func (.func XQ) [] []))),(1,1,(.v (.func (.func Yx) [] []))),(2,1,(.v (.func (.func XP) [] [])))]),I 7 (.mv (V 0))])
def ZW7:PC :=
 (.reg [0,2,3,6,7,8] [I 8 (.bin .lss (.s 7) (V 3))])
def ZW8:PC :=
 (.reg [0,2,3,4,5,6,7] [I 9 (.mv (.s 7)),I 10 (.ixArr false 3 1 (.s 6) (.s 7)),I 4 (.mv (.s 9)),I 5 (.mv (.s 10))])
def ZW9:PC :=
 (.reg [0,2,3,6,7] [I 11 (.mv (.s 4)),I 12 (.mv (.s 0)),I 13 (.mv (.s 5)),I 14 (C ZBL [(.s 12),(.s 13)]),I 15 (.ixA 3 1 (.s 3) (.s 11)),J (.st 1 (.s 15) (.s 14))])
def ZXA:PC :=
 (.reg [0,2,3,6,7] [I 16 (.bin .add (.s 7) (V 1)),I 7 (.mv (.s 16))])
def ZXB:PC :=
 (.seq ZW7
 (.seq (.ite (.s 8)
 .skip
 (.exit 0))
 (.seq (.block 1
 (.seq ZW8
 ZW9))
 ZXA)))
def ZXC:PC :=
 (.reg [2] [I 17 (.ld true 3 (.s 3)),I 18 (C YN [(.s 17)]),J (.st 3 (.s 2) (.s 18))])
def ZNx:PF:=⟨false,
 (.seq ZW4
 (.seq ZW5
 (.seq (.seq ZW6
 (.block 0
 (.loop ZXB)))
 (.seq ZXC
 .ret)))),
 [.c 2 true 3]⟩
theorem Zc8:Zs Proofs.Tryz.prog false Zc7 Proofs.Tryz.f241=some ZNx:=by kernel_rfl
def ZaH:List Hint:=[H [0,2],H [0,2,3],H [2,3,8,9,10],H [2,3,8,9,10,11],H [2,3,5,8,9,10],H [2,3,8,9,10,20,21],H [2,3,8,9,10,20,21,22],H [2,3,6,7,8,9,10,20,21],H [2,3,8,9,10,20,21],H [2,3,8,9,10,20,21],H [2,3,8,9,10],H [2]]
def ZS3:PC :=
 (.reg [0,2] [I 2 (.box (.v ZM))])
def ZS4:PC :=
 (.reg [0,2,3] [I 3 (.box (.v ZM))])
def ZS5:PC :=
 (.reg [2,3,8,9,10] [I 8 (.mv (.s 0)),I 9 (.len 1 (.s 8)),I 10 (.mv (V 0))])
def ZS6:PC :=
 (.reg [2,3,8,9,10,11] [I 11 (.bin .lss (.s 10) (.s 9))])
def ZS7:PC :=
 (.reg [2,3,5,8,9,10] [I 12 (.ixS 3 (.s 8) (.s 10)),I 13 (.ld true 3 (.s 12)),I 5 (.box (.v ZM)),J (.st 3 (.s 5) (.s 13))])
def ZS8:PC :=
 (.reg [2,3,8,9,10,20,21] [I 14 (.fadr 0 (.s 5)),I 15 (.ld false 1 (.s 14)),I 16 (.fadr 1 (.s 5)),I 17 (.ld false 1 (.s 16)),I 18 (.fadr 2 (.s 5)),I 19 (.ld false 1 (.s 18)),I 20 (.build [(.int .i64 0),(.int .i64 0),(.int .i64 0)] [(0,1,(.s 15)),(1,1,(.s 17)),(2,1,(.s 19))]),I 21 (.mv (V 0))])
def ZS9:PC :=
 (.reg [2,3,8,9,10,20,21,22] [I 22 (.bin .lss (.s 21) (V 3))])
def ZTA:PC :=
 (.reg [2,3,6,7,8,9,10,20,21] [I 23 (.mv (.s 21)),I 24 (.ixArr false 3 1 (.s 20) (.s 21)),I 6 (.mv (.s 23)),I 7 (.mv (.s 24))])
def ZTB:PC :=
 (.reg [2,3,8,9,10,20,21] [I 25 (.mv (.s 6)),I 26 (.ixA 3 1 (.s 3) (.s 25)),I 27 (.ld false 1 (.s 26)),I 28 (.mv (.s 7)),I 29 (.bin .add (.s 27) (.s 28)),I 30 (.ixA 3 1 (.s 3) (.s 25)),J (.st 1 (.s 30) (.s 29))])
def ZTC:PC :=
 (.reg [2,3,8,9,10,20,21] [I 31 (.bin .add (.s 21) (V 1)),I 21 (.mv (.s 31))])
def ZP4:PC :=
 (.seq ZS9
 (.seq (.ite (.s 22)
 .skip
 (.exit 2))
 (.seq (.block 3
 (.seq ZTA
 ZTB))
 ZTC)))
def ZP5:PC :=
 (.reg [2,3,8,9,10] [I 32 (.bin .add (.s 10) (V 1)),I 10 (.mv (.s 32))])
def ZP6:PC :=
 (.seq ZS6
 (.seq (.ite (.s 11)
 .skip
 (.exit 0))
 (.seq (.block 1
 (.seq ZS7
 (.seq ZS8
 (.block 2
 (.loop ZP4)))))
 ZP5)))
def ZP7:PC :=
 (.reg [2] [I 33 (.ld true 3 (.s 3)),I 34 (C YN [(.s 33)]),J (.st 3 (.s 2) (.s 34))])
def ZKt:PF:=⟨false,
 (.seq ZS3
 (.seq ZS4
 (.seq (.seq ZS5
 (.block 0
 (.loop ZP6)))
 (.seq ZP7
 .ret)))),
 [.c 2 true 3]⟩
theorem ZaI:Zs Proofs.Tryz.prog false ZaH Proofs.Tryz.f242=some ZKt:=by kernel_rfl
def ZTD:List Hint:=[H [0,1,2],H [1,2,9],H [4],H [4]]
def ZNy:PC :=
 (.reg [0,1,2] [I 4 (.mv (V 0))])
def ZNz:PC :=
 (.reg [1,2,9] [I 5 (.mv (.s 0)),I 6 (.ld false 1 (.s 1)),I 7 (.ld false 1 (.s 2)),I 8 (.bin .rem (.s 6) (.s 7)),I 9 (.bin .lss (.s 5) (.s 8))])
def ZN0:PC :=
 (.reg [4] [I 10 (.ld false 1 (.s 1)),I 11 (.ld false 1 (.s 2)),I 12 (.bin .quo (.s 10) (.s 11)),I 13 (.bin .add (.s 12) (V 1)),I 4 (.mv (.s 13))])
def ZN1:PC :=
 (.reg [4] [I 14 (.ld false 1 (.s 1)),I 15 (.ld false 1 (.s 2)),I 16 (.bin .quo (.s 14) (.s 15)),I 4 (.mv (.s 16))])
def ZGe:PF:=⟨false,
 (.seq ZNy
 (.seq (.seq ZNz
 (.ite (.s 9)
 (.seq ZN0
 .ret)
 .skip))
 (.seq ZN1
 .ret))),
 [.s 4]⟩
theorem ZTE:Zs Proofs.Tryz.prog false ZTD Proofs.Tryz.f243=some ZGe:=by kernel_rfl
def ZaJ:List Hint:=[H [0,4,5],⟨[0,4,5,8,9],[],[(1,.pure)],[],[],[]⟩,H [0,4,5,32],H [6,7],H [0,5,10,11],H [0,5,10,11,43],H [6,7],H [10,11,12],H [10,11,12,52],H [6,7],H [11,13],H [11,13,61],H [6,7],⟨[13,14],[0],[],[],[],[]⟩,H [14,63,64,65],H [14,63,64,65,66],H [14,16,63,64,65],H [14,63,64,65],H [14,63,64,65],H [6,7]]
def ZTF:PC :=
 (.reg [0,4,5] [I 4 (.box (.s 1)),I 5 (.box (.s 2)),I 6 (.mv (.v .nils)),I 7 (.mv (V 0))])
def ZTG:PC :=
 (.reg [0,4,5,8,9] [I 17 (.ld true 7 (.s 4)),I 18 (.call .pure (.v (.func (.func Qp) [] [])) [(.s 17)]),I 19 (.ld true 7 (.s 5)),I 20 (C Qp [(.s 19)]),I 8 (.mv (.s 18)),I 9 (.mv (.s 20))])
def ZTH:PC :=
 (.reg [0,4,5,32] [I 21 (.mv (.s 8)),I 22 (.mv (.s 9)),I 23 (.bin .add (.s 21) (.s 22)),I 24 (.bin .gtr (.s 23) (V 16)),I 25 (.mv (.s 24)),G 26 25 true (.mv (.s 8)),G 27 25 true (.bin .geq (.s 26) (V 8)),I 28 (.pick (.s 25) (.s 27) (.v (.bool false))),I 29 (.mv (.s 28)),G 30 29 true (.mv (.s 9)),G 31 29 true (.bin .geq (.s 30) (V 8)),I 32 (.pick (.s 29) (.s 31) (.v (.bool false)))])
def ZTI:PC :=
 (.reg [6,7] [I 33 (.ld true 7 (.s 4)),I 34 (.ld true 7 (.s 5)),I 35 (.bslice false 7 [ZT,ZT] [(0,(.s 33)),(1,(.s 34))]),I 6 (.mv (.s 35)),I 7 (.mv (V 0))])
def ZTJ:PC :=
 (.reg [0,5,10,11] [I 37 (.mv (.s 0)),I 38 (.ld true 7 (.s 4)),I 39 (C Xg [(.s 37),(.s 38)]),I 36 (.mv (.s 39)),I 40 (.ext (.s 36) 0),I 41 (.ext (.s 36) 1),I 10 (.mv (.s 40)),I 11 (.mv (.s 41))])
def ZTK:PC :=
 (.reg [0,5,10,11,43] [I 42 (.mv (.s 11)),I 43 (.bin .neq (.s 42) (V 0))])
def ZTL:PC :=
 (.reg [6,7] [I 44 (.mv (.s 11)),I 6 (.mv (.v .nils)),I 7 (.mv (.s 44))])
def ZTM:PC :=
 (.reg [10,11,12] [I 46 (.mv (.s 0)),I 47 (.ld true 7 (.s 5)),I 48 (C Xg [(.s 46),(.s 47)]),I 45 (.mv (.s 48)),I 49 (.ext (.s 45) 0),I 50 (.ext (.s 45) 1),I 12 (.mv (.s 49)),I 11 (.mv (.s 50))])
def ZTN:PC :=
 (.reg [10,11,12,52] [I 51 (.mv (.s 11)),I 52 (.bin .neq (.s 51) (V 0))])
def ZTO:PC :=
 (.reg [6,7] [I 53 (.mv (.s 11)),I 6 (.mv (.v .nils)),I 7 (.mv (.s 53))])
def ZP8:PC :=
 (.reg [11,13] [I 55 (.mv (.s 10)),I 56 (.mv (.s 12)),I 57 (C ZEn [(.s 55),(.s 56)]),I 54 (.mv (.s 57)),I 58 (.ext (.s 54) 0),I 59 (.ext (.s 54) 1),I 13 (.mv (.s 58)),I 11 (.mv (.s 59))])
def ZP9:PC :=
 (.reg [11,13,61] [I 60 (.mv (.s 11)),I 61 (.bin .neq (.s 60) (V 0))])
def ZQA:PC :=
 (.reg [6,7] [I 62 (.mv (.s 11)),I 6 (.mv (.v .nils)),I 7 (.mv (.s 62))])
def ZQB:PC :=
 (.reg [13,14] [I 14 (.onil 7)])
def ZQC:PC :=
 (.reg [14,63,64,65] [I 63 (.mv (.s 13)),I 64 (.len 1 (.s 63)),I 65 (.mv (V 0))])
def ZQD:PC :=
 (.reg [14,63,64,65,66] [I 66 (.bin .lss (.s 65) (.s 64))])
def ZQE:PC :=
 (.reg [14,16,63,64,65] [I 67 (.ixS 1 (.s 63) (.s 65)),I 68 (.ld false 1 (.s 67)),I 16 (.mv (.s 68))])
def ZQF:PC :=
 (.reg [14,63,64,65] [I 69 (.mv (.s 14)),I 70 (.mv (.s 16)),I 71 (.build [(.int .u64 0),(.int .i64 0),(.int .i64 0),(.int .i64 0),(.int .i64 0),(.str []),.nils] [(5,1,(.s 70))]),I 72 (.bslice false 7 [ZT] [(0,(.s 71))]),I 73 (.app 7 80 (.s 69) (.s 72)),I 14 (.mv (.s 73))])
def ZQG:PC :=
 (.reg [14,63,64,65] [I 74 (.bin .add (.s 65) (V 1)),I 65 (.mv (.s 74))])
def ZEE:PC :=
 (.seq ZQD
 (.seq (.ite (.s 66)
 .skip
 (.exit 0))
 (.seq (.block 1
 (.seq ZQE
 ZQF))
 ZQG)))
def ZQH:PC :=
 (.reg [6,7] [I 75 (.mv (.s 14)),I 6 (.mv (.s 75)),I 7 (.mv (V 0))])
def ZKu:PF:=⟨false,
 (.seq ZTF
 (.seq ZTG
 (.seq (.seq ZTH
 (.ite (.s 32)
 (.seq ZTI
 .ret)
 .skip))
 (.seq ZTJ
 (.seq (.seq ZTK
 (.ite (.s 43)
 (.seq ZTL
 .ret)
 .skip))
 (.seq ZTM
 (.seq (.seq ZTN
 (.ite (.s 52)
 (.seq ZTO
 .ret)
 .skip))
 (.seq ZP8
 (.seq (.seq ZP9
 (.ite (.s 61)
 (.seq ZQA
 .ret)
 .skip))
 (.seq ZQB
 (.seq (.seq ZQC
 (.block 0
 (.loop ZEE)))
 (.seq ZQH
 .ret)))))))))))),
 [.s 6,.s 7]⟩
theorem ZaK:Zs Proofs.Tryz.prog false ZaJ Proofs.Tryz.f245=some ZKu:=by kernel_rfl
def Zej:List Hint:=[H [0],H [0,6],H [2],H [0,3],⟨[2],[],[(3,.pure)],[],[],[]⟩]
def ZaL:PC :=
 (.reg [0] [I 2 (.mv (.v .nils))])
def ZaM:PC :=
 (.reg [0,6] [I 4 (.mv (.s 0)),I 5 (.len 1 (.s 4)),I 6 (.bin .leq (.s 5) (V 4))])
def ZaN:PC :=
 (.reg [2] [I 7 (.mv (.s 0)),I 8 (C QO [(.s 7)]),I 9 (.bslice false 7 [ZT] [(0,(.s 8))]),I 2 (.mv (.s 9))])
def ZaO:PC :=
 (.reg [0,3] [I 10 (.mv (.s 0)),I 11 (.len 1 (.s 10)),I 12 (.bin .add (.s 11) (V 1)),I 13 (.bin .quo (.s 12) (V 2)),I 3 (.mv (.s 13))])
def ZaP:PC :=
 (.reg [2] [I 14 (.mv (.s 0)),I 15 (.mv (.s 3)),I 16 (.slc 7 (.s 14) none (some (.s 15))),I 17 (.call .pure (.v (.func (.func QO) [] [])) [(.s 16)]),I 18 (.mv (.s 0)),I 19 (.mv (.s 3)),I 20 (.slc 7 (.s 18) (some (.s 19)) none),I 21 (C QO [(.s 20)]),I 22 (.bslice false 7 [ZT,ZT] [(0,(.s 17)),(1,(.s 21))]),I 2 (.mv (.s 22))])
def ZQ2:PF:=⟨false,
 (.seq ZaL
 (.seq (.seq ZaM
 (.ite (.s 6)
 (.seq ZaN
 .ret)
 .skip))
 (.seq ZaO
 (.seq ZaP
 .ret)))),
 [.s 2]⟩
theorem Zek:Zs Proofs.Tryz.prog false Zej Proofs.Tryz.f246=some ZQ2:=by kernel_rfl
def ZQI:List Hint:=[H [0,1,2],⟨[2,5,6],[],[(5,.pure)],[],[],[]⟩,H [2,5,6,18],H [5,6],H [3,4]]
def ZLr:PC :=
 (.reg [0,1,2] [I 3 (.mv (.v (.int .u64 0))),I 4 (.mv (V 0))])
def ZLs:PC :=
 (.reg [2,5,6] [I 8 (.ld false 1 (.s 0)),I 9 (.nilck (.s 8)),I 10 (.fadr 0 (.s 9)),I 11 (.ld false 1 (.s 10)),I 12 (.ld false 1 (.s 1)),I 13 (.call .pure (.s 12) []),I 14 (C Jd [(.s 11),(.s 13)]),I 7 (.mv (.s 14)),I 15 (.ext (.s 7) 0),I 16 (.ext (.s 7) 1),I 5 (.mv (.s 15)),I 6 (.mv (.s 16))])
def ZLt:PC :=
 (.reg [2,5,6,18] [I 17 (.mv (.s 6)),I 18 (.bin .eql (.s 17) (V 0))])
def ZLu:PC :=
 (.reg [5,6] [I 19 (.ld false 1 (.s 2)),I 20 (.mv (.s 5)),I 21 (.nilck (.s 19)),I 22 (.fadr 0 (.s 21)),J (.st 1 (.s 22) (.s 20))])
def ZLv:PC :=
 (.reg [3,4] [I 23 (.mv (.s 5)),I 24 (.mv (.s 6)),I 3 (.mv (.s 23)),I 4 (.mv (.s 24))])
def ZEF:PF:=⟨false,
 (.seq ZLr
 (.seq ZLs
 (.seq (.seq ZLt
 (.ite (.s 18)
 ZLu
 .skip))
 (.seq ZLv
 .ret)))),
 [.s 3,.s 4]⟩
theorem ZQJ:Zs Proofs.Tryz.prog false ZQI Proofs.Tryz.f247=some ZEF:=by kernel_rfl
def ZKc:List Hint:=[H [0,3],H [0,3,16],H [4,5],H [0,3,6],H [0,3,6,20],H [4,5],H [0,3,23,24,25],H [0,3,23,24,25,26],H [0,3,8,23,24,25],H [0,3,8,9,10,23,24,25],H [0,3,8,9,23,24,25,40],H [4,5],H [0,3,8,9,11,12,23,24,25],H [0,3,23,24,25,61],H [4,5],H [0,3,23,24,25],H [0,3,13,14],H [0,3,13,14,72],H [4,5],H [0,3,13],H [0,13],H [13],H [4,5]]
def ZHx:PC :=
 (.reg [0,3] [I 3 (.box (.s 1)),I 4 (.mv (.v (.int .u64 0))),I 5 (.mv (V 0))])
def ZHy:PC :=
 (.reg [0,3,16] [I 15 (.mv (.s 0)),I 16 (.eqs false 3 [] (.s 15) (.v .nilptr))])
def ZHz:PC :=
 (.reg [4,5] [I 4 (.mv (.v (.int .u64 0))),I 5 (.mv (V 1))])
def ZH0:PC :=
 (.reg [0,3,6] [I 17 (.ld true 3 (.s 3)),I 18 (C Xp [(.s 17)]),I 6 (.mv (.s 18))])
def ZH1:PC :=
 (.reg [0,3,6,20] [I 19 (.mv (.s 6)),I 20 (.bin .neq (.s 19) (V 0))])
def ZH2:PC :=
 (.reg [4,5] [I 21 (.mv (.s 6)),I 4 (.mv (.v (.int .u64 0))),I 5 (.mv (.s 21))])
def ZH3:PC :=
 (.reg [0,3,23,24,25] [I 22 (.fadr 2 (.s 3)),I 23 (.ld false 1 (.s 22)),I 24 (.len 1 (.s 23)),I 25 (.mv (V 0))])
def ZH4:PC :=
 (.reg [0,3,23,24,25,26] [I 26 (.bin .lss (.s 25) (.s 24))])
def ZH5:PC :=
 (.reg [0,3,8,23,24,25] [I 27 (.ixS 4 (.s 23) (.s 25)),I 28 (.ld true 4 (.s 27)),I 8 (.box (.v ZK)),J (.st 4 (.s 8) (.s 28))])
def ZH6:PC :=
 (.reg [0,3,8,9,10,23,24,25] [I 30 (.mv (.s 0)),I 31 (.nilck (.s 30)),I 32 (.fadr 2 (.s 31)),I 33 (.ld false 1 (.s 32)),I 34 (.fadr 0 (.s 8)),I 35 (.ld false 1 (.s 34)),I 36 (.look 0 ZN true (.s 33) (.s 35)),I 29 (.mv (.s 36)),I 37 (.ext (.s 29) 0),I 38 (.ext (.s 29) 1),I 9 (.box (.v ZN)),J (.st 3 (.s 9) (.s 37)),I 10 (.mv (.s 38))])
def ZFx:PC :=
 (.reg [0,3,8,9,23,24,25,40] [I 39 (.mv (.s 10)),I 40 (.un .not (.s 39))])
def ZFy:PC :=
 (.reg [4,5] [I 4 (.mv (.v (.int .u64 0))),I 5 (.mv (V 10))])
def ZFz:PC :=
 (.reg [0,3,8,9,11,12,23,24,25] [I 42 (.ld true 3 (.s 9)),I 43 (C J9 [(.s 42)]),I 41 (.mv (.s 43)),I 44 (.ext (.s 41) 0),I 45 (.ext (.s 41) 1),I 11 (.box (.v ZM)),J (.st 3 (.s 11) (.s 44)),I 12 (.mv (.s 45))])
def ZF0:PC :=
 (.reg [0,3,23,24,25,61] [I 46 (.mv (.s 12)),I 47 (.bin .neq (.s 46) (V 0)),I 48 (.mv (.s 47)),G 49 48 false (.fadr 0 (.s 9)),G 50 48 false (.ld false 1 (.s 49)),G 51 48 false (.fadr 0 (.s 3)),G 52 48 false (.ld false 1 (.s 51)),G 53 48 false (.bin .sub (.s 52) (V 1)),G 54 48 false (.bin .neq (.s 50) (.s 53)),I 55 (.pick (.s 48) (.v (.bool true)) (.s 54)),I 56 (.mv (.s 55)),G 57 56 false (.ld true 3 (.s 11)),G 58 56 false (.fadr 1 (.s 8)),G 59 56 false (.ld true 3 (.s 58)),G 60 56 false (.eqs true 0 [(0,0),(1,0),(2,0)] (.s 57) (.s 59)),I 61 (.pick (.s 56) (.v (.bool true)) (.s 60))])
def ZF1:PC :=
 (.reg [4,5] [I 4 (.mv (.v (.int .u64 0))),I 5 (.mv (V 23))])
def ZF2:PC :=
 (.reg [0,3,23,24,25] [I 62 (.bin .add (.s 25) (V 1)),I 25 (.mv (.s 62))])
def ZF3:PC :=
 (.seq ZH4
 (.seq (.ite (.s 26)
 .skip
 (.exit 0))
 (.seq (.block 1
 (.seq ZH5
 (.seq ZH6
 (.seq (.seq ZFx
 (.ite (.s 40)
 (.seq ZFy
 .ret)
 .skip))
 (.seq ZFz
 (.seq ZF0
 (.ite (.s 61)
 (.seq ZF1
 .ret)
 .skip)))))))
 ZF2)))
def ZF4:PC :=
 (.reg [0,3,13,14] [I 64 (.mv (.s 0)),I 65 (.nilck (.s 64)),I 66 (.fadr 1 (.s 65)),I 67 (.ld false 1 (.s 66)),I 68 (C Yn [(.s 67)]),I 63 (.mv (.s 68)),I 69 (.ext (.s 63) 0),I 70 (.ext (.s 63) 1),I 13 (.mv (.s 69)),I 14 (.mv (.s 70))])
def ZF5:PC :=
 (.reg [0,3,13,14,72] [I 71 (.mv (.s 14)),I 72 (.bin .neq (.s 71) (V 0))])
def ZF6:PC :=
 (.reg [4,5] [I 73 (.mv (.s 14)),I 4 (.mv (.v (.int .u64 0))),I 5 (.mv (.s 73))])
def Xv:PC :=
 (.reg [0,3,13] [I 74 (.fadr 2 (.s 3)),I 75 (.ld false 1 (.s 74)),I 76 (C Z9 [(.s 75)]),I 77 (.fadr 2 (.s 3)),J (.st 1 (.s 77) (.s 76))])
def Xw:PC :=
 (.reg [0,13] [I 78 (.mv (.s 0)),I 79 (.nilck (.s 78)),I 80 (.fadr 2 (.s 79)),I 81 (.ld false 1 (.s 80)),I 82 (.mv (.s 13)),I 83 (.ld true 3 (.s 3)),J (.mupd 0 (.s 81) (.s 82) (.s 83))])
def Xx:PC :=
 (.reg [13] [I 84 (.mv (.s 0)),I 85 (.nilck (.s 84)),I 86 (.fadr 3 (.s 85)),I 87 (.ld false 1 (.s 86)),I 88 (.bin .add (.s 87) (V 1)),I 89 (.nilck (.s 84)),I 90 (.fadr 3 (.s 89)),J (.st 1 (.s 90) (.s 88))])
def Xy:PC :=
 (.reg [4,5] [I 91 (.mv (.s 13)),I 4 (.mv (.s 91)),I 5 (.mv (V 0))])
def ZBd:PF:=⟨false,
 (.seq ZHx
 (.seq (.seq ZHy
 (.ite (.s 16)
 (.seq ZHz
 .ret)
 .skip))
 (.seq (.seq ZH0
 (.seq ZH1
 (.ite (.s 20)
 (.seq ZH2
 .ret)
 .skip)))
 (.seq (.seq ZH3
 (.block 0
 (.loop ZF3)))
 (.seq ZF4
 (.seq (.seq ZF5
 (.ite (.s 72)
 (.seq ZF6
 .ret)
 .skip))
 (.seq Xv
 (.seq Xw
 (.seq Xx
 (.seq Xy
 .ret)))))))))),
 [.s 4,.s 5]⟩
theorem ZKd:Zs Proofs.Tryz.prog false ZKc Proofs.Tryz.f248=some ZBd:=by kernel_rfl
def ZaQ:List Hint:=[H [0],H [0,2,3],H [2,3,4,5],H [2,3,4,5,6],H [2,3,4,5],H [2,3,4,5],H [2,3,4,5],H [2,3]]
def ZTP:PC :=
 (.reg [0] [I 2 (.mv (V 0)),I 3 (.mv (V 0))])
def ZTQ:PC :=
 (.reg [0,2,3] [I 2 (.mv (V 8)),I 3 (.mv (V 16))])
def ZTR:PC :=
 (.reg [2,3,4,5] [I 4 (.mv (.s 0)),I 5 (.mv (V 0))])
def ZTS:PC :=
 (.reg [2,3,4,5,6] [I 6 (.bin .lss (.s 5) (.s 4))])
def ZTT:PC :=
 (.reg [2,3,4,5] [I 7 (.mv (.s 2)),I 8 (.bin .mul (.s 7) (V 2)),I 2 (.mv (.s 8))])
def ZTU:PC :=
 (.reg [2,3,4,5] [I 9 (.mv (.s 3)),I 10 (.bin .mul (.s 9) (V 4)),I 11 (.mnx false (.s 10) (V 65536)),I 3 (.mv (.s 11))])
def ZTV:PC :=
 (.reg [2,3,4,5] [I 12 (.bin .add (.s 5) (V 1)),I 5 (.mv (.s 12))])
def ZTW:PC :=
 (.seq ZTS
 (.seq (.ite (.s 6)
 .skip
 (.exit 0))
 (.seq (.block 1
 (.seq ZTT
 ZTU))
 ZTV)))
def ZTX:PC :=
 (.reg [2,3] [I 13 (.mv (.s 2)),I 14 (.mv (.s 3)),I 15 (.mnx false (.s 14) (V 65536)),I 2 (.mv (.s 13)),I 3 (.mv (.s 15))])
def ZKv:PF:=⟨false,
 (.seq ZTP
 (.seq ZTQ
 (.seq (.seq ZTR
 (.block 0
 (.loop ZTW)))
 (.seq ZTX
 .ret)))),
 [.s 2,.s 3]⟩
theorem ZaR:Zs Proofs.Tryz.prog false ZaQ Proofs.Tryz.f254=some ZKv:=by kernel_rfl
def ZXD:List Hint:=[H [0],H [3,4],H [19],H [2],H [2]]
def ZQK:PC :=
 (.reg [0] [I 2 (.mv (V 0))])
def ZQL:PC :=
 (.reg [3,4] [I 6 (.mv (.s 0)),I 7 (C ZCM [(.s 6)]),I 5 (.mv (.s 7)),I 8 (.ext (.s 5) 0),I 9 (.ext (.s 5) 1),I 3 (.mv (.s 8)),I 4 (.mv (.s 9))])
def ZQM:PC :=
 (.reg [19] [I 10 (.mv (.s 3)),I 11 (.bin .geq (.s 10) (V 16384)),I 12 (.mv (.s 11)),G 13 12 false (.mv (.s 4)),G 14 12 false (.bin .lss (.s 13) (.v (.int .u64 1))),I 15 (.pick (.s 12) (.v (.bool true)) (.s 14)),I 16 (.mv (.s 15)),G 17 16 false (.mv (.s 4)),G 18 16 false (.bin .gtr (.s 17) (.v (.int .u64 4294967295))),I 19 (.pick (.s 16) (.v (.bool true)) (.s 18))])
def ZQN:PC :=
 (.reg [2] [I 2 (.mv (V 2))])
def ZQO:PC :=
 (.reg [2] [I 2 (.mv (V 0))])
def ZJV:PF:=⟨false,
 (.seq ZQK
 (.seq (.seq ZQL
 (.seq ZQM
 (.ite (.s 19)
 (.seq ZQN
 .ret)
 .skip)))
 (.seq ZQO
 .ret))),
 [.s 2]⟩
theorem ZXE:Zs Proofs.Tryz.prog false ZXD Proofs.Tryz.f255=some ZJV:=by kernel_rfl
def ZTY:List Hint:=[H [],H [2]]
def ZN2:PC :=
 (.reg [] [I 2 (.mv (.v (.bool false)))])
def ZN3:PC :=
 (.reg [2] [I 2 (.mv (.v (.bool true)))])
def ZGf:PF:=⟨false,
 (.seq ZN2
 (.seq ZN3
 .ret)),
 [.s 2]⟩
theorem ZTZ:Zs Proofs.Tryz.prog false ZTY Proofs.Tryz.f256=some ZGf:=by kernel_rfl
def ZLw:List Hint:=[H [1,2],H [1,2,5],H [2],H [2]]
def ZJW:PC :=
 (.reg [1,2] [I 1 (.box (.s 0)),I 2 (.box (.v ZM))])
def ZJX:PC :=
 (.reg [1,2,5] [I 3 (.ld true 3 (.s 1)),I 4 (.build [(.int .i64 0),(.int .i64 0),(.int .i64 0)] []),I 5 (.eqs false 0 [(0,0),(1,0),(2,0)] (.s 3) (.s 4))])
def ZJY:PC :=
 (.reg [2] [I 6 (.build [(.int .i64 0),(.int .i64 0),(.int .i64 0)] []),J (.st 3 (.s 2) (.s 6))])
def ZJZ:PC :=
 (.reg [2] [I 7 (.ixA 3 1 (.s 1) (V 0)),I 8 (.ld false 1 (.s 7)),I 9 (.ixA 3 1 (.s 1) (V 1)),I 10 (.ld false 1 (.s 9)),I 11 (.ixA 3 1 (.s 1) (V 2)),I 12 (.ld false 1 (.s 11)),I 13 (.build [(.int .i64 0),(.int .i64 0),(.int .i64 0)] [(0,1,(.s 8)),(1,1,(.s 10)),(2,1,(.s 12))]),J (.st 3 (.s 2) (.s 13))])
def ZCe:PF:=⟨false,
 (.seq ZJW
 (.seq (.seq ZJX
 (.ite (.s 5)
 (.seq ZJY
 .ret)
 .skip))
 (.seq ZJZ
 .ret))),
 [.c 2 true 3]⟩
theorem ZLx:Zs Proofs.Tryz.prog false ZLw Proofs.Tryz.f257=some ZCe:=by kernel_rfl
def Zc9:List Hint:=[H [0,1],H [0,1,15],H [4,5],H [0,1,6],H [0,1,6,21],H [4,5],H [0,1,6,31],H [4,5],H [6,7],H [4,5]]
def ZXF:PC :=
 (.reg [0,1] [I 4 (.mv (.v .nils)),I 5 (.mv (V 0))])
def ZXG:PC :=
 (.reg [0,1,15] [I 8 (.mv (.s 0)),I 9 (C Xs [(.s 8)]),I 10 (.un .not (.s 9)),I 11 (.mv (.s 10)),G 12 11 false (.mv (.s 1)),G 13 11 false (C Xs [(.s 12)]),G 14 11 false (.un .not (.s 13)),I 15 (.pick (.s 11) (.v (.bool true)) (.s 14))])
def ZXH:PC :=
 (.reg [4,5] [I 4 (.mv (.v .nils)),I 5 (.mv (V 2))])
def ZXI:PC :=
 (.reg [0,1,6] [I 16 (.mv (.s 0)),I 17 (.mv (.s 1)),I 18 (.bin .add (.s 16) (.s 17)),I 6 (.mv (.s 18))])
def ZXJ:PC :=
 (.reg [0,1,6,21] [I 19 (.mv (.s 6)),I 20 (.len 0 (.s 19)),I 21 (.bin .leq (.s 20) (V 16))])
def ZXK:PC :=
 (.reg [4,5] [I 22 (.mv (.s 6)),I 23 (.bslice false 1 [(.str [])] [(0,(.s 22))]),I 4 (.mv (.s 23)),I 5 (.mv (V 0))])
def ZXL:PC :=
 (.reg [0,1,6,31] [I 24 (.mv (.s 0)),I 25 (.len 0 (.s 24)),I 26 (.bin .geq (.s 25) (V 8)),I 27 (.mv (.s 26)),G 28 27 true (.mv (.s 1)),G 29 27 true (.len 0 (.s 28)),G 30 27 true (.bin .geq (.s 29) (V 8)),I 31 (.pick (.s 27) (.s 30) (.v (.bool false)))])
def ZXM:PC :=
 (.reg [4,5] [I 32 (.mv (.s 0)),I 33 (.mv (.s 1)),I 34 (.bslice false 1 [(.str []),(.str [])] [(0,(.s 32)),(1,(.s 33))]),I 4 (.mv (.s 34)),I 5 (.mv (V 0))])
def ZXN:PC :=
 (.reg [6,7] [I 35 (.mv (.s 6)),I 36 (.len 0 (.s 35)),I 37 (.bin .add (.s 36) (V 1)),I 38 (.bin .quo (.s 37) (V 2)),I 7 (.mv (.s 38))])
def ZXO:PC :=
 (.reg [4,5] [I 39 (.mv (.s 6)),I 40 (.mv (.s 7)),I 41 (.slcS (.s 39) none (some (.s 40))),I 42 (.mv (.s 6)),I 43 (.mv (.s 7)),I 44 (.slcS (.s 42) (some (.s 43)) none),I 45 (.bslice false 1 [(.str []),(.str [])] [(0,(.s 41)),(1,(.s 44))]),I 4 (.mv (.s 45)),I 5 (.mv (V 0))])
def ZN4:PF:=⟨false,
 (.seq ZXF
 (.seq (.seq ZXG
 (.ite (.s 15)
 (.seq ZXH
 .ret)
 .skip))
 (.seq ZXI
 (.seq (.seq ZXJ
 (.ite (.s 21)
 (.seq ZXK
 .ret)
 .skip))
 (.seq (.seq ZXL
 (.ite (.s 31)
 (.seq ZXM
 .ret)
 .skip))
 (.seq ZXN
 (.seq ZXO
 .ret))))))),
 [.s 4,.s 5]⟩
theorem ZdA:Zs Proofs.Tryz.prog false Zc9 Proofs.Tryz.f260=some ZN4:=by kernel_rfl
def ZJa:List Hint:=[H [0],H [0,6],H [2,3],H [0,12],H [2,3],H [0,4],H [0,4],H [0,4],H [2,3]]
def ZF7:PC :=
 (.reg [0] [I 2 (.mv (.v (.int .u64 0))),I 3 (.mv (V 0))])
def ZF8:PC :=
 (.reg [0,6] [I 5 (.mv (.s 0)),I 6 (.eqs false 3 [] (.s 5) (.v .nilptr))])
def ZF9:PC :=
 (.reg [2,3] [I 2 (.mv (.v (.int .u64 0))),I 3 (.mv (V 1))])
def ZGA:PC :=
 (.reg [0,12] [I 7 (.mv (.s 0)),I 8 (.nilck (.s 7)),I 9 (.fadr 0 (.s 8)),I 10 (.ld false 1 (.s 9)),I 11 (.len 1 (.s 10)),I 12 (.bin .eql (.s 11) (V 0))])
def ZGB:PC :=
 (.reg [2,3] [I 2 (.mv (.v (.int .u64 0))),I 3 (.mv (V 6))])
def ZGC:PC :=
 (.reg [0,4] [I 13 (.mv (.s 0)),I 14 (.nilck (.s 13)),I 15 (.fadr 0 (.s 14)),I 16 (.ld false 1 (.s 15)),I 17 (.mv (.s 0)),I 18 (.nilck (.s 17)),I 19 (.fadr 0 (.s 18)),I 20 (.ld false 1 (.s 19)),I 21 (.len 1 (.s 20)),I 22 (.bin .sub (.s 21) (V 1)),I 23 (.ixS 1 (.s 16) (.s 22)),I 24 (.ld false 1 (.s 23)),I 4 (.mv (.s 24))])
def ZGD:PC :=
 (.reg [0,4] [I 25 (.mv (.s 0)),I 26 (.mv (.s 0)),I 27 (.nilck (.s 26)),I 28 (.fadr 0 (.s 27)),I 29 (.ld false 1 (.s 28)),I 30 (.mv (.s 0)),I 31 (.nilck (.s 30)),I 32 (.fadr 0 (.s 31)),I 33 (.ld false 1 (.s 32)),I 34 (.len 1 (.s 33)),I 35 (.bin .sub (.s 34) (V 1)),I 36 (.slc 1 (.s 29) none (some (.s 35))),I 37 (.nilck (.s 25)),I 38 (.fadr 0 (.s 37)),J (.st 1 (.s 38) (.s 36))])
def ZGE:PC :=
 (.reg [0,4] [I 39 (.mv (.s 0)),I 40 (.nilck (.s 39)),I 41 (.fadr 1 (.s 40)),I 42 (.ld false 1 (.s 41)),I 43 (.mv (.s 4)),I 44 (.ixS 1 (.s 42) (.s 43)),J (.st 1 (.s 44) (.v (.int .u8 1)))])
def ZGF:PC :=
 (.reg [2,3] [I 45 (.mv (.s 4)),I 46 (.mv (.s 0)),I 47 (.nilck (.s 46)),I 48 (.fadr 2 (.s 47)),I 49 (.ld false 1 (.s 48)),I 50 (.mv (.s 4)),I 51 (.ixS 1 (.s 49) (.s 50)),I 52 (.ld false 1 (.s 51)),I 53 (C ZDV [(.s 45),(.s 52)]),I 54 (.ext (.s 53) 0),I 55 (.ext (.s 53) 1),I 2 (.mv (.s 54)),I 3 (.mv (.s 55))])
def ZBB:PF:=⟨false,
 (.seq ZF7
 (.seq (.seq ZF8
 (.ite (.s 6)
 (.seq ZF9
 .ret)
 .skip))
 (.seq (.seq ZGA
 (.ite (.s 12)
 (.seq ZGB
 .ret)
 .skip))
 (.seq ZGC
 (.seq ZGD
 (.seq ZGE
 (.seq ZGF
 .ret))))))),
 [.s 2,.s 3]⟩
theorem ZJb:Zs Proofs.Tryz.prog false ZJa Proofs.Tryz.f261=some ZBB:=by kernel_rfl
def ZXP:List Hint:=[H [0],H [2,3]]
def ZQP:PC :=
 (.reg [0] [I 2 (.mv (V 0)),I 3 (.mv (.v (.int .u64 0)))])
def ZQQ:PC :=
 (.reg [2,3] [I 4 (.mv (.s 0)),I 5 (.bin .and (.s 4) (.v (.int .u64 65535))),I 6 (.cint .i64 (.s 5)),I 7 (.mv (.s 0)),I 8 (.bin .shr (.s 7) (.v (.int .u64 16))),I 2 (.mv (.s 6)),I 3 (.mv (.s 8))])
def ZJc:PF:=⟨false,
 (.seq ZQP
 (.seq ZQQ
 .ret)),
 [.s 2,.s 3]⟩
theorem ZXQ:Zs Proofs.Tryz.prog false ZXP Proofs.Tryz.f263=some ZJc:=by kernel_rfl
end Go.Q15
