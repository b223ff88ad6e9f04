/- Resolved code, printed by program. No condition. -/
import Derived.Test.YtbmllhocajbcfaaGreatProg
import Derived.KernelRfl
import Derived.Test.YtbmllhocajbcfaaGreatPdT3
set_option linter.unusedVariables false
set_option linter.unusedSimpArgs false
namespace Go.Q15
open Go Go.QAbs
set_option maxRecDepth 100000
abbrev Zni:FuncId:=1
abbrev Zi4:FuncId:=2
abbrev YF:FuncId:=3
abbrev Zcv:FuncId:=4
abbrev Zb1:FuncId:=5
abbrev ZZN:FuncId:=6
abbrev Xt:FuncId:=7
abbrev Xu:FuncId:=8
abbrev YC:FuncId:=9
abbrev JW:FuncId:=10
abbrev ZAG:FuncId:=11
abbrev QF:FuncId:=12
abbrev ZDl:FuncId:=13
abbrev Q6:FuncId:=14
abbrev Xv:FuncId:=15
abbrev Yn:FuncId:=16
abbrev ZCC:FuncId:=17
abbrev J8:FuncId:=18
abbrev ZfI:FuncId:=19
abbrev ZgL:FuncId:=20
abbrev Zgy:FuncId:=21
abbrev Zgz:FuncId:=22
abbrev Znj:FuncId:=23
abbrev ZfJ:FuncId:=24
abbrev Zg0:FuncId:=25
abbrev Znk:FuncId:=26
abbrev Zlj:FuncId:=27
abbrev Zjg:FuncId:=28
abbrev ZDm:FuncId:=29
abbrev ZoD:FuncId:=30
abbrev Znl:FuncId:=31
abbrev Zg1:FuncId:=32
abbrev ZgM:FuncId:=33
abbrev ZeW:FuncId:=34
abbrev Zko:FuncId:=35
abbrev ZfK:FuncId:=36
abbrev Zb2:FuncId:=37
abbrev Zlk:FuncId:=38
abbrev ZAH:FuncId:=39
abbrev ZCD:FuncId:=40
abbrev Yv:FuncId:=41
abbrev XR:FuncId:=42
abbrev QG:FuncId:=43
abbrev Qh:FuncId:=44
abbrev QL:FuncId:=45
abbrev Y6:FuncId:=46
abbrev JL:FuncId:=47
abbrev Qt:FuncId:=48
abbrev ZD8:FuncId:=49
abbrev ZNg:FuncId:=50
abbrev ZCE:FuncId:=51
abbrev YQ:FuncId:=52
abbrev Q7:FuncId:=53
abbrev Yi:FuncId:=54
abbrev Y7:FuncId:=55
abbrev Xw:FuncId:=56
abbrev Jh:FuncId:=57
abbrev JQ:FuncId:=58
abbrev YG:FuncId:=59
abbrev YH:FuncId:=60
abbrev Zg2:FuncId:=61
abbrev ZgN:FuncId:=62
abbrev Zg3:FuncId:=63
abbrev ZgO:FuncId:=64
abbrev ZI8:FuncId:=65
abbrev Zme:FuncId:=66
abbrev Zg4:FuncId:=67
abbrev Zmf:FuncId:=68
abbrev Zll:FuncId:=69
abbrev Znm:FuncId:=70
abbrev Zkp:FuncId:=71
abbrev Zcw:FuncId:=72
abbrev Zlm:FuncId:=73
abbrev ZfL:FuncId:=74
abbrev ZeX:FuncId:=75
abbrev Znn:FuncId:=76
abbrev Zkq:FuncId:=77
abbrev Zjh:FuncId:=78
abbrev Zi5:FuncId:=79
abbrev ZCF:FuncId:=80
abbrev Zno:FuncId:=81
abbrev ZfM:FuncId:=82
abbrev ZgP:FuncId:=83
abbrev Zln:FuncId:=84
abbrev Znp:FuncId:=85
abbrev Zb3:FuncId:=86
abbrev Zlo:FuncId:=87
abbrev Zi6:FuncId:=88
abbrev Znq:FuncId:=89
abbrev Zcx:FuncId:=90
abbrev Zji:FuncId:=91
abbrev ZCG:FuncId:=92
abbrev ZFc:FuncId:=93
abbrev QO:FuncId:=94
abbrev QY:FuncId:=95
abbrev ZAI:FuncId:=96
abbrev Y8:FuncId:=97
abbrev Xx:FuncId:=98
abbrev YD:FuncId:=99
abbrev YE:FuncId:=100
abbrev XS:FuncId:=101
abbrev Jq:FuncId:=102
abbrev Yo:FuncId:=103
abbrev ZAJ:FuncId:=104
abbrev ZAK:FuncId:=105
abbrev Y9:FuncId:=106
abbrev Z6:FuncId:=107
abbrev Jd:FuncId:=108
abbrev JR:FuncId:=109
abbrev YI:FuncId:=110
abbrev Q8:FuncId:=111
abbrev ZDn:FuncId:=112
abbrev ZI9:FuncId:=113
abbrev J9:FuncId:=114
abbrev XA:FuncId:=115
abbrev QV:FuncId:=116
abbrev Xy:FuncId:=117
abbrev XB:FuncId:=118
abbrev ZBe:FuncId:=119
abbrev Yj:FuncId:=120
abbrev X8:FuncId:=121
abbrev Jy:FuncId:=122
abbrev Zmg:FuncId:=123
abbrev ZHN:FuncId:=124
abbrev Zjj:FuncId:=125
abbrev Znr:FuncId:=126
abbrev Zjk:FuncId:=127
abbrev Zlp:FuncId:=128
abbrev Zlq:FuncId:=129
abbrev Zkr:FuncId:=130
abbrev XJ:FuncId:=131
abbrev ZBI:FuncId:=132
abbrev Zmh:FuncId:=133
abbrev Zjl:FuncId:=134
abbrev Zi7:FuncId:=135
abbrev Zlr:FuncId:=136
abbrev Zls:FuncId:=137
abbrev Xl:FuncId:=138
abbrev Zlt:FuncId:=139
abbrev ZZO:FuncId:=140
abbrev ZeY:FuncId:=141
abbrev ZD9:FuncId:=142
abbrev Zcy:FuncId:=143
abbrev Zmi:FuncId:=144
abbrev ZAy:FuncId:=145
abbrev XZ:FuncId:=146
abbrev ZAn:FuncId:=147
abbrev JU:FuncId:=148
abbrev JX:FuncId:=149
abbrev YA:FuncId:=150
abbrev Yp:FuncId:=151
abbrev Xz:FuncId:=152
abbrev J3:FuncId:=153
abbrev ZAL:FuncId:=154
abbrev ZJA:FuncId:=155
abbrev ZAz:FuncId:=156
abbrev ZFd:FuncId:=157
abbrev ZgQ:FuncId:=158
abbrev Zks:FuncId:=159
abbrev Zkt:FuncId:=160
abbrev Zku:FuncId:=161
abbrev ZQw:FuncId:=162
abbrev Jz:FuncId:=163
abbrev ZEA:FuncId:=164
abbrev YJ:FuncId:=165
abbrev ZFe:FuncId:=166
abbrev ZEB:FuncId:=167
abbrev ZAM:FuncId:=168
abbrev ZAo:FuncId:=169
abbrev ZEC:FuncId:=170
abbrev ZDo:FuncId:=171
abbrev ZAN:FuncId:=172
abbrev XC:FuncId:=173
abbrev ZfN:FuncId:=174
abbrev ZZI:FuncId:=175
abbrev Zkv:FuncId:=176
abbrev ZAp:FuncId:=177
abbrev ZAq:FuncId:=178
abbrev Xm:FuncId:=179
abbrev YS:FuncId:=180
abbrev XT:FuncId:=181
abbrev XU:FuncId:=182
abbrev ZFf:FuncId:=183
abbrev ZEU:FuncId:=184
abbrev X3:FuncId:=185
abbrev I (d:Nat) (o:PO):PI:=⟨some d,none,false,o⟩
abbrev G (d g:Nat) (b:Bool) (o:PO):PI:=⟨some d,some (g,b),false,o⟩
abbrev J (o:PO):PI:=⟨none,none,false,o⟩
abbrev C (f:FuncId) (a:List Opd):PO:=.call .norm (.v (.func (.func f) [] [])) a
abbrev H (k:List Nat):Hint:=⟨k,[],[],[],[],[]⟩
abbrev V (i:Int):Opd:=.v (.int .i64 i)
abbrev ZT:AV:=.agg [(.int .u64 0),(.int .i64 0),(.int .i64 0),(.int .i64 0),(.int .i64 0),(.str []),.nils]
abbrev ZR:AV:=.agg [(.int .u64 0),(.int .i64 0),(.int .i64 0),(.int .i64 0),(.int .i64 0)]
abbrev ZM:AV:=.agg [(.int .i64 0),(.int .i64 0),(.int .i64 0)]
abbrev ZN:AV:=.agg [(.int .i64 0),(.str []),.nils]
abbrev ZK:AV:=.agg [(.int .u64 0),(.int .i64 0),(.int .i64 0),(.int .i64 0)]
def ZEV:List Hint:=[H [0,1],H [0,1,22],H [4],H [1,5,6],H [1,5,30],H [4],H [1,5,7],H [5,6,7,8],H [5,7,8,42],H [4],H [5,7,8,9],H [5,7,8,9,46],H [5,7,8,9,10],H [5,7,8,9,10,11],H [5,7,8,9,10,11,12],H [5,7,8,9,10,11,12,63],H [5,7,8,9,10,11,12,91],H [4],H [5,7,8,9,10,11,12],H [5,7,8,9,10,13],H [5,7,8,9,10,13,96],H [5,7,8,9,10,13,14],H [5,7,8,9,10,13,14,105],H [5,7,8,9,10,13,14],H [5,7,8,9,10,13,14,15,16],H [5,7,8,9,10,13,138],H [4],H [5,7,8,9,10,13],H [5,7,8,9],H [4]]
def ZDM:PC :=
 (.reg [0,1] [I 4 (.mv (.v (.bool false)))])
def ZDN:PC :=
 (.reg [0,1,22] [I 17 (.mv (.s 0)),I 18 (C Xt [(.s 17)]),I 19 (.mv (.s 18)),G 20 19 false (.mv (.s 1)),G 21 19 false (C Xu [(.s 20)]),I 22 (.pick (.s 19) (.v (.bool true)) (.s 21))])
def ZDO:PC :=
 (.reg [4] [I 23 (C YC []),I 4 (.mv (.s 23))])
def ZDP:PC :=
 (.reg [1,5,6] [I 25 (.mv (.s 0)),I 26 (C JW [(.s 25)]),I 24 (.mv (.s 26)),I 27 (.ext (.s 24) 0),I 28 (.ext (.s 24) 1),I 5 (.box (.v (.agg [.nilptr,.nilptr,.nils]))),J (.st 3 (.s 5) (.s 27)),I 6 (.mv (.s 28))])
def ZDQ:PC :=
 (.reg [1,5,30] [I 29 (.mv (.s 6)),I 30 (.un .not (.s 29))])
def ZDR:PC :=
 (.reg [4] [I 4 (.mv (.v (.bool false)))])
def ZDS:PC :=
 (.reg [1,5,7] [I 31 (.fadr 0 (.s 5)),I 32 (.ld false 1 (.s 31)),I 7 (.mv (.s 32))])
def ZDT:PC :=
 (.reg [5,6,7,8] [I 34 (.mv (.s 7)),I 35 (.fadr 2 (.s 5)),I 36 (.ld false 1 (.s 35)),I 37 (.mv (.s 1)),I 38 (C ZAG [(.s 34),(.s 36),(.s 37)]),I 33 (.mv (.s 38)),I 39 (.ext (.s 33) 0),I 40 (.ext (.s 33) 1),I 8 (.mv (.s 39)),I 6 (.mv (.s 40))])
def ZDU:PC :=
 (.reg [5,7,8,42] [I 41 (.mv (.s 6)),I 42 (.un .not (.s 41))])
def ZDV:PC :=
 (.reg [4] [I 4 (.mv (.v (.bool false)))])
def ZCH:PC :=
 (.reg [5,7,8,9] [I 9 (.mv (V 0))])
def ZCI:PC :=
 (.reg [5,7,8,9,46] [I 43 (.mv (.s 9)),I 44 (.mv (.s 8)),I 45 (.len 1 (.s 44)),I 46 (.bin .lss (.s 43) (.s 45))])
def ZCJ:PC :=
 (.reg [5,7,8,9,10] [I 49 (.mv (.s 7)),I 50 (.mv (.s 8)),I 51 (.mv (.s 9)),I 52 (.ixS 7 (.s 50) (.s 51)),I 53 (.ld true 7 (.s 52)),I 54 (C QF [(.s 49),(.s 53)]),I 10 (.mv (.s 54))])
def ZCK:PC :=
 (.reg [5,7,8,9,10,11] [I 55 (.mv (.s 8)),I 56 (.mv (.s 9)),I 57 (.ixS 7 (.s 55) (.s 56)),I 58 (.ld true 7 (.s 57)),I 59 (C ZDl [(.s 58)]),I 11 (.mv (.s 59))])
def ZCL:PC :=
 (.reg [5,7,8,9,10,11,12] [I 12 (.mv (V 0))])
def ZCM:PC :=
 (.reg [5,7,8,9,10,11,12,63] [I 60 (.mv (.s 12)),I 61 (.mv (.s 11)),I 62 (.len 1 (.s 61)),I 63 (.bin .lss (.s 60) (.s 62))])
def ZCN:PC :=
 (.reg [5,7,8,9,10,11,12,91] [I 66 (.mv (.s 10)),I 67 (.mv (.s 11)),I 68 (.mv (.s 12)),I 69 (.ixS 1 (.s 67) (.s 68)),I 70 (.ld false 1 (.s 69)),I 71 (C Q6 [(.s 66),(.s 70)]),I 72 (.un .not (.s 71)),I 73 (.mv (.s 72)),G 74 73 false (.mv (.s 7)),G 75 73 false (.mv (.s 11)),G 76 73 false (.mv (.s 12)),G 77 73 false (.ixS 1 (.s 75) (.s 76)),G 78 73 false (.ld false 1 (.s 77)),G 79 73 false (C Xv [(.s 74),(.s 78)]),G 80 73 false (.un .not (.s 79)),I 81 (.pick (.s 73) (.v (.bool true)) (.s 80)),I 82 (.mv (.s 81)),G 83 82 false (.mv (.s 11)),G 84 82 false (.mv (.s 12)),G 85 82 false (.slc 1 (.s 83) none (some (.s 84))),G 86 82 false (.mv (.s 11)),G 87 82 false (.mv (.s 12)),G 88 82 false (.ixS 1 (.s 86) (.s 87)),G 89 82 false (.ld false 1 (.s 88)),G 90 82 false (C Q6 [(.s 85),(.s 89)]),I 91 (.pick (.s 82) (.v (.bool true)) (.s 90))])
def ZCO:PC :=
 (.reg [4] [I 4 (.mv (.v (.bool false)))])
def ZCP:PC :=
 (.reg [5,7,8,9,10,11,12] [I 64 (.mv (.s 12)),I 65 (.bin .add (.s 64) (V 1)),I 12 (.mv (.s 65))])
def p_quartolaw15_PlanDrops_19:PC :=
 (.seq (.seq ZCM
 (.ite (.s 63)
 .skip
 (.exit 2)))
 (.seq (.block 3
 (.seq ZCN
 (.ite (.s 91)
 (.seq ZCO
 .ret)
 .skip)))
 ZCP))
def ZCQ:PC :=
 (.reg [5,7,8,9,10,13] [I 13 (.mv (V 0))])
def ZCR:PC :=
 (.reg [5,7,8,9,10,13,96] [I 92 (.mv (.s 13)),I 93 (.fadr 2 (.s 5)),I 94 (.ld false 1 (.s 93)),I 95 (.len 1 (.s 94)),I 96 (.bin .lss (.s 92) (.s 95))])
def ZCS:PC :=
 (.reg [5,7,8,9,10,13,14] [I 14 (.mv (.v .nils))])
def ZCT:PC :=
 (.reg [5,7,8,9,10,13,14,105] [I 99 (.fadr 2 (.s 5)),I 100 (.ld false 1 (.s 99)),I 101 (.mv (.s 13)),I 102 (.ixS 5 (.s 100) (.s 101)),I 103 (.fadr 0 (.s 102)),I 104 (.ld false 1 (.s 103)),I 105 (.bin .neq (.s 104) (.v (.int .u64 0)))])
def ZCU:PC :=
 (.reg [5,7,8,9,10,13,14] [I 106 (.mv (.s 7)),I 107 (.fadr 2 (.s 5)),I 108 (.ld false 1 (.s 107)),I 109 (.mv (.s 13)),I 110 (.ixS 5 (.s 108) (.s 109)),I 111 (.fadr 0 (.s 110)),I 112 (.ld false 1 (.s 111)),I 113 (.build [(.int .u64 0),(.int .i64 0),(.int .i64 0),(.int .i64 0),(.int .i64 0),(.str []),.nils] [(0,1,(.s 112))]),I 114 (C QF [(.s 106),(.s 113)]),I 115 (.mv (.s 10)),I 116 (C Yn [(.s 114),(.s 115)]),I 14 (.mv (.s 116))])
def ZCV:PC :=
 (.reg [5,7,8,9,10,13,14,15,16] [I 118 (.mv (.s 7)),I 119 (.fadr 2 (.s 5)),I 120 (.ld false 1 (.s 119)),I 121 (.mv (.s 13)),I 122 (.ixS 5 (.s 120) (.s 121)),I 123 (.ld true 5 (.s 122)),I 124 (.mv (.s 8)),I 125 (.mv (.s 9)),I 126 (.ixS 7 (.s 124) (.s 125)),I 127 (.ld true 7 (.s 126)),I 128 (C ZCC [(.s 118),(.s 123),(.s 127)]),I 117 (.mv (.s 128)),I 129 (.ext (.s 117) 0),I 130 (.ext (.s 117) 1),I 15 (.mv (.s 129)),I 16 (.mv (.s 130))])
def ZCW:PC :=
 (.reg [5,7,8,9,10,13,138] [I 131 (.mv (.s 16)),I 132 (.bin .neq (.s 131) (V 0)),I 133 (.mv (.s 132)),G 134 133 false (.mv (.s 15)),G 135 133 false (.mv (.s 14)),G 136 133 false (C J8 [(.s 134),(.s 135)]),G 137 133 false (.un .not (.s 136)),I 138 (.pick (.s 133) (.v (.bool true)) (.s 137))])
def ZCX:PC :=
 (.reg [4] [I 4 (.mv (.v (.bool false)))])
def ZCY:PC :=
 (.reg [5,7,8,9,10,13] [I 97 (.mv (.s 13)),I 98 (.bin .add (.s 97) (V 1)),I 13 (.mv (.s 98))])
def p_quartolaw15_PlanDrops_29:PC :=
 (.seq (.seq ZCR
 (.ite (.s 96)
 .skip
 (.exit 4)))
 (.seq (.block 5
 (.seq ZCS
 (.seq (.seq ZCT
 (.ite (.s 105)
 ZCU
 .skip))
 (.seq ZCV
 (.seq ZCW
 (.ite (.s 138)
 (.seq ZCX
 .ret)
 .skip))))))
 ZCY))
def ZCZ:PC :=
 (.reg [5,7,8,9] [I 47 (.mv (.s 9)),I 48 (.bin .add (.s 47) (V 1)),I 9 (.mv (.s 48))])
def p_quartolaw15_PlanDrops_31:PC :=
 (.seq (.seq ZCI
 (.ite (.s 46)
 .skip
 (.exit 0)))
 (.seq (.block 1
 (.seq ZCJ
 (.seq ZCK
 (.seq (.seq ZCL
 (.block 2
 (.loop p_quartolaw15_PlanDrops_19)))
 (.seq ZCQ
 (.block 4
 (.loop p_quartolaw15_PlanDrops_29)))))))
 ZCZ))
def p_quartolaw15_PlanDrops_32:PC :=
 (.reg [4] [I 139 (C YC []),I 4 (.mv (.s 139))])
def X9:PF:=⟨false,
 (.seq ZDM
 (.seq (.seq ZDN
 (.ite (.s 22)
 (.seq ZDO
 .ret)
 .skip))
 (.seq ZDP
 (.seq (.seq ZDQ
 (.ite (.s 30)
 (.seq ZDR
 .ret)
 .skip))
 (.seq ZDS
 (.seq ZDT
 (.seq (.seq ZDU
 (.ite (.s 42)
 (.seq ZDV
 .ret)
 .skip))
 (.seq (.seq ZCH
 (.block 0
 (.loop p_quartolaw15_PlanDrops_31)))
 (.seq p_quartolaw15_PlanDrops_32
 .ret))))))))),
 [.s 4]⟩
theorem ZEW:Zx Proofs.Tryz.prog false ZEV Proofs.Tryz.f3=some X9:=by kernel_rfl
def ZNh:List Hint:=[H [0],H [0,3],H [0,3,4],H [0,3,4,12],H [0,3,4],H [0,3,4],H [2]]
def ZJB:PC :=
 (.reg [0] [I 2 (.mv (.v (.bool false)))])
def ZJC:PC :=
 (.reg [0,3] [I 3 (.mv (V 0))])
def ZJD:PC :=
 (.reg [0,3,4] [I 4 (.mv (V 0))])
def ZJE:PC :=
 (.reg [0,3,4,12] [I 5 (.mv (.s 4)),I 6 (.mv (.s 0)),I 7 (.len 1 (.s 6)),I 8 (.bin .lss (.s 5) (.s 7)),I 9 (.mv (.s 8)),G 10 9 true (.mv (.s 3)),G 11 9 true (.bin .leq (.s 10) (V 900)),I 12 (.pick (.s 9) (.s 11) (.v (.bool false)))])
def ZJF:PC :=
 (.reg [0,3,4] [I 15 (.mv (.s 3)),I 16 (.mv (.s 0)),I 17 (.mv (.s 4)),I 18 (.ixS 1 (.s 16) (.s 17)),I 19 (.ld false 1 (.s 18)),I 20 (.len 0 (.s 19)),I 21 (.mnx false (.s 20) (V 1000)),I 22 (.bin .add (.s 15) (.s 21)),I 3 (.mv (.s 22))])
def ZJG:PC :=
 (.reg [0,3,4] [I 13 (.mv (.s 4)),I 14 (.bin .add (.s 13) (V 1)),I 4 (.mv (.s 14))])
def ZJH:PC :=
 (.seq (.seq ZJE
 (.ite (.s 12)
 .skip
 (.exit 0)))
 (.seq (.block 1
 ZJF)
 ZJG))
def ZJI:PC :=
 (.reg [2] [I 23 (.mv (.s 0)),I 24 (.len 1 (.s 23)),I 25 (.bin .gtr (.s 24) (V 4)),I 26 (.mv (.s 25)),G 27 26 false (.mv (.s 3)),G 28 26 false (.bin .gtr (.s 27) (V 900)),I 29 (.pick (.s 26) (.v (.bool true)) (.s 28)),I 2 (.mv (.s 29))])
def ZCa:PF:=⟨false,
 (.seq ZJB
 (.seq ZJC
 (.seq (.seq ZJD
 (.block 0
 (.loop ZJH)))
 (.seq ZJI
 .ret)))),
 [.s 2]⟩
theorem ZNi:Zx Proofs.Tryz.prog false ZNh Proofs.Tryz.f7=some ZCa:=by kernel_rfl
def ZNj:List Hint:=[H [0],H [0,3],H [0,3,11],H [0,3,20],H [2],H [0,3],H [2]]
def ZJJ:PC :=
 (.reg [0] [I 2 (.mv (.v (.bool false)))])
def ZJK:PC :=
 (.reg [0,3] [I 3 (.mv (V 0))])
def ZJL:PC :=
 (.reg [0,3,11] [I 4 (.mv (.s 3)),I 5 (.mv (.s 0)),I 6 (.len 1 (.s 5)),I 7 (.bin .lss (.s 4) (.s 6)),I 8 (.mv (.s 7)),G 9 8 true (.mv (.s 3)),G 10 8 true (.bin .lss (.s 9) (V 100)),I 11 (.pick (.s 8) (.s 10) (.v (.bool false)))])
def ZJM:PC :=
 (.reg [0,3,20] [I 14 (.mv (.s 0)),I 15 (.mv (.s 3)),I 16 (.ixS 4 (.s 14) (.s 15)),I 17 (.fadr 3 (.s 16)),I 18 (.ld false 1 (.s 17)),I 19 (.len 0 (.s 18)),I 20 (.bin .gtr (.s 19) (V 200))])
def ZJN:PC :=
 (.reg [2] [I 2 (.mv (.v (.bool true)))])
def ZJO:PC :=
 (.reg [0,3] [I 12 (.mv (.s 3)),I 13 (.bin .add (.s 12) (V 1)),I 3 (.mv (.s 13))])
def ZJP:PC :=
 (.seq (.seq ZJL
 (.ite (.s 11)
 .skip
 (.exit 0)))
 (.seq (.block 1
 (.seq ZJM
 (.ite (.s 20)
 (.seq ZJN
 .ret)
 .skip)))
 ZJO))
def ZJQ:PC :=
 (.reg [2] [I 21 (.mv (.s 0)),I 22 (.len 1 (.s 21)),I 23 (.bin .gtr (.s 22) (V 30)),I 2 (.mv (.s 23))])
def ZCb:PF:=⟨false,
 (.seq ZJJ
 (.seq (.seq ZJK
 (.block 0
 (.loop ZJP)))
 (.seq ZJQ
 .ret))),
 [.s 2]⟩
theorem ZNk:Zx Proofs.Tryz.prog false ZNj Proofs.Tryz.f8=some ZCb:=by kernel_rfl
def ZLg:List Hint:=[H [],H [1,2],H [0]]
def ZHY:PC :=
 (.reg [] [I 0 (.mv (.v (.bool false)))])
def ZHZ:PC :=
 (.reg [1,2] [I 4 (C ZAH [(.v (.str [97,98,99,100,101,102,103,104,105,106,107,108,109,110,111,112,113]))]),I 3 (.mv (.s 4)),I 5 (.ext (.s 3) 0),I 6 (.ext (.s 3) 1),I 1 (.box (.v ZT)),J (.st 7 (.s 1) (.s 5)),I 2 (.mv (.s 6))])
def ZHa:PC :=
 (.reg [0] [I 7 (.mv (.s 2)),I 8 (.bin .eql (.s 7) (V 0)),I 9 (.mv (.s 8)),G 10 9 true (.fadr 1 (.s 1)),G 11 9 true (.ld false 1 (.s 10)),G 12 9 true (.bin .eql (.s 11) (V 1)),I 13 (.pick (.s 9) (.s 12) (.v (.bool false))),I 14 (.mv (.s 13)),G 15 14 true (.fadr 6 (.s 1)),G 16 14 true (.ld false 1 (.s 15)),G 17 14 true (.len 1 (.s 16)),G 18 14 true (.bin .eql (.s 17) (V 2)),I 19 (.pick (.s 14) (.s 18) (.v (.bool false))),I 20 (.mv (.s 19)),G 21 20 true (.fadr 6 (.s 1)),G 22 20 true (.ld false 1 (.s 21)),G 23 20 true (.ixS 7 (.s 22) (V 0)),G 24 20 true (.fadr 5 (.s 23)),G 25 20 true (.ld false 1 (.s 24)),G 26 20 true (.bin .eql (.s 25) (.v (.str [97,98,99,100,101,102,103,104,105]))),I 27 (.pick (.s 20) (.s 26) (.v (.bool false))),I 28 (.mv (.s 27)),G 29 28 true (.fadr 6 (.s 1)),G 30 28 true (.ld false 1 (.s 29)),G 31 28 true (.ixS 7 (.s 30) (V 1)),G 32 28 true (.fadr 5 (.s 31)),G 33 28 true (.ld false 1 (.s 32)),G 34 28 true (.bin .eql (.s 33) (.v (.str [106,107,108,109,110,111,112,113]))),I 35 (.pick (.s 28) (.s 34) (.v (.bool false))),I 36 (.mv (.s 35)),G 37 36 true (.ld true 7 (.s 1)),G 38 36 true (C ZCD [(.s 37)]),G 39 36 true (.bin .eql (.s 38) (V 3)),I 40 (.pick (.s 36) (.s 39) (.v (.bool false))),I 0 (.mv (.s 40))])
def ZBM:PF:=⟨false,
 (.seq ZHY
 (.seq ZHZ
 (.seq ZHa
 .ret))),
 [.s 0]⟩
theorem ZLh:Zx Proofs.Tryz.prog false ZLg Proofs.Tryz.f9=some ZBM:=by kernel_rfl
def ZOw:List Hint:=[H [0,2],H [0,2,4,5],H [0,2,4,5,6,7],H [0,2,4,5,6,7,8],H [0,2,4,6,8,35],H [2,3],H [0,2,4,6,8,9],H [0,2,4,6,8,9,40],H [0,2,4,6,8,9,10],H [0,2,4,6,8,9,10,11,12],H [0,2,4,6,8,9,11,12,13,14],H [0,2,4,6,8,9,11,72],H [2,3],H [0,2,4,6,8,9],H [0,2,4,6,8,9],H [2,3]]
def ZLi:PC :=
 (.reg [0,2] [I 2 (.box (.v (.agg [.nilptr,.nilptr,.nils]))),I 3 (.mv (.v (.bool false)))])
def ZLj:PC :=
 (.reg [0,2,4,5] [I 16 (C ZDm [(V 700),(.v (.int .u64 3))]),I 15 (.mv (.s 16)),I 17 (.ext (.s 15) 0),I 18 (.ext (.s 15) 1),I 4 (.mv (.s 17)),I 5 (.mv (.s 18))])
def ZLk:PC :=
 (.reg [0,2,4,5,6,7] [I 20 (C Yv [(V 700),(.v (.int .u64 3))]),I 19 (.mv (.s 20)),I 21 (.ext (.s 19) 0),I 22 (.ext (.s 19) 1),I 6 (.mv (.s 21)),I 7 (.mv (.s 22))])
def ZLl:PC :=
 (.reg [0,2,4,5,6,7,8] [I 23 (.mv (.s 4)),I 24 (.mv (.s 6)),I 25 (.build [.nilptr,.nilptr,.nils] [(0,1,(.s 23)),(1,1,(.s 24))]),I 8 (.box (.v (.agg [.nilptr,.nilptr,.nils]))),J (.st 3 (.s 8) (.s 25))])
def ZLm:PC :=
 (.reg [0,2,4,6,8,35] [I 26 (.mv (.s 4)),I 27 (.eqs false 3 [] (.s 26) (.v .nilptr)),I 28 (.mv (.s 27)),G 29 28 false (.mv (.s 5)),G 30 28 false (.bin .neq (.s 29) (V 0)),I 31 (.pick (.s 28) (.v (.bool true)) (.s 30)),I 32 (.mv (.s 31)),G 33 32 false (.mv (.s 7)),G 34 32 false (.bin .neq (.s 33) (V 0)),I 35 (.pick (.s 32) (.v (.bool true)) (.s 34))])
def ZLn:PC :=
 (.reg [2,3] [I 36 (.ld true 3 (.s 8)),J (.st 3 (.s 2) (.s 36)),I 3 (.mv (.v (.bool false)))])
def ZLo:PC :=
 (.reg [0,2,4,6,8,9] [I 9 (.mv (V 0))])
def ZLp:PC :=
 (.reg [0,2,4,6,8,9,40] [I 37 (.mv (.s 9)),I 38 (.mv (.s 0)),I 39 (.len 1 (.s 38)),I 40 (.bin .lss (.s 37) (.s 39))])
def ZLq:PC :=
 (.reg [0,2,4,6,8,9,10] [I 43 (.mv (.s 0)),I 44 (.mv (.s 9)),I 45 (.ixS 1 (.s 43) (.s 44)),I 46 (.ld false 1 (.s 45)),I 47 (C XR [(.s 46)]),I 10 (.box (.v ZT)),J (.st 7 (.s 10) (.s 47))])
def ZLr:PC :=
 (.reg [0,2,4,6,8,9,10,11,12] [I 49 (.mv (.s 4)),I 50 (.mkf (.func Qh) [(.s 49)] []),I 51 (.ld true 7 (.s 10)),I 52 (C QG [(.s 50),(.s 51)]),I 48 (.mv (.s 52)),I 53 (.ext (.s 48) 0),I 54 (.ext (.s 48) 1),I 11 (.box (.v ZR)),J (.st 5 (.s 11) (.s 53)),I 12 (.mv (.s 54))])
def ZJR:PC :=
 (.reg [0,2,4,6,8,9,11,12,13,14] [I 56 (.mv (.s 6)),I 57 (.mkf (.func QL) [(.s 56)] []),I 58 (.ld true 7 (.s 10)),I 59 (C QG [(.s 57),(.s 58)]),I 55 (.mv (.s 59)),I 60 (.ext (.s 55) 0),I 61 (.ext (.s 55) 1),I 13 (.box (.v ZR)),J (.st 5 (.s 13) (.s 60)),I 14 (.mv (.s 61))])
def ZJS:PC :=
 (.reg [0,2,4,6,8,9,11,72] [I 62 (.mv (.s 12)),I 63 (.bin .neq (.s 62) (V 0)),I 64 (.mv (.s 63)),G 65 64 false (.mv (.s 14)),G 66 64 false (.bin .neq (.s 65) (V 0)),I 67 (.pick (.s 64) (.v (.bool true)) (.s 66)),I 68 (.mv (.s 67)),G 69 68 false (.ld true 5 (.s 11)),G 70 68 false (.ld true 5 (.s 13)),G 71 68 false (.eqs true 0 [(0,0),(1,0),(2,0),(3,0),(4,0)] (.s 69) (.s 70)),I 72 (.pick (.s 68) (.v (.bool true)) (.s 71))])
def ZJT:PC :=
 (.reg [2,3] [I 73 (.ld true 3 (.s 8)),J (.st 3 (.s 2) (.s 73)),I 3 (.mv (.v (.bool false)))])
def ZJU:PC :=
 (.reg [0,2,4,6,8,9] [I 74 (.fadr 2 (.s 8)),I 75 (.ld false 1 (.s 74)),I 76 (.ld true 5 (.s 11)),I 77 (.bslice false 5 [ZR] [(0,(.s 76))]),I 78 (.app 5 40 (.s 75) (.s 77)),I 79 (.fadr 2 (.s 8)),J (.st 1 (.s 79) (.s 78))])
def ZJV:PC :=
 (.reg [0,2,4,6,8,9] [I 41 (.mv (.s 9)),I 42 (.bin .add (.s 41) (V 1)),I 9 (.mv (.s 42))])
def ZJW:PC :=
 (.seq (.seq ZLp
 (.ite (.s 40)
 .skip
 (.exit 0)))
 (.seq (.block 1
 (.seq ZLq
 (.seq ZLr
 (.seq ZJR
 (.seq (.seq ZJS
 (.ite (.s 72)
 (.seq ZJT
 .ret)
 .skip))
 ZJU)))))
 ZJV))
def ZJX:PC :=
 (.reg [2,3] [I 80 (.ld true 3 (.s 8)),J (.st 3 (.s 2) (.s 80)),I 3 (.mv (.v (.bool true)))])
def ZDp:PF:=⟨true,
 (.seq ZLi
 (.seq ZLj
 (.seq ZLk
 (.seq ZLl
 (.seq (.seq ZLm
 (.ite (.s 35)
 (.seq ZLn
 .ret)
 .skip))
 (.seq (.seq ZLo
 (.block 0
 (.loop ZJW)))
 (.seq ZJX
 .ret))))))),
 [.c 2 true 3,.s 3]⟩
theorem ZOx:Zx Proofs.Tryz.prog true ZOw Proofs.Tryz.f10=some ZDp:=by kernel_rfl
def ZOy:List Hint:=[H [0,1,2],⟨[0,1,2,8],[0],[],[],[],[]⟩,H [0,1,2,8,9],H [0,1,2,8,9,20],H [0,1,2,8,9,10],H [0,1,2,8,9,10,11],H [0,1,2,8,9,10,11,12],H [0,1,2,8,9,10,11,12,13,14],H [0,1,2,8,9,10,11,12,13,14,31],H [0,1,2,8,9,10,11,12,13,14,31,47],H [0,1,2,8,9,10,12,13,51],H [0,1,2,8,9,12,13],H [0,1,2,8,9,12],H [0,1,2,8,9,10,11,12,13,14,31,70],H [0,1,2,8,9,12,13],H [0,1,2,8,9,12],H [0,1,2,8,9,10,11,12,13,14,31,82],H [0,1,2,8,9,10,11,12,13,14,31,82],⟨[0,1,2,8,9,11,12,13,104],[],[(9,.pure)],[],[],[]⟩,H [0,1,2,8,9,11,12,13],⟨[0,1,2,8,9,12],[],[],[],[(5,.imm)],[]⟩,H [0,1,2,8,9,10,11,12,13,14,31,127],H [0,1,2,8,9,10,11,12,13,14,130],⟨[0,1,2,8,9,11,12,13,14],[],[(14,.pure),(15,.pure)],[],[],[]⟩,⟨[0,1,2,8,9,12],[],[],[],[(6,.imm)],[]⟩,H [0,1,2,8,9,10,11,12,13,31,160],H [0,1,2,8,9,10,11,12,13,163],H [0,1,2,8,9,10,11,13,15],H [0,1,2,8,9,10,11,13,15,16],⟨[0,1,2,8,9,11,12,13],[],[(12,.pure)],[],[],[]⟩,⟨[0,1,2,8,9,12],[],[],[],[(5,.imm)],[]⟩,H [0,1,2,8,9,11,12,201],H [0,1,2,8,9,11,12,204],H [0,1,2,8,9,12],H [0,1,2,8,9,11,12,37],H [0,1,2,8,9,12],H [0,1,2,8,9,210],H [6,7],H [0,1,2,8,9],H [6,7]]
def ZLs:PC :=
 (.reg [0,1,2] [I 6 (.mv (.v .nils)),I 7 (.mv (.v (.bool false)))])
def ZLt:PC :=
 (.reg [0,1,2,8] [I 8 (.onil 7)])
def ZLu:PC :=
 (.reg [0,1,2,8,9] [I 9 (.mv (V 0))])
def ZLv:PC :=
 (.reg [0,1,2,8,9,20] [I 17 (.mv (.s 9)),I 18 (.mv (.s 2)),I 19 (.len 1 (.s 18)),I 20 (.bin .lss (.s 17) (.s 19))])
def ZLw:PC :=
 (.reg [0,1,2,8,9,10] [I 23 (.mv (.s 2)),I 24 (.mv (.s 9)),I 25 (.ixS 4 (.s 23) (.s 24)),I 26 (.ld true 4 (.s 25)),I 10 (.box (.v (.agg [(.int .u8 0),(.int .i64 0),(.int .i64 0),(.str [])]))),J (.st 4 (.s 10) (.s 26))])
def ZLx:PC :=
 (.reg [0,1,2,8,9,10,11] [I 27 (.mv (.s 8)),I 28 (.len 1 (.s 27)),I 11 (.mv (.s 28))])
def ZLy:PC :=
 (.reg [0,1,2,8,9,10,11,12] [I 12 (.mv (V 0))])
def ZLz:PC :=
 (.reg [0,1,2,8,9,10,11,12,13,14] [I 13 (.box (.v ZT)),I 14 (.box (.v ZT))])
def ZL0:PC :=
 (.reg [0,1,2,8,9,10,11,12,13,14,31] [I 29 (.fadr 0 (.s 10)),I 30 (.ld false 1 (.s 29)),I 31 (.bin .rem (.s 30) (.v (.int .u8 8)))])
def ZL1:PC :=
 (.reg [0,1,2,8,9,10,11,12,13,14,31,47] [I 48 (.bin .eql (.s 31) (.v (.int .u8 0))),I 47 (.mv (.s 48))])
def ZJY:PC :=
 (.reg [0,1,2,8,9,10,12,13,51] [I 49 (.mv (.s 1)),I 50 (.len 1 (.s 49)),I 51 (.bin .gtr (.s 50) (V 0))])
def ZJZ:PC :=
 (.reg [0,1,2,8,9,12,13] [I 53 (.mv (.s 0)),I 54 (.mv (.s 1)),I 55 (.fadr 2 (.s 10)),I 56 (.ld false 1 (.s 55)),I 57 (.mv (.s 1)),I 58 (.len 1 (.s 57)),I 59 (.bin .sub (.s 58) (V 1)),I 60 (C JL [(.s 56),(.s 59)]),I 61 (.ixS 5 (.s 54) (.s 60)),I 62 (.ld true 5 (.s 61)),I 63 (C Y6 [(.s 53),(.s 62)]),I 52 (.mv (.s 63)),I 64 (.ext (.s 52) 0),I 65 (.ext (.s 52) 1),J (.st 7 (.s 13) (.s 64)),I 12 (.mv (.s 65))])
def ZJa:PC :=
 (.reg [0,1,2,8,9,12] [I 66 (.mv (.s 8)),I 67 (.ld true 7 (.s 13)),I 68 (.bslice false 7 [ZT] [(0,(.s 67))]),I 69 (.app 7 80 (.s 66) (.s 68)),I 8 (.mv (.s 69))])
def ZJb:PC :=
 (.reg [0,1,2,8,9,10,11,12,13,14,31,70] [I 71 (.bin .eql (.s 31) (.v (.int .u8 1))),I 70 (.mv (.s 71))])
def ZJc:PC :=
 (.reg [0,1,2,8,9,12,13] [I 73 (.fadr 3 (.s 10)),I 74 (.ld false 1 (.s 73)),I 75 (C ZAH [(.s 74)]),I 72 (.mv (.s 75)),I 76 (.ext (.s 72) 0),I 77 (.ext (.s 72) 1),J (.st 7 (.s 13) (.s 76)),I 12 (.mv (.s 77))])
def ZJd:PC :=
 (.reg [0,1,2,8,9,12] [I 78 (.mv (.s 8)),I 79 (.ld true 7 (.s 13)),I 80 (.bslice false 7 [ZT] [(0,(.s 79))]),I 81 (.app 7 80 (.s 78) (.s 80)),I 8 (.mv (.s 81))])
def ZJe:PC :=
 (.reg [0,1,2,8,9,10,11,12,13,14,31,82] [I 83 (.bin .eql (.s 31) (.v (.int .u8 2))),I 82 (.mv (.s 83))])
def ZJf:PC :=
 (.reg [0,1,2,8,9,10,11,12,13,14,31,82] [I 84 (.bin .eql (.s 31) (.v (.int .u8 3))),I 82 (.mv (.s 84))])
def ZJg:PC :=
 (.reg [0,1,2,8,9,11,12,13,104] [I 85 (.mv (.s 11)),I 86 (.bin .gtr (.s 85) (V 1)),I 87 (.mv (.s 86)),G 88 87 true (.mv (.s 0)),G 89 87 true (.mv (.s 8)),G 90 87 true (.mv (.s 11)),G 91 87 true (.bin .sub (.s 90) (V 1)),G 92 87 true (.ixS 7 (.s 89) (.s 91)),G 93 87 true (.ld true 7 (.s 92)),G 94 87 true (.call .pure (.v (.func (.func Qt) [] [])) [(.s 88),(.s 93)]),G 95 87 true (.mv (.s 0)),G 96 87 true (.mv (.s 8)),G 97 87 true (.mv (.s 11)),G 98 87 true (.bin .sub (.s 97) (V 2)),G 99 87 true (.ixS 7 (.s 96) (.s 98)),G 100 87 true (.ld true 7 (.s 99)),G 101 87 true (C Qt [(.s 95),(.s 100)]),G 102 87 true (.bin .add (.s 94) (.s 101)),G 103 87 true (.bin .leq (.s 102) (V 3000)),I 104 (.pick (.s 87) (.s 103) (.v (.bool false)))])
def ZJh:PC :=
 (.reg [0,1,2,8,9,11,12,13] [I 106 (.mv (.s 0)),I 107 (.mv (.s 8)),I 108 (.mv (.s 11)),I 109 (.bin .sub (.s 108) (V 2)),I 110 (.ixS 7 (.s 107) (.s 109)),I 111 (.ld true 7 (.s 110)),I 112 (.mv (.s 8)),I 113 (.mv (.s 11)),I 114 (.bin .sub (.s 113) (V 1)),I 115 (.ixS 7 (.s 112) (.s 114)),I 116 (.ld true 7 (.s 115)),I 117 (C ZD8 [(.s 106),(.s 111),(.s 116)]),I 105 (.mv (.s 117)),I 118 (.ext (.s 105) 0),I 119 (.ext (.s 105) 1),J (.st 7 (.s 13) (.s 118)),I 12 (.mv (.s 119))])
def ZJi:PC :=
 (.reg [0,1,2,8,9,12] [I 120 (.mv (.s 8)),I 121 (.mv (.s 11)),I 122 (.bin .sub (.s 121) (V 2)),I 123 (.slc 7 (.s 120) none (some (.s 122))),I 124 (.ld true 7 (.s 13)),I 125 (.w .imm (.bslice false 7 [ZT] [(0,(.s 124))])),I 126 (.app 7 80 (.s 123) (.s 125)),I 8 (.mv (.s 126))])
def ZJj:PC :=
 (.reg [0,1,2,8,9,10,11,12,13,14,31,127] [I 128 (.bin .eql (.s 31) (.v (.int .u8 4))),I 127 (.mv (.s 128))])
def ZJk:PC :=
 (.reg [0,1,2,8,9,10,11,12,13,14,130] [I 129 (.mv (.s 11)),I 130 (.bin .gtr (.s 129) (V 0))])
def ZJl:PC :=
 (.reg [0,1,2,8,9,11,12,13,14] [I 132 (.mv (.s 0)),I 133 (.mv (.s 8)),I 134 (.mv (.s 11)),I 135 (.bin .sub (.s 134) (V 1)),I 136 (.ixS 7 (.s 133) (.s 135)),I 137 (.ld true 7 (.s 136)),I 138 (.fadr 1 (.s 10)),I 139 (.ld false 1 (.s 138)),I 140 (.mv (.s 0)),I 141 (.mv (.s 8)),I 142 (.mv (.s 11)),I 143 (.bin .sub (.s 142) (V 1)),I 144 (.ixS 7 (.s 141) (.s 143)),I 145 (.ld true 7 (.s 144)),I 146 (.call .pure (.v (.func (.func Qt) [] [])) [(.s 140),(.s 145)]),I 147 (.call .pure (.v (.func (.func JL) [] [])) [(.s 139),(.s 146)]),I 148 (C ZNg [(.s 132),(.s 137),(.s 147)]),I 131 (.mv (.s 148)),I 149 (.ext (.s 131) 0),I 150 (.ext (.s 131) 1),I 151 (.ext (.s 131) 2),J (.st 7 (.s 13) (.s 149)),J (.st 7 (.s 14) (.s 150)),I 12 (.mv (.s 151))])
def ZJm:PC :=
 (.reg [0,1,2,8,9,12] [I 152 (.mv (.s 8)),I 153 (.mv (.s 11)),I 154 (.bin .sub (.s 153) (V 1)),I 155 (.slc 7 (.s 152) none (some (.s 154))),I 156 (.ld true 7 (.s 13)),I 157 (.ld true 7 (.s 14)),I 158 (.w .imm (.bslice false 7 [ZT,ZT] [(0,(.s 156)),(1,(.s 157))])),I 159 (.app 7 80 (.s 155) (.s 158)),I 8 (.mv (.s 159))])
def ZJn:PC :=
 (.reg [0,1,2,8,9,10,11,12,13,31,160] [I 161 (.bin .eql (.s 31) (.v (.int .u8 5))),I 160 (.mv (.s 161))])
def ZJo:PC :=
 (.reg [0,1,2,8,9,10,11,12,13,163] [I 162 (.mv (.s 11)),I 163 (.bin .gtr (.s 162) (V 0))])
def ZJp:PC :=
 (.reg [0,1,2,8,9,10,11,13,15] [I 164 (.mv (.s 0)),I 165 (.mv (.s 8)),I 166 (.mv (.s 11)),I 167 (.bin .sub (.s 166) (V 1)),I 168 (.ixS 7 (.s 165) (.s 167)),I 169 (.ld true 7 (.s 168)),I 170 (C Qt [(.s 164),(.s 169)]),I 15 (.mv (.s 170))])
def ZJq:PC :=
 (.reg [0,1,2,8,9,10,11,13,15,16] [I 171 (.fadr 1 (.s 10)),I 172 (.ld false 1 (.s 171)),I 173 (.mv (.s 15)),I 174 (C JL [(.s 172),(.s 173)]),I 16 (.mv (.s 174))])
def ZJr:PC :=
 (.reg [0,1,2,8,9,11,12,13] [I 176 (.mv (.s 0)),I 177 (.mv (.s 8)),I 178 (.mv (.s 11)),I 179 (.bin .sub (.s 178) (V 1)),I 180 (.ixS 7 (.s 177) (.s 179)),I 181 (.ld true 7 (.s 180)),I 182 (.mv (.s 16)),I 183 (.fadr 2 (.s 10)),I 184 (.ld false 1 (.s 183)),I 185 (.mv (.s 15)),I 186 (.mv (.s 16)),I 187 (.bin .sub (.s 185) (.s 186)),I 188 (.call .pure (.v (.func (.func JL) [] [])) [(.s 184),(.s 187)]),I 189 (.fadr 3 (.s 10)),I 190 (.ld false 1 (.s 189)),I 191 (C ZCE [(.s 176),(.s 181),(.s 182),(.s 188),(.s 190)]),I 175 (.mv (.s 191)),I 192 (.ext (.s 175) 0),I 193 (.ext (.s 175) 1),J (.st 7 (.s 13) (.s 192)),I 12 (.mv (.s 193))])
def ZJs:PC :=
 (.reg [0,1,2,8,9,12] [I 194 (.mv (.s 8)),I 195 (.mv (.s 11)),I 196 (.bin .sub (.s 195) (V 1)),I 197 (.slc 7 (.s 194) none (some (.s 196))),I 198 (.ld true 7 (.s 13)),I 199 (.w .imm (.bslice false 7 [ZT] [(0,(.s 198))])),I 200 (.app 7 80 (.s 197) (.s 199)),I 8 (.mv (.s 200))])
def ZJt:PC :=
 (.reg [0,1,2,8,9,11,12,201] [I 202 (.bin .eql (.s 31) (.v (.int .u8 6))),I 201 (.mv (.s 202))])
def ZJu:PC :=
 (.reg [0,1,2,8,9,11,12,204] [I 203 (.mv (.s 11)),I 204 (.bin .gtr (.s 203) (V 0))])
def ZJv:PC :=
 (.reg [0,1,2,8,9,12] [I 205 (.mv (.s 8)),I 206 (.mv (.s 11)),I 207 (.bin .sub (.s 206) (V 1)),I 208 (.slc 7 (.s 205) none (some (.s 207))),I 8 (.mv (.s 208))])
def ZJw:PC :=
 (.reg [0,1,2,8,9,11,12,37] [I 32 (.mv (.s 11)),I 33 (.bin .gtr (.s 32) (V 0)),I 34 (.mv (.s 33)),G 35 34 true (.mv (.s 11)),G 36 34 true (.bin .lss (.s 35) (V 12)),I 37 (.pick (.s 34) (.s 36) (.v (.bool false)))])
def ZJx:PC :=
 (.reg [0,1,2,8,9,12] [I 38 (.mv (.s 8)),I 39 (.mv (.s 8)),I 40 (.mv (.s 11)),I 41 (.bin .sub (.s 40) (V 1)),I 42 (.ixS 7 (.s 39) (.s 41)),I 43 (.ld true 7 (.s 42)),I 44 (C YQ [(.s 43)]),I 45 (.bslice false 7 [ZT] [(0,(.s 44))]),I 46 (.app 7 80 (.s 38) (.s 45)),I 8 (.mv (.s 46))])
def ZJy:PC :=
 (.reg [0,1,2,8,9,210] [I 209 (.mv (.s 12)),I 210 (.bin .neq (.s 209) (V 0))])
def ZJz:PC :=
 (.reg [6,7] [I 6 (.mv (.v .nils)),I 7 (.mv (.v (.bool false)))])
def ZJ0:PC :=
 (.reg [0,1,2,8,9] [I 21 (.mv (.s 9)),I 22 (.bin .add (.s 21) (V 1)),I 9 (.mv (.s 22))])
def ZJ1:PC :=
 (.seq (.seq ZLv
 (.ite (.s 20)
 .skip
 (.exit 0)))
 (.seq (.block 1
 (.seq ZLw
 (.seq ZLx
 (.seq ZLy
 (.seq ZLz
 (.seq (.seq ZL0
 (.block 2
 (.seq ZL1
 (.ite (.s 47)
 (.seq ZJY
 (.ite (.s 51)
 (.seq ZJZ
 ZJa)
 .skip))
 (.seq ZJb
 (.ite (.s 70)
 (.seq ZJc
 ZJd)
 (.seq (.seq ZJe
 (.ite (.s 82)
 .skip
 ZJf))
 (.ite (.s 82)
 (.seq ZJg
 (.ite (.s 104)
 (.seq ZJh
 ZJi)
 .skip))
 (.seq ZJj
 (.ite (.s 127)
 (.seq ZJk
 (.ite (.s 130)
 (.seq ZJl
 ZJm)
 .skip))
 (.seq ZJn
 (.ite (.s 160)
 (.seq ZJo
 (.ite (.s 163)
 (.seq ZJp
 (.seq ZJq
 (.seq ZJr
 ZJs)))
 .skip))
 (.seq ZJt
 (.ite (.s 201)
 (.seq ZJu
 (.ite (.s 204)
 ZJv
 .skip))
 (.seq ZJw
 (.ite (.s 37)
 ZJx
 .skip))))))))))))))))
 (.seq ZJy
 (.ite (.s 210)
 (.seq ZJz
 .ret)
 .skip))))))))
 ZJ0))
def ZJ2:PC :=
 (.reg [6,7] [I 211 (.mv (.s 8)),I 6 (.mv (.s 211)),I 7 (.mv (.v (.bool true)))])
def ZDq:PF:=⟨false,
 (.seq ZLs
 (.seq ZLt
 (.seq (.seq ZLu
 (.block 0
 (.loop ZJ1)))
 (.seq ZJ2
 .ret)))),
 [.s 6,.s 7]⟩
theorem ZOz:Zx Proofs.Tryz.prog false ZOy Proofs.Tryz.f11=some ZDq:=by kernel_rfl
def ZL2:List Hint:=[H [0,3],⟨[0,3,5],[0],[],[],[],[]⟩,H [0,3,5,12],H [0,3,5,6],H [0,3,5,6,17],H [0,3,5,6],H [0,3,5,6],H [4],H [0,3,5],H [0,5,7],H [0,5,7,9],H [0,5,7,9,46],H [0,5,7,9],H [0,5,7,9],H [4]]
def ZHb:PC :=
 (.reg [0,3] [I 3 (.box (.s 1)),I 4 (.mv (.v .nils))])
def ZHc:PC :=
 (.reg [0,3,5] [I 5 (.onil 1)])
def ZHd:PC :=
 (.reg [0,3,5,12] [I 10 (.fadr 0 (.s 3)),I 11 (.ld false 1 (.s 10)),I 12 (.bin .eql (.s 11) (.v (.int .u64 0)))])
def ZHe:PC :=
 (.reg [0,3,5,6] [I 6 (.mv (V 0))])
def ZHf:PC :=
 (.reg [0,3,5,6,17] [I 13 (.mv (.s 6)),I 14 (.fadr 6 (.s 3)),I 15 (.ld false 1 (.s 14)),I 16 (.len 1 (.s 15)),I 17 (.bin .lss (.s 13) (.s 16))])
def ZHg:PC :=
 (.reg [0,3,5,6] [I 20 (.mv (.s 5)),I 21 (.mv (.s 0)),I 22 (.fadr 6 (.s 3)),I 23 (.ld false 1 (.s 22)),I 24 (.mv (.s 6)),I 25 (.ixS 7 (.s 23) (.s 24)),I 26 (.ld true 7 (.s 25)),I 27 (C QF [(.s 21),(.s 26)]),I 28 (.app 1 8 (.s 20) (.s 27)),I 5 (.mv (.s 28))])
def ZHh:PC :=
 (.reg [0,3,5,6] [I 18 (.mv (.s 6)),I 19 (.bin .add (.s 18) (V 1)),I 6 (.mv (.s 19))])
def ZHi:PC :=
 (.seq (.seq ZHf
 (.ite (.s 17)
 .skip
 (.exit 0)))
 (.seq (.block 1
 ZHg)
 ZHh))
def ZHj:PC :=
 (.reg [4] [I 29 (.mv (.s 5)),I 4 (.mv (.s 29))])
def ZHk:PC :=
 (.reg [0,3,5] [I 30 (.mv (.s 5)),I 31 (.fadr 0 (.s 3)),I 32 (.ld false 1 (.s 31)),I 33 (.bslice false 1 [(.int .u64 0)] [(0,(.s 32))]),I 34 (.app 1 8 (.s 30) (.s 33)),I 5 (.mv (.s 34))])
def ZFg:PC :=
 (.reg [0,5,7] [I 36 (.mv (.s 0)),I 37 (.fadr 0 (.s 3)),I 38 (.ld false 1 (.s 37)),I 39 (C Q7 [(.s 36),(.s 38)]),I 35 (.mv (.s 39)),I 40 (.ext (.s 35) 0),I 41 (.ext (.s 35) 1),I 7 (.box (.v ZN)),J (.st 3 (.s 7) (.s 40)),I 8 (.mv (.s 41))])
def ZFh:PC :=
 (.reg [0,5,7,9] [I 9 (.mv (V 0))])
def ZFi:PC :=
 (.reg [0,5,7,9,46] [I 42 (.mv (.s 9)),I 43 (.fadr 2 (.s 7)),I 44 (.ld false 1 (.s 43)),I 45 (.len 1 (.s 44)),I 46 (.bin .lss (.s 42) (.s 45))])
def ZFj:PC :=
 (.reg [0,5,7,9] [I 49 (.mv (.s 5)),I 50 (.mv (.s 0)),I 51 (.fadr 2 (.s 7)),I 52 (.ld false 1 (.s 51)),I 53 (.mv (.s 9)),I 54 (.ixS 4 (.s 52) (.s 53)),I 55 (.fadr 0 (.s 54)),I 56 (.ld false 1 (.s 55)),I 57 (.build [(.int .u64 0),(.int .i64 0),(.int .i64 0),(.int .i64 0),(.int .i64 0),(.str []),.nils] [(0,1,(.s 56))]),I 58 (C QF [(.s 50),(.s 57)]),I 59 (.app 1 8 (.s 49) (.s 58)),I 5 (.mv (.s 59))])
def ZFk:PC :=
 (.reg [0,5,7,9] [I 47 (.mv (.s 9)),I 48 (.bin .add (.s 47) (V 1)),I 9 (.mv (.s 48))])
def ZFl:PC :=
 (.seq (.seq ZFi
 (.ite (.s 46)
 .skip
 (.exit 2)))
 (.seq (.block 3
 ZFj)
 ZFk))
def ZFm:PC :=
 (.reg [4] [I 60 (.mv (.s 5)),I 4 (.mv (.s 60))])
def ZBN:PF:=⟨false,
 (.seq ZHb
 (.seq ZHc
 (.seq (.seq ZHd
 (.ite (.s 12)
 (.seq (.seq ZHe
 (.block 0
 (.loop ZHi)))
 (.seq ZHj
 .ret))
 .skip))
 (.seq ZHk
 (.seq ZFg
 (.seq (.seq ZFh
 (.block 2
 (.loop ZFl)))
 (.seq ZFm
 .ret))))))),
 [.s 4]⟩
theorem ZL3:Zx Proofs.Tryz.prog false ZL2 Proofs.Tryz.f12=some ZBN:=by kernel_rfl
def ZfO:List Hint:=[H [1],⟨[1,3],[0],[],[],[],[]⟩,H [1,3,4],H [1,3,4,5],H [1,3,5],H [3],H [2]]
def ZZP:PC :=
 (.reg [1] [I 1 (.box (.s 0)),I 2 (.mv (.v .nils))])
def ZZQ:PC :=
 (.reg [1,3] [I 3 (.boxnil 1)])
def ZZR:PC :=
 (.reg [1,3,4] [I 6 (.mkmap),I 4 (.box (.v .nilmap)),J (.st 1 (.s 4) (.s 6))])
def ZZS:PC :=
 (.reg [1,3,4,5] [I 5 (.box (.v .nilfunc))])
def ZZT:PC :=
 (.reg [1,3,5] [I 7 (.mkf (.func Yi) [] [(.s 4),(.s 3),(.s 5)]),J (.st 1 (.s 5) (.s 7))])
def ZZU:PC :=
 (.reg [3] [I 8 (.ld false 1 (.s 5)),I 9 (.ld true 7 (.s 1)),I 10 (.call .norm (.s 8) [(.s 9)])])
def ZZV:PC :=
 (.reg [2] [I 11 (.ld false 1 (.s 3)),I 2 (.mv (.s 11))])
def ZSk:PF:=⟨false,
 (.seq ZZP
 (.seq ZZQ
 (.seq ZZR
 (.seq ZZS
 (.seq ZZT
 (.seq ZZU
 (.seq ZZV
 .ret))))))),
 [.s 2]⟩
theorem ZfP:Zx Proofs.Tryz.prog false ZfO Proofs.Tryz.f13=some ZSk:=by kernel_rfl
def ZO0:List Hint:=[H [0,1],H [0,1,5],H [0,1,5,9],H [0,1,5,17],H [4],H [0,1,5],H [4]]
def ZL4:PC :=
 (.reg [0,1] [I 4 (.mv (.v (.bool false)))])
def ZL5:PC :=
 (.reg [0,1,5] [I 5 (.mv (V 0))])
def ZL6:PC :=
 (.reg [0,1,5,9] [I 6 (.mv (.s 5)),I 7 (.mv (.s 0)),I 8 (.len 1 (.s 7)),I 9 (.bin .lss (.s 6) (.s 8))])
def ZL7:PC :=
 (.reg [0,1,5,17] [I 12 (.mv (.s 0)),I 13 (.mv (.s 5)),I 14 (.ixS 1 (.s 12) (.s 13)),I 15 (.ld false 1 (.s 14)),I 16 (.mv (.s 1)),I 17 (.bin .eql (.s 15) (.s 16))])
def ZL8:PC :=
 (.reg [4] [I 4 (.mv (.v (.bool true)))])
def ZL9:PC :=
 (.reg [0,1,5] [I 10 (.mv (.s 5)),I 11 (.bin .add (.s 10) (V 1)),I 5 (.mv (.s 11))])
def ZMA:PC :=
 (.seq (.seq ZL6
 (.ite (.s 9)
 .skip
 (.exit 0)))
 (.seq (.block 1
 (.seq ZL7
 (.ite (.s 17)
 (.seq ZL8
 .ret)
 .skip)))
 ZL9))
def ZMB:PC :=
 (.reg [4] [I 4 (.mv (.v (.bool false)))])
def ZDr:PF:=⟨false,
 (.seq ZL4
 (.seq (.seq ZL5
 (.block 0
 (.loop ZMA)))
 (.seq ZMB
 .ret))),
 [.s 4]⟩
theorem ZO1:Zx Proofs.Tryz.prog false ZO0 Proofs.Tryz.f14=some ZDr:=by kernel_rfl
def ZNl:List Hint:=[H [0,1],H [0,1,6],H [4],H [4]]
def ZJ3:PC :=
 (.reg [0,1] [I 4 (.mv (.v (.bool false)))])
def ZJ4:PC :=
 (.reg [0,1,6] [I 5 (.mv (.s 0)),I 6 (.eqs false 3 [] (.s 5) (.v .nilptr))])
def ZJ5:PC :=
 (.reg [4] [I 4 (.mv (.v (.bool false)))])
def ZJ6:PC :=
 (.reg [4] [I 7 (.mv (.s 0)),I 8 (.nilck (.s 7)),I 9 (.fadr 1 (.s 8)),I 10 (.ld false 1 (.s 9)),I 11 (.mv (.s 1)),I 12 (C Y7 [(.s 10),(.s 11)]),I 4 (.mv (.s 12))])
def ZCc:PF:=⟨false,
 (.seq ZJ3
 (.seq (.seq ZJ4
 (.ite (.s 6)
 (.seq ZJ5
 .ret)
 .skip))
 (.seq ZJ6
 .ret))),
 [.s 4]⟩
theorem ZNm:Zx Proofs.Tryz.prog false ZNl Proofs.Tryz.f15=some ZCc:=by kernel_rfl
def ZHl:List Hint:=[H [0,1],⟨[0,1,5],[0],[],[],[],[]⟩,H [0,1,5,6],H [0,1,5,6,10],H [0,1,5,6,19],H [0,1,5,6],H [0,1,5,6],H [4]]
def ZEX:PC :=
 (.reg [0,1] [I 4 (.mv (.v .nils))])
def ZEY:PC :=
 (.reg [0,1,5] [I 5 (.onil 1)])
def ZEZ:PC :=
 (.reg [0,1,5,6] [I 6 (.mv (V 0))])
def ZEa:PC :=
 (.reg [0,1,5,6,10] [I 7 (.mv (.s 6)),I 8 (.mv (.s 0)),I 9 (.len 1 (.s 8)),I 10 (.bin .lss (.s 7) (.s 9))])
def ZEb:PC :=
 (.reg [0,1,5,6,19] [I 13 (.mv (.s 1)),I 14 (.mv (.s 0)),I 15 (.mv (.s 6)),I 16 (.ixS 1 (.s 14) (.s 15)),I 17 (.ld false 1 (.s 16)),I 18 (C Q6 [(.s 13),(.s 17)]),I 19 (.un .not (.s 18))])
def ZEc:PC :=
 (.reg [0,1,5,6] [I 20 (.mv (.s 5)),I 21 (.mv (.s 0)),I 22 (.mv (.s 6)),I 23 (.ixS 1 (.s 21) (.s 22)),I 24 (.ld false 1 (.s 23)),I 25 (.bslice false 1 [(.int .u64 0)] [(0,(.s 24))]),I 26 (.app 1 8 (.s 20) (.s 25)),I 5 (.mv (.s 26))])
def ZEd:PC :=
 (.reg [0,1,5,6] [I 11 (.mv (.s 6)),I 12 (.bin .add (.s 11) (V 1)),I 6 (.mv (.s 12))])
def ZEe:PC :=
 (.seq (.seq ZEa
 (.ite (.s 10)
 .skip
 (.exit 0)))
 (.seq (.block 1
 (.seq ZEb
 (.ite (.s 19)
 ZEc
 .skip)))
 ZEd))
def ZEf:PC :=
 (.reg [4] [I 27 (.mv (.s 5)),I 28 (C Xw [(.s 27)]),I 4 (.mv (.s 28))])
def ZAZ:PF:=⟨false,
 (.seq ZEX
 (.seq ZEY
 (.seq (.seq ZEZ
 (.block 0
 (.loop ZEe)))
 (.seq ZEf
 .ret)))),
 [.s 4]⟩
theorem ZHm:Zx Proofs.Tryz.prog false ZHl Proofs.Tryz.f16=some ZAZ:=by kernel_rfl
def ZWY:List Hint:=[H [0,4,5],H [0,4,5,9],H [0,4,5,9,24],H [6,7],H [0,4,5,10],H [0,4,5,10,30],H [6,7],H [0,4,5,11],H [0,4,11,34,35,36],H [0,4,11,34,35,36,37],H [0,4,11,13,34,35,36],H [0,4,11,14,34,35,36],H [0,4,11,14,34,35,36,45],H [6,7],H [0,4,11,34,35,36],⟨[0,4,11,15],[0],[],[],[],[]⟩,H [0,4,11,15,50],H [6,7],H [15,16],H [15,16,58],H [6,7],H [6,7]]
def ZQx:PC :=
 (.reg [0,4,5] [I 4 (.box (.s 1)),I 5 (.box (.s 2)),I 6 (.mv (.v .nils)),I 7 (.mv (V 0))])
def ZQy:PC :=
 (.reg [0,4,5,9] [I 18 (.mv (.s 0)),I 19 (.ld true 5 (.s 4)),I 20 (C Y6 [(.s 18),(.s 19)]),I 17 (.mv (.s 20)),I 21 (.ext (.s 17) 0),I 22 (.ext (.s 17) 1),I 8 (.box (.v ZT)),J (.st 7 (.s 8) (.s 21)),I 9 (.mv (.s 22))])
def ZQz:PC :=
 (.reg [0,4,5,9,24] [I 23 (.mv (.s 9)),I 24 (.bin .neq (.s 23) (V 0))])
def ZQ0:PC :=
 (.reg [6,7] [I 25 (.mv (.s 9)),I 6 (.mv (.v .nils)),I 7 (.mv (.s 25))])
def ZQ1:PC :=
 (.reg [0,4,5,10] [I 26 (.mv (.s 0)),I 27 (.ld true 7 (.s 5)),I 28 (C Jh [(.s 26),(.s 27)]),I 10 (.mv (.s 28))])
def ZQ2:PC :=
 (.reg [0,4,5,10,30] [I 29 (.mv (.s 10)),I 30 (.bin .neq (.s 29) (V 0))])
def ZQ3:PC :=
 (.reg [6,7] [I 31 (.mv (.s 10)),I 6 (.mv (.v .nils)),I 7 (.mv (.s 31))])
def ZQ4:PC :=
 (.reg [0,4,5,11] [I 32 (.mkmap),I 11 (.box (.v .nilmap)),J (.st 1 (.s 11) (.s 32))])
def ZQ5:PC :=
 (.reg [0,4,11,34,35,36] [I 33 (.ld true 7 (.s 5)),I 34 (C ZDl [(.s 33)]),I 35 (.len 1 (.s 34)),I 36 (.mv (V 0))])
def ZQ6:PC :=
 (.reg [0,4,11,34,35,36,37] [I 37 (.bin .lss (.s 36) (.s 35))])
def ZO2:PC :=
 (.reg [0,4,11,13,34,35,36] [I 38 (.ixS 1 (.s 34) (.s 36)),I 39 (.ld false 1 (.s 38)),I 13 (.mv (.s 39))])
def ZO3:PC :=
 (.reg [0,4,11,14,34,35,36] [I 40 (.mv (.s 0)),I 41 (.mv (.s 13)),I 42 (.ld false 1 (.s 11)),I 43 (C JQ [(.s 40),(.s 41),(.s 42),(.v (.func (.func YG) [] []))]),I 14 (.mv (.s 43))])
def ZO4:PC :=
 (.reg [0,4,11,14,34,35,36,45] [I 44 (.mv (.s 14)),I 45 (.bin .neq (.s 44) (V 0))])
def ZO5:PC :=
 (.reg [6,7] [I 46 (.mv (.s 14)),I 6 (.mv (.v .nils)),I 7 (.mv (.s 46))])
def ZO6:PC :=
 (.reg [0,4,11,34,35,36] [I 47 (.bin .add (.s 36) (V 1)),I 36 (.mv (.s 47))])
def ZO7:PC :=
 (.seq ZQ6
 (.seq (.ite (.s 37)
 .skip
 (.exit 0))
 (.seq (.block 1
 (.seq ZO2
 (.seq ZO3
 (.seq ZO4
 (.ite (.s 45)
 (.seq ZO5
 .ret)
 .skip)))))
 ZO6)))
def ZO8:PC :=
 (.reg [0,4,11,15] [I 15 (.boxnil 1)])
def ZO9:PC :=
 (.reg [0,4,11,15,50] [I 48 (.fadr 0 (.s 4)),I 49 (.ld false 1 (.s 48)),I 50 (.bin .eql (.s 49) (.v (.int .u64 0)))])
def ZPA:PC :=
 (.reg [6,7] [I 6 (.mv (.v .nils)),I 7 (.mv (V 0))])
def ZPB:PC :=
 (.reg [15,16] [I 51 (.mv (.s 0)),I 52 (.fadr 0 (.s 4)),I 53 (.ld false 1 (.s 52)),I 54 (.mkmap),I 55 (.mkf (.func YH) [] [(.s 11),(.s 15)]),I 56 (C JQ [(.s 51),(.s 53),(.s 54),(.s 55)]),I 16 (.mv (.s 56))])
def ZPC:PC :=
 (.reg [15,16,58] [I 57 (.mv (.s 16)),I 58 (.bin .neq (.s 57) (V 0))])
def ZPD:PC :=
 (.reg [6,7] [I 59 (.mv (.s 16)),I 6 (.mv (.v .nils)),I 7 (.mv (.s 59))])
def ZPE:PC :=
 (.reg [6,7] [I 60 (.ld false 1 (.s 15)),I 6 (.mv (.s 60)),I 7 (.mv (V 0))])
def ZJ7:PF:=⟨false,
 (.seq ZQx
 (.seq (.seq ZQy
 (.seq ZQz
 (.ite (.s 24)
 (.seq ZQ0
 .ret)
 .skip)))
 (.seq (.seq ZQ1
 (.seq ZQ2
 (.ite (.s 30)
 (.seq ZQ3
 .ret)
 .skip)))
 (.seq ZQ4
 (.seq (.seq ZQ5
 (.block 0
 (.loop ZO7)))
 (.seq ZO8
 (.seq (.seq ZO9
 (.ite (.s 50)
 (.seq ZPA
 .ret)
 .skip))
 (.seq ZPB
 (.seq (.seq ZPC
 (.ite (.s 58)
 (.seq ZPD
 .ret)
 .skip))
 (.seq ZPE
 .ret)))))))))),
 [.s 6,.s 7]⟩
theorem ZWZ:Zx Proofs.Tryz.prog false ZWY Proofs.Tryz.f17=some ZJ7:=by kernel_rfl
def ZED:List Hint:=[H [0,1],H [0,1,10],H [4],H [0,1,5],H [0,1,5,14],H [0,1,5,25],H [4],H [0,1,5],H [4]]
def ZCd:PC :=
 (.reg [0,1] [I 4 (.mv (.v (.bool false)))])
def ZCe:PC :=
 (.reg [0,1,10] [I 6 (.mv (.s 0)),I 7 (.len 1 (.s 6)),I 8 (.mv (.s 1)),I 9 (.len 1 (.s 8)),I 10 (.bin .neq (.s 7) (.s 9))])
def ZCf:PC :=
 (.reg [4] [I 4 (.mv (.v (.bool false)))])
def ZCg:PC :=
 (.reg [0,1,5] [I 5 (.mv (V 0))])
def ZCh:PC :=
 (.reg [0,1,5,14] [I 11 (.mv (.s 5)),I 12 (.mv (.s 0)),I 13 (.len 1 (.s 12)),I 14 (.bin .lss (.s 11) (.s 13))])
def ZCi:PC :=
 (.reg [0,1,5,25] [I 17 (.mv (.s 0)),I 18 (.mv (.s 5)),I 19 (.ixS 1 (.s 17) (.s 18)),I 20 (.ld false 1 (.s 19)),I 21 (.mv (.s 1)),I 22 (.mv (.s 5)),I 23 (.ixS 1 (.s 21) (.s 22)),I 24 (.ld false 1 (.s 23)),I 25 (.bin .neq (.s 20) (.s 24))])
def ZCj:PC :=
 (.reg [4] [I 4 (.mv (.v (.bool false)))])
def ZCk:PC :=
 (.reg [0,1,5] [I 15 (.mv (.s 5)),I 16 (.bin .add (.s 15) (V 1)),I 5 (.mv (.s 16))])
def ZCl:PC :=
 (.seq (.seq ZCh
 (.ite (.s 14)
 .skip
 (.exit 0)))
 (.seq (.block 1
 (.seq ZCi
 (.ite (.s 25)
 (.seq ZCj
 .ret)
 .skip)))
 ZCk))
def ZCm:PC :=
 (.reg [4] [I 4 (.mv (.v (.bool true)))])
def Xa:PF:=⟨false,
 (.seq ZCd
 (.seq (.seq ZCe
 (.ite (.s 10)
 (.seq ZCf
 .ret)
 .skip))
 (.seq (.seq ZCg
 (.block 0
 (.loop ZCl)))
 (.seq ZCm
 .ret)))),
 [.s 4]⟩
theorem ZEE:Zx Proofs.Tryz.prog false ZED Proofs.Tryz.f18=some Xa:=by kernel_rfl
def ZfQ:List Hint:=[H [0,1],H [0,6,7],H [0,6,7,15],H [4,5],H [4,5]]
def ZZW:PC :=
 (.reg [0,1] [I 4 (.mv (.v .nilptr)),I 5 (.mv (V 0))])
def ZZX:PC :=
 (.reg [0,6,7] [I 9 (.mv (.s 0)),I 10 (.mv (.s 1)),I 11 (C ZCF [(.s 9),(.s 10)]),I 8 (.mv (.s 11)),I 12 (.ext (.s 8) 0),I 13 (.ext (.s 8) 1),I 6 (.mv (.s 12)),I 7 (.mv (.s 13))])
def ZZY:PC :=
 (.reg [0,6,7,15] [I 14 (.mv (.s 7)),I 15 (.bin .neq (.s 14) (V 0))])
def ZZZ:PC :=
 (.reg [4,5] [I 16 (.mv (.s 7)),I 4 (.mv (.v .nilptr)),I 5 (.mv (.s 16))])
def ZZa:PC :=
 (.reg [4,5] [I 17 (.mv (.s 0)),I 18 (.mv (.s 6)),I 19 (.mkmap),I 20 (.build [(.int .i64 0),.nilptr,.nilmap,(.int .i64 0),(.int .i64 0),(.int .i64 0)] [(0,1,(.s 17)),(1,1,(.s 18)),(2,1,(.s 19))]),I 21 (.box (.s 20)),I 4 (.mv (.s 21)),I 5 (.mv (V 0))])
def ZSl:PF:=⟨true,
 (.seq ZZW
 (.seq ZZX
 (.seq (.seq ZZY
 (.ite (.s 15)
 (.seq ZZZ
 .ret)
 .skip))
 (.seq ZZa
 .ret)))),
 [.s 4,.s 5]⟩
theorem ZfR:Zx Proofs.Tryz.prog true ZfQ Proofs.Tryz.f29=some ZSl:=by kernel_rfl
def Zcz:List Hint:=[H [0,2],H [0,2,14],H [2,3],⟨[0,2,4],[0],[],[],[],[]⟩,H [2,4,17,18,19],H [2,4,17,18,19,20],H [2,4,6,17,18,19],H [2,4,17,18,19],H [2,4,17,18,19],H [2,4,31],H [2,4,7,8],H [2,4,7,8,39],H [2,3],⟨[2,4,7,9],[0],[],[],[],[]⟩,H [2,4,9,42,43,44],H [2,4,9,42,43,44,45],H [2,4,9,11,42,43,44],H [2,4,9,11,42,43,44],H [2,4,9,42,43,44],H [2,4,9,42,43,44],H [2,4],H [2,3]]
def ZWa:PC :=
 (.reg [0,2] [I 2 (.box (.v ZT)),I 3 (.mv (V 0))])
def ZWb:PC :=
 (.reg [0,2,14] [I 12 (.mv (.s 0)),I 13 (.len 0 (.s 12)),I 14 (.bin .gtr (.s 13) (V 65536))])
def ZWc:PC :=
 (.reg [2,3] [I 15 (.build [(.int .u64 0),(.int .i64 0),(.int .i64 0),(.int .i64 0),(.int .i64 0),(.str []),.nils] []),J (.st 7 (.s 2) (.s 15)),I 3 (.mv (V 5))])
def ZWd:PC :=
 (.reg [0,2,4] [I 4 (.onil 7)])
def ZWe:PC :=
 (.reg [2,4,17,18,19] [I 16 (.mv (.s 0)),I 17 (C ZCG [(.s 16)]),I 18 (.len 1 (.s 17)),I 19 (.mv (V 0))])
def ZWf:PC :=
 (.reg [2,4,17,18,19,20] [I 20 (.bin .lss (.s 19) (.s 18))])
def ZWg:PC :=
 (.reg [2,4,6,17,18,19] [I 21 (.ixS 1 (.s 17) (.s 19)),I 22 (.ld false 1 (.s 21)),I 6 (.mv (.s 22))])
def ZWh:PC :=
 (.reg [2,4,17,18,19] [I 23 (.mv (.s 4)),I 24 (.mv (.s 6)),I 25 (.build [(.int .u64 0),(.int .i64 0),(.int .i64 0),(.int .i64 0),(.int .i64 0),(.str []),.nils] [(5,1,(.s 24))]),I 26 (.bslice false 7 [ZT] [(0,(.s 25))]),I 27 (.app 7 80 (.s 23) (.s 26)),I 4 (.mv (.s 27))])
def ZWi:PC :=
 (.reg [2,4,17,18,19] [I 28 (.bin .add (.s 19) (V 1)),I 19 (.mv (.s 28))])
def ZWj:PC :=
 (.seq ZWf
 (.seq (.ite (.s 20)
 .skip
 (.exit 0))
 (.seq (.block 1
 (.seq ZWg
 ZWh))
 ZWi)))
def ZS6:PC :=
 (.reg [2,4,31] [I 29 (.mv (.s 4)),I 30 (.len 1 (.s 29)),I 31 (.bin .gtr (.s 30) (V 1))])
def ZS7:PC :=
 (.reg [2,4,7,8] [I 33 (.mv (.s 4)),I 34 (.len 1 (.s 33)),I 35 (C ZFc [(.s 34),(V 4)]),I 32 (.mv (.s 35)),I 36 (.ext (.s 32) 0),I 37 (.ext (.s 32) 1),I 7 (.mv (.s 36)),I 8 (.mv (.s 37))])
def ZS8:PC :=
 (.reg [2,4,7,8,39] [I 38 (.mv (.s 8)),I 39 (.bin .neq (.s 38) (V 0))])
def ZS9:PC :=
 (.reg [2,3] [I 40 (.build [(.int .u64 0),(.int .i64 0),(.int .i64 0),(.int .i64 0),(.int .i64 0),(.str []),.nils] []),I 41 (.mv (.s 8)),J (.st 7 (.s 2) (.s 40)),I 3 (.mv (.s 41))])
def ZTA:PC :=
 (.reg [2,4,7,9] [I 9 (.onil 7)])
def ZTB:PC :=
 (.reg [2,4,9,42,43,44] [I 42 (.mv (.s 7)),I 43 (.len 1 (.s 42)),I 44 (.mv (V 0))])
def ZTC:PC :=
 (.reg [2,4,9,42,43,44,45] [I 45 (.bin .lss (.s 44) (.s 43))])
def ZTD:PC :=
 (.reg [2,4,9,11,42,43,44] [I 46 (.ixS 1 (.s 42) (.s 44)),I 47 (.ld false 1 (.s 46)),I 11 (.mv (.s 47))])
def ZTE:PC :=
 (.reg [2,4,9,11,42,43,44] [I 48 (.mv (.s 9)),I 49 (.mv (.s 4)),I 50 (.mv (.s 11)),I 51 (.slc 7 (.s 49) none (some (.s 50))),I 52 (C QO [(.s 51)]),I 53 (.bslice false 7 [ZT] [(0,(.s 52))]),I 54 (.app 7 80 (.s 48) (.s 53)),I 9 (.mv (.s 54))])
def ZTF:PC :=
 (.reg [2,4,9,42,43,44] [I 55 (.mv (.s 4)),I 56 (.mv (.s 11)),I 57 (.slc 7 (.s 55) (some (.s 56)) none),I 4 (.mv (.s 57))])
def ZTG:PC :=
 (.reg [2,4,9,42,43,44] [I 58 (.bin .add (.s 44) (V 1)),I 44 (.mv (.s 58))])
def ZTH:PC :=
 (.seq ZTC
 (.seq (.ite (.s 45)
 .skip
 (.exit 4))
 (.seq (.block 5
 (.seq ZTD
 (.seq ZTE
 ZTF)))
 ZTG)))
def ZTI:PC :=
 (.reg [2,4] [I 59 (.mv (.s 9)),I 4 (.mv (.s 59))])
def ZHO:PC :=
 (.seq (.seq ZS6
 (.ite (.s 31)
 .skip
 (.exit 2)))
 (.block 3
 (.seq ZS7
 (.seq (.seq ZS8
 (.ite (.s 39)
 (.seq ZS9
 .ret)
 .skip))
 (.seq ZTA
 (.seq (.seq ZTB
 (.block 4
 (.loop ZTH)))
 ZTI))))))
def ZHP:PC :=
 (.reg [2,3] [I 60 (.mv (.s 4)),I 61 (C QO [(.s 60)]),J (.st 7 (.s 2) (.s 61)),I 3 (.mv (V 0))])
def ZPF:PF:=⟨false,
 (.seq ZWa
 (.seq (.seq ZWb
 (.ite (.s 14)
 (.seq ZWc
 .ret)
 .skip))
 (.seq ZWd
 (.seq (.seq ZWe
 (.block 0
 (.loop ZWj)))
 (.seq (.block 2
 (.loop ZHO))
 (.seq ZHP
 .ret)))))),
 [.c 2 true 7,.s 3]⟩
theorem Zc0:Zx Proofs.Tryz.prog false Zcz Proofs.Tryz.f39=some ZPF:=by kernel_rfl
def Zg5:List Hint:=[H [1],H [1,3],H [1,3,4],H [1,3,14],H [1,3],H [3,16,17,18],H [3,16,17,18,19],H [3,6,16,17,18],H [3,16,17,18],H [3,16,17,18],H [2]]
def Zc1:PC :=
 (.reg [1] [I 1 (.box (.s 0)),I 2 (.mv (V 0))])
def Zc2:PC :=
 (.reg [1,3] [I 3 (.mv (V 0))])
def Zc3:PC :=
 (.reg [1,3,4] [I 7 (.ld true 7 (.s 1)),I 8 (C QY [(.s 7)]),I 4 (.mv (.s 8))])
def Zc4:PC :=
 (.reg [1,3,14] [I 9 (.mv (.s 4)),I 10 (.bin .eql (.s 9) (V 3)),I 11 (.mv (.s 10)),G 12 11 false (.mv (.s 4)),G 13 11 false (.bin .eql (.s 12) (V 4)),I 14 (.pick (.s 11) (.v (.bool true)) (.s 13))])
def Zc5:PC :=
 (.reg [1,3] [I 3 (.mv (V 1))])
def Zc6:PC :=
 (.reg [3,16,17,18] [I 15 (.fadr 6 (.s 1)),I 16 (.ld false 1 (.s 15)),I 17 (.len 1 (.s 16)),I 18 (.mv (V 0))])
def Zc7:PC :=
 (.reg [3,16,17,18,19] [I 19 (.bin .lss (.s 18) (.s 17))])
def Zc8:PC :=
 (.reg [3,6,16,17,18] [I 20 (.ixS 7 (.s 16) (.s 18)),I 21 (.ld true 7 (.s 20)),I 6 (.box (.v ZT)),J (.st 7 (.s 6) (.s 21))])
def Zc9:PC :=
 (.reg [3,16,17,18] [I 22 (.mv (.s 3)),I 23 (.ld true 7 (.s 6)),I 24 (C ZCD [(.s 23)]),I 25 (.bin .add (.s 22) (.s 24)),I 3 (.mv (.s 25))])
def ZdA:PC :=
 (.reg [3,16,17,18] [I 26 (.bin .add (.s 18) (V 1)),I 18 (.mv (.s 26))])
def ZZb:PC :=
 (.seq Zc7
 (.seq (.ite (.s 19)
 .skip
 (.exit 0))
 (.seq (.block 1
 (.seq Zc8
 Zc9))
 ZdA)))
def ZZc:PC :=
 (.reg [2] [I 27 (.mv (.s 3)),I 2 (.mv (.s 27))])
def ZWk:PF:=⟨false,
 (.seq Zc1
 (.seq Zc2
 (.seq (.seq Zc3
 (.seq Zc4
 (.ite (.s 14)
 Zc5
 .skip)))
 (.seq (.seq Zc6
 (.block 0
 (.loop ZZb)))
 (.seq ZZc
 .ret))))),
 [.s 2]⟩
theorem Zg6:Zx Proofs.Tryz.prog false Zg5 Proofs.Tryz.f40=some ZWk:=by kernel_rfl
def ZPG:List Hint:=[H [0,1],H [6,7],H [6,7,15],H [4,5],H [4,5]]
def ZMC:PC :=
 (.reg [0,1] [I 4 (.mv (.v .nilptr)),I 5 (.mv (V 0))])
def ZMD:PC :=
 (.reg [6,7] [I 9 (.mv (.s 0)),I 10 (.mv (.s 1)),I 11 (C ZAI [(.s 9),(.s 10)]),I 8 (.mv (.s 11)),I 12 (.ext (.s 8) 0),I 13 (.ext (.s 8) 1),I 6 (.mv (.s 12)),I 7 (.mv (.s 13))])
def ZME:PC :=
 (.reg [6,7,15] [I 14 (.mv (.s 7)),I 15 (.bin .neq (.s 14) (V 0))])
def ZMF:PC :=
 (.reg [4,5] [I 16 (.mv (.s 7)),I 4 (.mv (.v .nilptr)),I 5 (.mv (.s 16))])
def ZMG:PC :=
 (.reg [4,5] [I 17 (.mv (.s 6)),I 18 (.build [.nilptr,.nils,(.int .i64 0),(.int .i64 0),(.int .i64 0),(.int .i64 0),(.int .i64 0),(.int .i64 0),(.int .i64 0)] [(0,1,(.s 17))]),I 19 (.box (.s 18)),I 4 (.mv (.s 19)),I 5 (.mv (V 0))])
def ZDs:PF:=⟨true,
 (.seq ZMC
 (.seq ZMD
 (.seq (.seq ZME
 (.ite (.s 15)
 (.seq ZMF
 .ret)
 .skip))
 (.seq ZMG
 .ret)))),
 [.s 4,.s 5]⟩
theorem ZPH:Zx Proofs.Tryz.prog true ZPG Proofs.Tryz.f41=some ZDs:=by kernel_rfl
def ZMH:List Hint:=[H [0,2],⟨[0,2,3],[0],[],[],[],[]⟩,H [2,3,4],H [2,3,4,5],H [2,3,4,5,14],H [2,3,4,5],H [2,3,4,5],H [2,3,27],⟨[2,3,6],[0],[],[],[],[]⟩,H [2,3,6,7],H [2,3,6,7,8],H [2,3,6,7,8,34],H [2,3,6,7,8],H [2,3,6,7,8],H [2,3,6,7,8],H [2,3],H [2]]
def ZHn:PC :=
 (.reg [0,2] [I 2 (.box (.v ZT))])
def ZHo:PC :=
 (.reg [0,2,3] [I 3 (.onil 7)])
def ZHp:PC :=
 (.reg [2,3,4] [I 9 (.mv (.s 0)),I 10 (C Y8 [(.s 9)]),I 4 (.mv (.s 10))])
def ZHq:PC :=
 (.reg [2,3,4,5] [I 5 (.mv (V 0))])
def ZHr:PC :=
 (.reg [2,3,4,5,14] [I 11 (.mv (.s 5)),I 12 (.mv (.s 4)),I 13 (.len 1 (.s 12)),I 14 (.bin .lss (.s 11) (.s 13))])
def ZHs:PC :=
 (.reg [2,3,4,5] [I 17 (.mv (.s 3)),I 18 (.mv (.s 4)),I 19 (.mv (.s 5)),I 20 (.ixS 1 (.s 18) (.s 19)),I 21 (.ld false 1 (.s 20)),I 22 (C Xx [(.s 21)]),I 23 (.bslice false 7 [ZT] [(0,(.s 22))]),I 24 (.app 7 80 (.s 17) (.s 23)),I 3 (.mv (.s 24))])
def ZHt:PC :=
 (.reg [2,3,4,5] [I 15 (.mv (.s 5)),I 16 (.bin .add (.s 15) (V 1)),I 5 (.mv (.s 16))])
def ZHu:PC :=
 (.seq (.seq ZHr
 (.ite (.s 14)
 .skip
 (.exit 0)))
 (.seq (.block 1
 ZHs)
 ZHt))
def ZHv:PC :=
 (.reg [2,3,27] [I 25 (.mv (.s 3)),I 26 (.len 1 (.s 25)),I 27 (.bin .gtr (.s 26) (V 1))])
def ZHw:PC :=
 (.reg [2,3,6] [I 6 (.onil 7)])
def ZFn:PC :=
 (.reg [2,3,6,7] [I 28 (.mv (.s 3)),I 29 (.len 1 (.s 28)),I 30 (C YD [(.s 29),(V 4)]),I 7 (.mv (.s 30))])
def ZFo:PC :=
 (.reg [2,3,6,7,8] [I 8 (.mv (V 0))])
def ZFp:PC :=
 (.reg [2,3,6,7,8,34] [I 31 (.mv (.s 8)),I 32 (.mv (.s 7)),I 33 (.len 1 (.s 32)),I 34 (.bin .lss (.s 31) (.s 33))])
def ZFq:PC :=
 (.reg [2,3,6,7,8] [I 37 (.mv (.s 6)),I 38 (.mv (.s 3)),I 39 (.mv (.s 7)),I 40 (.mv (.s 8)),I 41 (.ixS 1 (.s 39) (.s 40)),I 42 (.ld false 1 (.s 41)),I 43 (.slc 7 (.s 38) none (some (.s 42))),I 44 (C YE [(.s 43)]),I 45 (.bslice false 7 [ZT] [(0,(.s 44))]),I 46 (.app 7 80 (.s 37) (.s 45)),I 6 (.mv (.s 46))])
def ZFr:PC :=
 (.reg [2,3,6,7,8] [I 47 (.mv (.s 3)),I 48 (.mv (.s 7)),I 49 (.mv (.s 8)),I 50 (.ixS 1 (.s 48) (.s 49)),I 51 (.ld false 1 (.s 50)),I 52 (.slc 7 (.s 47) (some (.s 51)) none),I 3 (.mv (.s 52))])
def ZFs:PC :=
 (.reg [2,3,6,7,8] [I 35 (.mv (.s 8)),I 36 (.bin .add (.s 35) (V 1)),I 8 (.mv (.s 36))])
def ZFt:PC :=
 (.seq (.seq ZFp
 (.ite (.s 34)
 .skip
 (.exit 4)))
 (.seq (.block 5
 (.seq ZFq
 ZFr))
 ZFs))
def ZFu:PC :=
 (.reg [2,3] [I 53 (.mv (.s 6)),I 3 (.mv (.s 53))])
def ZAO:PC :=
 (.seq (.seq ZHv
 (.ite (.s 27)
 .skip
 (.exit 2)))
 (.block 3
 (.seq ZHw
 (.seq ZFn
 (.seq (.seq ZFo
 (.block 4
 (.loop ZFt)))
 ZFu)))))
def ZAP:PC :=
 (.reg [2] [I 54 (.mv (.s 3)),I 55 (C XS [(.s 54)]),J (.st 7 (.s 2) (.s 55))])
def ZBO:PF:=⟨false,
 (.seq ZHn
 (.seq ZHo
 (.seq ZHp
 (.seq (.seq ZHq
 (.block 0
 (.loop ZHu)))
 (.seq (.block 2
 (.loop ZAO))
 (.seq ZAP
 .ret)))))),
 [.c 2 true 7]⟩
theorem ZMI:Zx Proofs.Tryz.prog false ZMH Proofs.Tryz.f42=some ZBO:=by kernel_rfl
def ZMJ:List Hint:=[H [0,3,4],H [0,3,4,14],H [4,5],H [0,3,4,18],H [4,5],H [0,3,4,6],H [0,3,4,6,7],H [0,3,4,6,7,8],H [0,3,4,6,7,8,38],H [0,3,4,6,7,8,9,10],H [0,3,4,6,7,8,9,10,52],H [4,5],H [0,3,4,6,7,8,9],⟨[0,3,4,6,7,8],[],[],[],[(21,(.plain (.s 7))),(16,(.hide [(.s 7)])),(19,(.plain (.s 7))),(10,(.hide [(.s 7)]))],[]⟩,H [0,3,4,6,7,8],H [3,4,7,11,12],H [3,4,7,11,12,93],H [4,5],H [4,5]]
def ZHx:PC :=
 (.reg [0,3,4] [I 3 (.box (.s 1)),I 4 (.box (.v ZR)),I 5 (.mv (V 0))])
def ZHy:PC :=
 (.reg [0,3,4,14] [I 13 (.ld true 7 (.s 3)),I 14 (C Jq [(.s 13)])])
def ZHz:PC :=
 (.reg [4,5] [I 15 (.build [(.int .u64 0),(.int .i64 0),(.int .i64 0),(.int .i64 0),(.int .i64 0)] []),J (.st 5 (.s 4) (.s 15)),I 5 (.mv (V 0))])
def ZH0:PC :=
 (.reg [0,3,4,18] [I 16 (.fadr 0 (.s 3)),I 17 (.ld false 1 (.s 16)),I 18 (.bin .neq (.s 17) (.v (.int .u64 0)))])
def ZH1:PC :=
 (.reg [4,5] [I 19 (.fadr 0 (.s 3)),I 20 (.ld false 1 (.s 19)),I 21 (.fadr 1 (.s 3)),I 22 (.ld false 1 (.s 21)),I 23 (.fadr 2 (.s 3)),I 24 (.ld true 3 (.s 23)),I 25 (.build [(.int .u64 0),(.int .i64 0),(.int .i64 0),(.int .i64 0),(.int .i64 0)] [(0,1,(.s 20)),(1,1,(.s 22)),(2,3,(.s 24))]),J (.st 5 (.s 4) (.s 25)),I 5 (.mv (V 0))])
def ZH2:PC :=
 (.reg [0,3,4,6] [I 26 (.fadr 1 (.s 3)),I 27 (.ld false 1 (.s 26)),I 28 (.fadr 5 (.s 3)),I 29 (.ld false 1 (.s 28)),I 30 (.build [(.int .i64 0),(.str []),.nils] [(0,1,(.s 27)),(1,1,(.s 29))]),I 6 (.box (.v ZN)),J (.st 3 (.s 6) (.s 30))])
def ZH3:PC :=
 (.reg [0,3,4,6,7] [I 31 (.fadr 5 (.s 3)),I 32 (.ld false 1 (.s 31)),I 33 (C Yo [(.s 32)]),I 7 (.box (.v ZM)),J (.st 3 (.s 7) (.s 33))])
def ZH4:PC :=
 (.reg [0,3,4,6,7,8] [I 8 (.mv (V 0))])
def ZH5:PC :=
 (.reg [0,3,4,6,7,8,38] [I 34 (.mv (.s 8)),I 35 (.fadr 6 (.s 3)),I 36 (.ld false 1 (.s 35)),I 37 (.len 1 (.s 36)),I 38 (.bin .lss (.s 34) (.s 37))])
def ZH6:PC :=
 (.reg [0,3,4,6,7,8,9,10] [I 42 (.mv (.s 0)),I 43 (.fadr 6 (.s 3)),I 44 (.ld false 1 (.s 43)),I 45 (.mv (.s 8)),I 46 (.ixS 7 (.s 44) (.s 45)),I 47 (.ld true 7 (.s 46)),I 48 (C QG [(.s 42),(.s 47)]),I 41 (.mv (.s 48)),I 49 (.ext (.s 41) 0),I 50 (.ext (.s 41) 1),I 9 (.box (.v ZR)),J (.st 5 (.s 9) (.s 49)),I 10 (.mv (.s 50))])
def ZFv:PC :=
 (.reg [0,3,4,6,7,8,9,10,52] [I 51 (.mv (.s 10)),I 52 (.bin .neq (.s 51) (V 0))])
def ZFw:PC :=
 (.reg [4,5] [I 53 (.build [(.int .u64 0),(.int .i64 0),(.int .i64 0),(.int .i64 0),(.int .i64 0)] []),I 54 (.mv (.s 10)),J (.st 5 (.s 4) (.s 53)),I 5 (.mv (.s 54))])
def ZFx:PC :=
 (.reg [0,3,4,6,7,8,9] [I 55 (.fadr 2 (.s 6)),I 56 (.ld false 1 (.s 55)),I 57 (.fadr 0 (.s 9)),I 58 (.ld false 1 (.s 57)),I 59 (.fadr 2 (.s 9)),I 60 (.ld true 3 (.s 59)),I 61 (.build [(.int .u64 0),(.int .i64 0),(.int .i64 0),(.int .i64 0)] [(0,1,(.s 58)),(1,3,(.s 60))]),I 62 (.bslice false 4 [ZK] [(0,(.s 61))]),I 63 (.app 4 32 (.s 56) (.s 62)),I 64 (.fadr 2 (.s 6)),J (.st 1 (.s 64) (.s 63))])
def ZAQ:PC :=
 (.reg [0,3,4,6,7,8] [I 65 (.fadr 0 (.s 7)),I 66 (.ld false 1 (.s 65)),I 67 (.fadr 2 (.s 9)),I 68 (.fadr 0 (.s 67)),I 69 (.ld false 1 (.s 68)),I 70 (.bin .add (.s 66) (.s 69)),I 71 (.fadr 1 (.s 7)),I 72 (.ld false 1 (.s 71)),I 73 (.fadr 2 (.s 9)),I 74 (.fadr 1 (.s 73)),I 75 (.w (.hide [(.s 7)]) (.ld false 1 (.s 74))),I 76 (.bin .add (.s 72) (.s 75)),I 77 (.fadr 2 (.s 7)),I 78 (.ld false 1 (.s 77)),I 79 (.fadr 2 (.s 9)),I 80 (.fadr 2 (.s 79)),I 81 (.w (.hide [(.s 7)]) (.ld false 1 (.s 80))),I 82 (.bin .add (.s 78) (.s 81)),I 83 (.fadr 0 (.s 7)),J (.w (.plain (.s 7)) (.st 1 (.s 83) (.s 70))),I 84 (.fadr 1 (.s 7)),J (.w (.plain (.s 7)) (.st 1 (.s 84) (.s 76))),I 85 (.fadr 2 (.s 7)),J (.st 1 (.s 85) (.s 82))])
def ZFy:PC :=
 (.reg [0,3,4,6,7,8] [I 39 (.mv (.s 8)),I 40 (.bin .add (.s 39) (V 1)),I 8 (.mv (.s 40))])
def ZFz:PC :=
 (.seq (.seq ZH5
 (.ite (.s 38)
 .skip
 (.exit 0)))
 (.seq (.block 1
 (.seq ZH6
 (.seq (.seq ZFv
 (.ite (.s 52)
 (.seq ZFw
 .ret)
 .skip))
 (.seq ZFx
 ZAQ))))
 ZFy))
def ZF0:PC :=
 (.reg [3,4,7,11,12] [I 87 (.mv (.s 0)),I 88 (.ld true 3 (.s 6)),I 89 (.call .norm (.s 87) [(.s 88)]),I 86 (.mv (.s 89)),I 90 (.ext (.s 86) 0),I 91 (.ext (.s 86) 1),I 11 (.mv (.s 90)),I 12 (.mv (.s 91))])
def ZF1:PC :=
 (.reg [3,4,7,11,12,93] [I 92 (.mv (.s 12)),I 93 (.bin .neq (.s 92) (V 0))])
def ZF2:PC :=
 (.reg [4,5] [I 94 (.build [(.int .u64 0),(.int .i64 0),(.int .i64 0),(.int .i64 0),(.int .i64 0)] []),I 95 (.mv (.s 12)),J (.st 5 (.s 4) (.s 94)),I 5 (.mv (.s 95))])
def ZF3:PC :=
 (.reg [4,5] [I 96 (.mv (.s 11)),I 97 (.fadr 1 (.s 3)),I 98 (.ld false 1 (.s 97)),I 99 (.ld true 3 (.s 7)),I 100 (.build [(.int .u64 0),(.int .i64 0),(.int .i64 0),(.int .i64 0),(.int .i64 0)] [(0,1,(.s 96)),(1,1,(.s 98)),(2,3,(.s 99))]),J (.st 5 (.s 4) (.s 100)),I 5 (.mv (V 0))])
def ZBP:PF:=⟨true,
 (.seq ZHx
 (.seq (.seq ZHy
 (.ite (.s 14)
 (.seq ZHz
 .ret)
 .skip))
 (.seq (.seq ZH0
 (.ite (.s 18)
 (.seq ZH1
 .ret)
 .skip))
 (.seq ZH2
 (.seq ZH3
 (.seq (.seq ZH4
 (.block 0
 (.loop ZFz)))
 (.seq ZF0
 (.seq (.seq ZF1
 (.ite (.s 93)
 (.seq ZF2
 .ret)
 .skip))
 (.seq ZF3
 .ret))))))))),
 [.c 4 true 5,.s 5]⟩
theorem ZMK:Zx Proofs.Tryz.prog true ZMJ Proofs.Tryz.f43=some ZBP:=by kernel_rfl
def ZML:List Hint:=[H [0,3],H [0,3,16],H [4,5],H [0,3,6],H [0,3,6,20],H [4,5],H [0,3,23,24,25],H [0,3,23,24,25,26],H [0,3,8,23,24,25],H [0,3,8,9,10,23,24,25],H [0,3,8,9,23,24,25,40],H [4,5],H [0,3,8,9,11,12,23,24,25],H [0,3,23,24,25,61],H [4,5],H [0,3,23,24,25],H [0,3,13,14],H [0,3,13,14,72],H [4,5],H [0,3,13],H [0,13],H [13],H [4,5]]
def ZH7:PC :=
 (.reg [0,3] [I 3 (.box (.s 1)),I 4 (.mv (.v (.int .u64 0))),I 5 (.mv (V 0))])
def ZH8:PC :=
 (.reg [0,3,16] [I 15 (.mv (.s 0)),I 16 (.eqs false 3 [] (.s 15) (.v .nilptr))])
def ZH9:PC :=
 (.reg [4,5] [I 4 (.mv (.v (.int .u64 0))),I 5 (.mv (V 1))])
def ZIA:PC :=
 (.reg [0,3,6] [I 17 (.ld true 3 (.s 3)),I 18 (C ZAJ [(.s 17)]),I 6 (.mv (.s 18))])
def ZIB:PC :=
 (.reg [0,3,6,20] [I 19 (.mv (.s 6)),I 20 (.bin .neq (.s 19) (V 0))])
def ZIC:PC :=
 (.reg [4,5] [I 21 (.mv (.s 6)),I 4 (.mv (.v (.int .u64 0))),I 5 (.mv (.s 21))])
def ZID:PC :=
 (.reg [0,3,23,24,25] [I 22 (.fadr 2 (.s 3)),I 23 (.ld false 1 (.s 22)),I 24 (.len 1 (.s 23)),I 25 (.mv (V 0))])
def ZIE:PC :=
 (.reg [0,3,23,24,25,26] [I 26 (.bin .lss (.s 25) (.s 24))])
def ZIF:PC :=
 (.reg [0,3,8,23,24,25] [I 27 (.ixS 4 (.s 23) (.s 25)),I 28 (.ld true 4 (.s 27)),I 8 (.box (.v ZK)),J (.st 4 (.s 8) (.s 28))])
def ZIG:PC :=
 (.reg [0,3,8,9,10,23,24,25] [I 30 (.mv (.s 0)),I 31 (.nilck (.s 30)),I 32 (.fadr 2 (.s 31)),I 33 (.ld false 1 (.s 32)),I 34 (.fadr 0 (.s 8)),I 35 (.ld false 1 (.s 34)),I 36 (.look 0 ZN true (.s 33) (.s 35)),I 29 (.mv (.s 36)),I 37 (.ext (.s 29) 0),I 38 (.ext (.s 29) 1),I 9 (.box (.v ZN)),J (.st 3 (.s 9) (.s 37)),I 10 (.mv (.s 38))])
def ZF4:PC :=
 (.reg [0,3,8,9,23,24,25,40] [I 39 (.mv (.s 10)),I 40 (.un .not (.s 39))])
def ZF5:PC :=
 (.reg [4,5] [I 4 (.mv (.v (.int .u64 0))),I 5 (.mv (V 10))])
def ZF6:PC :=
 (.reg [0,3,8,9,11,12,23,24,25] [I 42 (.ld true 3 (.s 9)),I 43 (C ZAK [(.s 42)]),I 41 (.mv (.s 43)),I 44 (.ext (.s 41) 0),I 45 (.ext (.s 41) 1),I 11 (.box (.v ZM)),J (.st 3 (.s 11) (.s 44)),I 12 (.mv (.s 45))])
def ZF7:PC :=
 (.reg [0,3,23,24,25,61] [I 46 (.mv (.s 12)),I 47 (.bin .neq (.s 46) (V 0)),I 48 (.mv (.s 47)),G 49 48 false (.fadr 0 (.s 9)),G 50 48 false (.ld false 1 (.s 49)),G 51 48 false (.fadr 0 (.s 3)),G 52 48 false (.ld false 1 (.s 51)),G 53 48 false (.bin .sub (.s 52) (V 1)),G 54 48 false (.bin .neq (.s 50) (.s 53)),I 55 (.pick (.s 48) (.v (.bool true)) (.s 54)),I 56 (.mv (.s 55)),G 57 56 false (.ld true 3 (.s 11)),G 58 56 false (.fadr 1 (.s 8)),G 59 56 false (.ld true 3 (.s 58)),G 60 56 false (.eqs true 0 [(0,0),(1,0),(2,0)] (.s 57) (.s 59)),I 61 (.pick (.s 56) (.v (.bool true)) (.s 60))])
def ZF8:PC :=
 (.reg [4,5] [I 4 (.mv (.v (.int .u64 0))),I 5 (.mv (V 23))])
def ZF9:PC :=
 (.reg [0,3,23,24,25] [I 62 (.bin .add (.s 25) (V 1)),I 25 (.mv (.s 62))])
def ZGA:PC :=
 (.seq ZIE
 (.seq (.ite (.s 26)
 .skip
 (.exit 0))
 (.seq (.block 1
 (.seq ZIF
 (.seq ZIG
 (.seq (.seq ZF4
 (.ite (.s 40)
 (.seq ZF5
 .ret)
 .skip))
 (.seq ZF6
 (.seq ZF7
 (.ite (.s 61)
 (.seq ZF8
 .ret)
 .skip)))))))
 ZF9)))
def ZGB:PC :=
 (.reg [0,3,13,14] [I 64 (.mv (.s 0)),I 65 (.nilck (.s 64)),I 66 (.fadr 1 (.s 65)),I 67 (.ld false 1 (.s 66)),I 68 (C Y9 [(.s 67)]),I 63 (.mv (.s 68)),I 69 (.ext (.s 63) 0),I 70 (.ext (.s 63) 1),I 13 (.mv (.s 69)),I 14 (.mv (.s 70))])
def ZGC:PC :=
 (.reg [0,3,13,14,72] [I 71 (.mv (.s 14)),I 72 (.bin .neq (.s 71) (V 0))])
def ZGD:PC :=
 (.reg [4,5] [I 73 (.mv (.s 14)),I 4 (.mv (.v (.int .u64 0))),I 5 (.mv (.s 73))])
def ZAR:PC :=
 (.reg [0,3,13] [I 74 (.fadr 2 (.s 3)),I 75 (.ld false 1 (.s 74)),I 76 (C Z6 [(.s 75)]),I 77 (.fadr 2 (.s 3)),J (.st 1 (.s 77) (.s 76))])
def ZAS:PC :=
 (.reg [0,13] [I 78 (.mv (.s 0)),I 79 (.nilck (.s 78)),I 80 (.fadr 2 (.s 79)),I 81 (.ld false 1 (.s 80)),I 82 (.mv (.s 13)),I 83 (.ld true 3 (.s 3)),J (.mupd 0 (.s 81) (.s 82) (.s 83))])
def ZAT:PC :=
 (.reg [13] [I 84 (.mv (.s 0)),I 85 (.nilck (.s 84)),I 86 (.fadr 3 (.s 85)),I 87 (.ld false 1 (.s 86)),I 88 (.bin .add (.s 87) (V 1)),I 89 (.nilck (.s 84)),I 90 (.fadr 3 (.s 89)),J (.st 1 (.s 90) (.s 88))])
def ZAU:PC :=
 (.reg [4,5] [I 91 (.mv (.s 13)),I 4 (.mv (.s 91)),I 5 (.mv (V 0))])
def ZBQ:PF:=⟨false,
 (.seq ZH7
 (.seq (.seq ZH8
 (.ite (.s 16)
 (.seq ZH9
 .ret)
 .skip))
 (.seq (.seq ZIA
 (.seq ZIB
 (.ite (.s 20)
 (.seq ZIC
 .ret)
 .skip)))
 (.seq (.seq ZID
 (.block 0
 (.loop ZGA)))
 (.seq ZGB
 (.seq (.seq ZGC
 (.ite (.s 72)
 (.seq ZGD
 .ret)
 .skip))
 (.seq ZAR
 (.seq ZAS
 (.seq ZAT
 (.seq ZAU
 .ret)))))))))),
 [.s 4,.s 5]⟩
theorem ZMM:Zx Proofs.Tryz.prog false ZML Proofs.Tryz.f44=some ZBQ:=by kernel_rfl
def ZDW:List Hint:=[H [0,3],H [0,3,11],H [4,5],H [0,3,6],H [0,3,6,15],H [4,5],H [0,3,7],H [0,3,7,21],H [4,5],H [0,3,8,9],H [0,3,8,9,32],H [4,5],⟨[0,8],[],[(7,.pure)],[],[(9,.imm)],[]⟩,H [8],H [4,5]]
def ZBf:PC :=
 (.reg [0,3] [I 3 (.box (.s 1)),I 4 (.mv (.v (.int .u64 0))),I 5 (.mv (V 0))])
def ZBg:PC :=
 (.reg [0,3,11] [I 10 (.mv (.s 0)),I 11 (.eqs false 3 [] (.s 10) (.v .nilptr))])
def ZBh:PC :=
 (.reg [4,5] [I 4 (.mv (.v (.int .u64 0))),I 5 (.mv (V 1))])
def ZBi:PC :=
 (.reg [0,3,6] [I 12 (.ld true 3 (.s 3)),I 13 (C Jd [(.s 12)]),I 6 (.mv (.s 13))])
def ZBj:PC :=
 (.reg [0,3,6,15] [I 14 (.mv (.s 6)),I 15 (.bin .neq (.s 14) (V 0))])
def ZBk:PC :=
 (.reg [4,5] [I 16 (.mv (.s 6)),I 4 (.mv (.v (.int .u64 0))),I 5 (.mv (.s 16))])
def ZBl:PC :=
 (.reg [0,3,7] [I 17 (.mv (.s 0)),I 18 (.ld true 3 (.s 3)),I 19 (C JR [(.s 17),(.s 18)]),I 7 (.mv (.s 19))])
def ZBm:PC :=
 (.reg [0,3,7,21] [I 20 (.mv (.s 7)),I 21 (.bin .neq (.s 20) (V 0))])
def ZBn:PC :=
 (.reg [4,5] [I 22 (.mv (.s 7)),I 4 (.mv (.v (.int .u64 0))),I 5 (.mv (.s 22))])
def Yw:PC :=
 (.reg [0,3,8,9] [I 24 (.mv (.s 0)),I 25 (.nilck (.s 24)),I 26 (.fadr 0 (.s 25)),I 27 (.ld false 1 (.s 26)),I 28 (C YI [(.s 27)]),I 23 (.mv (.s 28)),I 29 (.ext (.s 23) 0),I 30 (.ext (.s 23) 1),I 8 (.mv (.s 29)),I 9 (.mv (.s 30))])
def YZ:PC :=
 (.reg [0,3,8,9,32] [I 31 (.mv (.s 9)),I 32 (.bin .neq (.s 31) (V 0))])
def Ya:PC :=
 (.reg [4,5] [I 33 (.mv (.s 9)),I 4 (.mv (.v (.int .u64 0))),I 5 (.mv (.s 33))])
def Yb:PC :=
 (.reg [0,8] [I 34 (.mv (.s 0)),I 35 (.mv (.s 0)),I 36 (.nilck (.s 35)),I 37 (.fadr 1 (.s 36)),I 38 (.ld false 1 (.s 37)),I 39 (.mv (.s 8)),I 40 (.ld true 3 (.s 3)),I 41 (.call .pure (.v (.func (.func Q8) [] [])) [(.s 40)]),I 42 (.build [(.int .u64 0),(.int .i64 0),(.str []),.nils] [(0,1,(.s 39)),(1,3,(.s 41))]),I 43 (.w .imm (.bslice false 4 [(.agg [(.int .u64 0),(.int .i64 0),(.str []),.nils])] [(0,(.s 42))])),I 44 (.app 4 56 (.s 38) (.s 43)),I 45 (.nilck (.s 34)),I 46 (.fadr 1 (.s 45)),J (.st 1 (.s 46) (.s 44))])
def Yc:PC :=
 (.reg [8] [I 47 (.mv (.s 0)),I 48 (.nilck (.s 47)),I 49 (.fadr 2 (.s 48)),I 50 (.fadr 4 (.s 49)),I 51 (.ld false 1 (.s 50)),I 52 (.bin .add (.s 51) (V 1)),I 53 (.nilck (.s 47)),I 54 (.fadr 2 (.s 53)),I 55 (.fadr 4 (.s 54)),J (.st 1 (.s 55) (.s 52))])
def Yd:PC :=
 (.reg [4,5] [I 56 (.mv (.s 8)),I 4 (.mv (.s 56)),I 5 (.mv (V 0))])
def XN:PF:=⟨true,
 (.seq ZBf
 (.seq (.seq ZBg
 (.ite (.s 11)
 (.seq ZBh
 .ret)
 .skip))
 (.seq (.seq ZBi
 (.seq ZBj
 (.ite (.s 15)
 (.seq ZBk
 .ret)
 .skip)))
 (.seq (.seq ZBl
 (.seq ZBm
 (.ite (.s 21)
 (.seq ZBn
 .ret)
 .skip)))
 (.seq Yw
 (.seq (.seq YZ
 (.ite (.s 32)
 (.seq Ya
 .ret)
 .skip))
 (.seq Yb
 (.seq Yc
 (.seq Yd
 .ret))))))))),
 [.s 4,.s 5]⟩
theorem ZDX:Zx Proofs.Tryz.prog true ZDW Proofs.Tryz.f45=some XN:=by kernel_rfl
def ZfS:List Hint:=[H [0,3,4],H [0,3,4,8],H [4,5],H [0,3,4,12],H [4,5],H [0,3,4,16],H [4,5],H [3,4,6],H [3,4,6,27],H [4,5],H [4,5]]
def ZZd:PC :=
 (.reg [0,3,4] [I 3 (.box (.s 1)),I 4 (.box (.v ZT)),I 5 (.mv (V 0))])
def ZZe:PC :=
 (.reg [0,3,4,8] [I 7 (.mv (.s 0)),I 8 (.eqs false 3 [] (.s 7) (.v .nilptr))])
def ZZf:PC :=
 (.reg [4,5] [I 9 (.build [(.int .u64 0),(.int .i64 0),(.int .i64 0),(.int .i64 0),(.int .i64 0),(.str []),.nils] []),J (.st 7 (.s 4) (.s 9)),I 5 (.mv (V 1))])
def ZZg:PC :=
 (.reg [0,3,4,12] [I 10 (.ld true 5 (.s 3)),I 11 (.build [(.int .u64 0),(.int .i64 0),(.int .i64 0),(.int .i64 0),(.int .i64 0)] []),I 12 (.eqs false 0 [(0,0),(1,0),(2,0),(3,0),(4,0)] (.s 10) (.s 11))])
def ZZh:PC :=
 (.reg [4,5] [I 13 (.build [(.int .u64 0),(.int .i64 0),(.int .i64 0),(.int .i64 0),(.int .i64 0),(.str []),.nils] []),J (.st 7 (.s 4) (.s 13)),I 5 (.mv (V 0))])
def ZZi:PC :=
 (.reg [0,3,4,16] [I 14 (.fadr 0 (.s 3)),I 15 (.ld false 1 (.s 14)),I 16 (.bin .eql (.s 15) (.v (.int .u64 0)))])
def ZZj:PC :=
 (.reg [4,5] [I 17 (.build [(.int .u64 0),(.int .i64 0),(.int .i64 0),(.int .i64 0),(.int .i64 0),(.str []),.nils] []),J (.st 7 (.s 4) (.s 17)),I 5 (.mv (V 2))])
def ZZk:PC :=
 (.reg [3,4,6] [I 18 (.mv (.s 0)),I 19 (.fadr 0 (.s 3)),I 20 (.ld false 1 (.s 19)),I 21 (.fadr 1 (.s 3)),I 22 (.ld false 1 (.s 21)),I 23 (.fadr 2 (.s 3)),I 24 (.ld true 3 (.s 23)),I 25 (C ZDn [(.s 18),(.s 20),(.s 22),(.s 24)]),I 6 (.mv (.s 25))])
def ZZl:PC :=
 (.reg [3,4,6,27] [I 26 (.mv (.s 6)),I 27 (.bin .neq (.s 26) (V 0))])
def ZZm:PC :=
 (.reg [4,5] [I 28 (.build [(.int .u64 0),(.int .i64 0),(.int .i64 0),(.int .i64 0),(.int .i64 0),(.str []),.nils] []),I 29 (.mv (.s 6)),J (.st 7 (.s 4) (.s 28)),I 5 (.mv (.s 29))])
def ZWl:PC :=
 (.reg [4,5] [I 30 (.fadr 0 (.s 3)),I 31 (.ld false 1 (.s 30)),I 32 (.fadr 1 (.s 3)),I 33 (.ld false 1 (.s 32)),I 34 (.fadr 2 (.s 3)),I 35 (.ld true 3 (.s 34)),I 36 (.build [(.int .u64 0),(.int .i64 0),(.int .i64 0),(.int .i64 0),(.int .i64 0),(.str []),.nils] [(0,1,(.s 31)),(1,1,(.s 33)),(2,3,(.s 35))]),J (.st 7 (.s 4) (.s 36)),I 5 (.mv (V 0))])
def ZSm:PF:=⟨false,
 (.seq ZZd
 (.seq (.seq ZZe
 (.ite (.s 8)
 (.seq ZZf
 .ret)
 .skip))
 (.seq (.seq ZZg
 (.ite (.s 12)
 (.seq ZZh
 .ret)
 .skip))
 (.seq (.seq ZZi
 (.ite (.s 16)
 (.seq ZZj
 .ret)
 .skip))
 (.seq (.seq ZZk
 (.seq ZZl
 (.ite (.s 27)
 (.seq ZZm
 .ret)
 .skip)))
 (.seq ZWl
 .ret)))))),
 [.c 4 true 7,.s 5]⟩
theorem ZfT:Zx Proofs.Tryz.prog false ZfS Proofs.Tryz.f46=some ZSm:=by kernel_rfl
def ZNn:List Hint:=[H [0,1],H [4]]
def ZJ8:PC :=
 (.reg [0,1] [I 4 (.mv (V 0))])
def ZJ9:PC :=
 (.reg [4] [I 5 (.mv (.s 0)),I 6 (.cint .u64 (.s 5)),I 7 (.mv (.s 1)),I 8 (.bin .add (.s 7) (V 1)),I 9 (.cint .u64 (.s 8)),I 10 (.bin .rem (.s 6) (.s 9)),I 11 (.cint .i64 (.s 10)),I 4 (.mv (.s 11))])
def ZCn:PF:=⟨false,
 (.seq ZJ8
 (.seq ZJ9
 .ret)),
 [.s 4]⟩
theorem ZNo:Zx Proofs.Tryz.prog false ZNn Proofs.Tryz.f47=some ZCn:=by kernel_rfl
def ZKA:List Hint:=[H [0,3],H [5],H [4]]
def ZGE:PC :=
 (.reg [0,3] [I 3 (.box (.s 1)),I 4 (.mv (V 0))])
def ZGF:PC :=
 (.reg [5] [I 8 (.mv (.s 0)),I 9 (.ld true 7 (.s 3)),I 10 (C ZI8 [(.s 8),(.s 9)]),I 7 (.mv (.s 10)),I 11 (.ext (.s 7) 0),I 12 (.ext (.s 7) 1),I 5 (.mv (.s 11)),I 6 (.mv (.s 12))])
def ZGG:PC :=
 (.reg [4] [I 13 (.mv (.s 5)),I 14 (.len 0 (.s 13)),I 4 (.mv (.s 14))])
def ZA5:PF:=⟨false,
 (.seq ZGE
 (.seq ZGF
 (.seq ZGG
 .ret))),
 [.s 4]⟩
theorem ZKB:Zx Proofs.Tryz.prog false ZKA Proofs.Tryz.f48=some ZA5:=by kernel_rfl
def ZZn:List Hint:=[H [0,4,5,6],H [0,4,5,6,8],H [0,4,5,6,8,16],H [6,7],H [6,9,10],H [6,7]]
def ZTJ:PC :=
 (.reg [0,4,5,6] [I 4 (.box (.s 1)),I 5 (.box (.s 2)),I 6 (.box (.v ZT)),I 7 (.mv (V 0))])
def ZTK:PC :=
 (.reg [0,4,5,6,8] [I 11 (.mv (.s 0)),I 12 (.ld true 7 (.s 4)),I 13 (.ld true 7 (.s 5)),I 14 (C ZI9 [(.s 11),(.s 12),(.s 13),(.v (.bool true))]),I 8 (.mv (.s 14))])
def ZTL:PC :=
 (.reg [0,4,5,6,8,16] [I 15 (.mv (.s 8)),I 16 (.bin .neq (.s 15) (V 0))])
def ZTM:PC :=
 (.reg [6,7] [I 17 (.build [(.int .u64 0),(.int .i64 0),(.int .i64 0),(.int .i64 0),(.int .i64 0),(.str []),.nils] []),I 18 (.mv (.s 8)),J (.st 7 (.s 6) (.s 17)),I 7 (.mv (.s 18))])
def ZTN:PC :=
 (.reg [6,9,10] [I 20 (.mv (.s 0)),I 21 (.ld true 7 (.s 4)),I 22 (.ld true 7 (.s 5)),I 23 (C J9 [(.s 20),(.s 21),(.s 22)]),I 19 (.mv (.s 23)),I 24 (.ext (.s 19) 0),I 25 (.ext (.s 19) 1),I 9 (.box (.v ZT)),J (.st 7 (.s 9) (.s 24)),I 10 (.mv (.s 25))])
def ZTO:PC :=
 (.reg [6,7] [I 26 (.ld true 7 (.s 9)),I 27 (C XA [(.s 26)]),I 28 (.mv (.s 10)),J (.st 7 (.s 6) (.s 27)),I 7 (.mv (.s 28))])
def ZNE:PF:=⟨false,
 (.seq ZTJ
 (.seq (.seq ZTK
 (.seq ZTL
 (.ite (.s 16)
 (.seq ZTM
 .ret)
 .skip)))
 (.seq ZTN
 (.seq ZTO
 .ret)))),
 [.c 6 true 7,.s 7]⟩
theorem ZZo:Zx Proofs.Tryz.prog false ZZn Proofs.Tryz.f49=some ZNE:=by kernel_rfl
def Zg7:List Hint:=[H [0,2,4,6,7],H [0,2,4,6,7,9],H [0,2,4,6,7,9,16],H [6,7,8],H [0,2,4,6,7,27],H [6,7,8],H [6,7,8,10,11],⟨[6,7,8],[],[(1,.pure)],[],[],[]⟩]
def ZdB:PC :=
 (.reg [0,2,4,6,7] [I 4 (.box (.s 1)),I 6 (.box (.v ZT)),I 7 (.box (.v ZT)),I 8 (.mv (V 0))])
def ZdC:PC :=
 (.reg [0,2,4,6,7,9] [I 12 (.mv (.s 0)),I 13 (.ld true 7 (.s 4)),I 14 (C Jh [(.s 12),(.s 13)]),I 9 (.mv (.s 14))])
def ZdD:PC :=
 (.reg [0,2,4,6,7,9,16] [I 15 (.mv (.s 9)),I 16 (.bin .neq (.s 15) (V 0))])
def ZdE:PC :=
 (.reg [6,7,8] [I 17 (.build [(.int .u64 0),(.int .i64 0),(.int .i64 0),(.int .i64 0),(.int .i64 0),(.str []),.nils] []),I 18 (.build [(.int .u64 0),(.int .i64 0),(.int .i64 0),(.int .i64 0),(.int .i64 0),(.str []),.nils] []),I 19 (.mv (.s 9)),J (.st 7 (.s 6) (.s 17)),J (.st 7 (.s 7) (.s 18)),I 8 (.mv (.s 19))])
def ZdF:PC :=
 (.reg [0,2,4,6,7,27] [I 20 (.mv (.s 2)),I 21 (.bin .lss (.s 20) (V 0)),I 22 (.mv (.s 21)),G 23 22 false (.mv (.s 2)),G 24 22 false (.ld true 7 (.s 4)),G 25 22 false (C QV [(.s 24)]),G 26 22 false (.bin .gtr (.s 23) (.s 25)),I 27 (.pick (.s 22) (.v (.bool true)) (.s 26))])
def ZdG:PC :=
 (.reg [6,7,8] [I 28 (.build [(.int .u64 0),(.int .i64 0),(.int .i64 0),(.int .i64 0),(.int .i64 0),(.str []),.nils] []),I 29 (.build [(.int .u64 0),(.int .i64 0),(.int .i64 0),(.int .i64 0),(.int .i64 0),(.str []),.nils] []),J (.st 7 (.s 6) (.s 28)),J (.st 7 (.s 7) (.s 29)),I 8 (.mv (V 3))])
def ZdH:PC :=
 (.reg [6,7,8,10,11] [I 31 (.mv (.s 0)),I 32 (.ld true 7 (.s 4)),I 33 (.mv (.s 2)),I 34 (C Xy [(.s 31),(.s 32),(.s 33)]),I 30 (.mv (.s 34)),I 35 (.ext (.s 30) 0),I 36 (.ext (.s 30) 1),I 37 (.ext (.s 30) 2),I 10 (.box (.v ZT)),I 11 (.box (.v ZT)),J (.st 7 (.s 10) (.s 35)),J (.st 7 (.s 11) (.s 36)),I 8 (.mv (.s 37))])
def ZdI:PC :=
 (.reg [6,7,8] [I 38 (.ld true 7 (.s 10)),I 39 (.call .pure (.v (.func (.func XA) [] [])) [(.s 38)]),I 40 (.ld true 7 (.s 11)),I 41 (C XA [(.s 40)]),I 42 (.mv (.s 8)),J (.st 7 (.s 6) (.s 39)),J (.st 7 (.s 7) (.s 41)),I 8 (.mv (.s 42))])
def ZWm:PF:=⟨false,
 (.seq ZdB
 (.seq (.seq ZdC
 (.seq ZdD
 (.ite (.s 16)
 (.seq ZdE
 .ret)
 .skip)))
 (.seq (.seq ZdF
 (.ite (.s 27)
 (.seq ZdG
 .ret)
 .skip))
 (.seq ZdH
 (.seq ZdI
 .ret))))),
 [.c 6 true 7,.c 7 true 7,.s 8]⟩
theorem Zg8:Zx Proofs.Tryz.prog false Zg7 Proofs.Tryz.f50=some ZWm:=by kernel_rfl
def ZWn:List Hint:=[H [0,2,3,4,6,10],H [0,2,3,4,6,10,12],H [0,2,3,4,6,10,12,24],H [10,11],H [0,2,3,4,6,10,13],H [0,2,3,4,6,10,13,46],H [10,11],H [0,2,3,4,6,10,60],H [10,11],H [0,2,3,4,6,10,67],H [10,11],H [0,3,4,10,14,15,16],H [0,3,4,10,14,15,16,79],H [10,11],H [0,4,10,14,16,18],H [0,4,10,14,16,18,91],H [10,11],H [0,10,14,16,18,19],H [0,10,14,16,18,19,100],H [10,11],H [0,10,14,16,18],H [0,10,14,16,18,111],H [10,11],H [10,14,16],H [10,11]]
def ZQ7:PC :=
 (.reg [0,2,3,4,6,10] [I 6 (.box (.s 1)),I 10 (.box (.v ZT)),I 11 (.mv (V 0))])
def ZQ8:PC :=
 (.reg [0,2,3,4,6,10,12] [I 20 (.mv (.s 0)),I 21 (.ld true 7 (.s 6)),I 22 (C Jh [(.s 20),(.s 21)]),I 12 (.mv (.s 22))])
def ZQ9:PC :=
 (.reg [0,2,3,4,6,10,12,24] [I 23 (.mv (.s 12)),I 24 (.bin .neq (.s 23) (V 0))])
def ZRA:PC :=
 (.reg [10,11] [I 25 (.build [(.int .u64 0),(.int .i64 0),(.int .i64 0),(.int .i64 0),(.int .i64 0),(.str []),.nils] []),I 26 (.mv (.s 12)),J (.st 7 (.s 10) (.s 25)),I 11 (.mv (.s 26))])
def ZRB:PC :=
 (.reg [0,2,3,4,6,10,13] [I 27 (.ld true 7 (.s 6)),I 28 (C QV [(.s 27)]),I 13 (.mv (.s 28))])
def ZRC:PC :=
 (.reg [0,2,3,4,6,10,13,46] [I 29 (.mv (.s 2)),I 30 (.bin .lss (.s 29) (V 0)),I 31 (.mv (.s 30)),G 32 31 false (.mv (.s 2)),G 33 31 false (.mv (.s 13)),G 34 31 false (.bin .gtr (.s 32) (.s 33)),I 35 (.pick (.s 31) (.v (.bool true)) (.s 34)),I 36 (.mv (.s 35)),G 37 36 false (.mv (.s 3)),G 38 36 false (.bin .lss (.s 37) (V 0)),I 39 (.pick (.s 36) (.v (.bool true)) (.s 38)),I 40 (.mv (.s 39)),G 41 40 false (.mv (.s 3)),G 42 40 false (.mv (.s 13)),G 43 40 false (.mv (.s 2)),G 44 40 false (.bin .sub (.s 42) (.s 43)),G 45 40 false (.bin .gtr (.s 41) (.s 44)),I 46 (.pick (.s 40) (.v (.bool true)) (.s 45))])
def ZRD:PC :=
 (.reg [10,11] [I 47 (.build [(.int .u64 0),(.int .i64 0),(.int .i64 0),(.int .i64 0),(.int .i64 0),(.str []),.nils] []),J (.st 7 (.s 10) (.s 47)),I 11 (.mv (V 3))])
def ZRE:PC :=
 (.reg [0,2,3,4,6,10,60] [I 48 (.mv (.s 13)),I 49 (.mv (.s 3)),I 50 (.bin .sub (.s 48) (.s 49)),I 51 (.mv (.s 4)),I 52 (.len 0 (.s 51)),I 53 (.mnx false (.s 52) (V 65536)),I 54 (.bin .sub (V 65536) (.s 53)),I 55 (.bin .gtr (.s 50) (.s 54)),I 56 (.mv (.s 55)),G 57 56 false (.mv (.s 4)),G 58 56 false (.len 0 (.s 57)),G 59 56 false (.bin .gtr (.s 58) (V 65536)),I 60 (.pick (.s 56) (.v (.bool true)) (.s 59))])
def ZRF:PC :=
 (.reg [10,11] [I 61 (.build [(.int .u64 0),(.int .i64 0),(.int .i64 0),(.int .i64 0),(.int .i64 0),(.str []),.nils] []),J (.st 7 (.s 10) (.s 61)),I 11 (.mv (V 5))])
def ZRG:PC :=
 (.reg [0,2,3,4,6,10,67] [I 62 (.mv (.s 3)),I 63 (.bin .eql (.s 62) (V 0)),I 64 (.mv (.s 63)),G 65 64 true (.mv (.s 4)),G 66 64 true (.bin .eql (.s 65) (.v (.str []))),I 67 (.pick (.s 64) (.s 66) (.v (.bool false)))])
def ZPI:PC :=
 (.reg [10,11] [I 68 (.ld true 7 (.s 6)),I 69 (C XA [(.s 68)]),J (.st 7 (.s 10) (.s 69)),I 11 (.mv (V 0))])
def ZPJ:PC :=
 (.reg [0,3,4,10,14,15,16] [I 71 (.mv (.s 0)),I 72 (.ld true 7 (.s 6)),I 73 (.mv (.s 2)),I 74 (C Xy [(.s 71),(.s 72),(.s 73)]),I 70 (.mv (.s 74)),I 75 (.ext (.s 70) 0),I 76 (.ext (.s 70) 1),I 77 (.ext (.s 70) 2),I 14 (.box (.v ZT)),I 15 (.box (.v ZT)),J (.st 7 (.s 14) (.s 75)),J (.st 7 (.s 15) (.s 76)),I 16 (.mv (.s 77))])
def ZPK:PC :=
 (.reg [0,3,4,10,14,15,16,79] [I 78 (.mv (.s 16)),I 79 (.bin .neq (.s 78) (V 0))])
def ZPL:PC :=
 (.reg [10,11] [I 80 (.build [(.int .u64 0),(.int .i64 0),(.int .i64 0),(.int .i64 0),(.int .i64 0),(.str []),.nils] []),I 81 (.mv (.s 16)),J (.st 7 (.s 10) (.s 80)),I 11 (.mv (.s 81))])
def ZPM:PC :=
 (.reg [0,4,10,14,16,18] [I 83 (.mv (.s 0)),I 84 (.ld true 7 (.s 15)),I 85 (.mv (.s 3)),I 86 (C Xy [(.s 83),(.s 84),(.s 85)]),I 82 (.mv (.s 86)),I 87 (.ext (.s 82) 0),I 88 (.ext (.s 82) 1),I 89 (.ext (.s 82) 2),I 17 (.box (.v ZT)),I 18 (.box (.v ZT)),J (.st 7 (.s 17) (.s 87)),J (.st 7 (.s 18) (.s 88)),I 16 (.mv (.s 89))])
def ZPN:PC :=
 (.reg [0,4,10,14,16,18,91] [I 90 (.mv (.s 16)),I 91 (.bin .neq (.s 90) (V 0))])
def ZPO:PC :=
 (.reg [10,11] [I 92 (.build [(.int .u64 0),(.int .i64 0),(.int .i64 0),(.int .i64 0),(.int .i64 0),(.str []),.nils] []),I 93 (.mv (.s 16)),J (.st 7 (.s 10) (.s 92)),I 11 (.mv (.s 93))])
def ZPP:PC :=
 (.reg [0,10,14,16,18,19] [I 95 (.mv (.s 4)),I 96 (C ZAH [(.s 95)]),I 94 (.mv (.s 96)),I 97 (.ext (.s 94) 0),I 98 (.ext (.s 94) 1),I 19 (.box (.v ZT)),J (.st 7 (.s 19) (.s 97)),I 16 (.mv (.s 98))])
def ZPQ:PC :=
 (.reg [0,10,14,16,18,19,100] [I 99 (.mv (.s 16)),I 100 (.bin .neq (.s 99) (V 0))])
def ZPR:PC :=
 (.reg [10,11] [I 101 (.build [(.int .u64 0),(.int .i64 0),(.int .i64 0),(.int .i64 0),(.int .i64 0),(.str []),.nils] []),I 102 (.mv (.s 16)),J (.st 7 (.s 10) (.s 101)),I 11 (.mv (.s 102))])
def ZPS:PC :=
 (.reg [0,10,14,16,18] [I 104 (.mv (.s 0)),I 105 (.ld true 7 (.s 14)),I 106 (.ld true 7 (.s 19)),I 107 (C J9 [(.s 104),(.s 105),(.s 106)]),I 103 (.mv (.s 107)),I 108 (.ext (.s 103) 0),I 109 (.ext (.s 103) 1),J (.st 7 (.s 14) (.s 108)),I 16 (.mv (.s 109))])
def ZPT:PC :=
 (.reg [0,10,14,16,18,111] [I 110 (.mv (.s 16)),I 111 (.bin .neq (.s 110) (V 0))])
def ZPU:PC :=
 (.reg [10,11] [I 112 (.build [(.int .u64 0),(.int .i64 0),(.int .i64 0),(.int .i64 0),(.int .i64 0),(.str []),.nils] []),I 113 (.mv (.s 16)),J (.st 7 (.s 10) (.s 112)),I 11 (.mv (.s 113))])
def ZPV:PC :=
 (.reg [10,14,16] [I 115 (.mv (.s 0)),I 116 (.ld true 7 (.s 14)),I 117 (.ld true 7 (.s 18)),I 118 (C J9 [(.s 115),(.s 116),(.s 117)]),I 114 (.mv (.s 118)),I 119 (.ext (.s 114) 0),I 120 (.ext (.s 114) 1),J (.st 7 (.s 14) (.s 119)),I 16 (.mv (.s 120))])
def ZPW:PC :=
 (.reg [10,11] [I 121 (.ld true 7 (.s 14)),I 122 (C XA [(.s 121)]),I 123 (.mv (.s 16)),J (.st 7 (.s 10) (.s 122)),I 11 (.mv (.s 123))])
def ZKC:PF:=⟨false,
 (.seq ZQ7
 (.seq (.seq ZQ8
 (.seq ZQ9
 (.ite (.s 24)
 (.seq ZRA
 .ret)
 .skip)))
 (.seq ZRB
 (.seq (.seq ZRC
 (.ite (.s 46)
 (.seq ZRD
 .ret)
 .skip))
 (.seq (.seq ZRE
 (.ite (.s 60)
 (.seq ZRF
 .ret)
 .skip))
 (.seq (.seq ZRG
 (.ite (.s 67)
 (.seq ZPI
 .ret)
 .skip))
 (.seq ZPJ
 (.seq (.seq ZPK
 (.ite (.s 79)
 (.seq ZPL
 .ret)
 .skip))
 (.seq ZPM
 (.seq (.seq ZPN
 (.ite (.s 91)
 (.seq ZPO
 .ret)
 .skip))
 (.seq ZPP
 (.seq (.seq ZPQ
 (.ite (.s 100)
 (.seq ZPR
 .ret)
 .skip))
 (.seq (.seq ZPS
 (.seq ZPT
 (.ite (.s 111)
 (.seq ZPU
 .ret)
 .skip)))
 (.seq ZPV
 (.seq ZPW
 .ret))))))))))))))),
 [.c 10 true 7,.s 11]⟩
theorem ZWo:Zx Proofs.Tryz.prog false ZWn Proofs.Tryz.f51=some ZKC:=by kernel_rfl
def ZNp:List Hint:=[H [1,2],⟨[1,2,3],[0],[],[],[],[]⟩,H [1,2,3,4],H [1,2,3,4,9],H [1,2,3,4],H [1,2,3,4],H [1,2],H [2]]
def ZKD:PC :=
 (.reg [1,2] [I 1 (.box (.s 0)),I 2 (.box (.v ZT))])
def ZKE:PC :=
 (.reg [1,2,3] [I 3 (.onil 7)])
def ZKF:PC :=
 (.reg [1,2,3,4] [I 4 (.mv (V 0))])
def ZKG:PC :=
 (.reg [1,2,3,4,9] [I 5 (.mv (.s 4)),I 6 (.fadr 6 (.s 1)),I 7 (.ld false 1 (.s 6)),I 8 (.len 1 (.s 7)),I 9 (.bin .lss (.s 5) (.s 8))])
def ZKH:PC :=
 (.reg [1,2,3,4] [I 12 (.mv (.s 3)),I 13 (.fadr 6 (.s 1)),I 14 (.ld false 1 (.s 13)),I 15 (.mv (.s 4)),I 16 (.ixS 7 (.s 14) (.s 15)),I 17 (.ld true 7 (.s 16)),I 18 (C YQ [(.s 17)]),I 19 (.bslice false 7 [ZT] [(0,(.s 18))]),I 20 (.app 7 80 (.s 12) (.s 19)),I 3 (.mv (.s 20))])
def ZKI:PC :=
 (.reg [1,2,3,4] [I 10 (.mv (.s 4)),I 11 (.bin .add (.s 10) (V 1)),I 4 (.mv (.s 11))])
def ZKJ:PC :=
 (.seq (.seq ZKG
 (.ite (.s 9)
 .skip
 (.exit 0)))
 (.seq (.block 1
 ZKH)
 ZKI))
def ZKK:PC :=
 (.reg [1,2] [I 21 (.mv (.s 3)),I 22 (.fadr 6 (.s 1)),J (.st 1 (.s 22) (.s 21))])
def ZKL:PC :=
 (.reg [2] [I 23 (.ld true 7 (.s 1)),J (.st 7 (.s 2) (.s 23))])
def ZCo:PF:=⟨false,
 (.seq ZKD
 (.seq ZKE
 (.seq (.seq ZKF
 (.block 0
 (.loop ZKJ)))
 (.seq ZKK
 (.seq ZKL
 .ret))))),
 [.c 2 true 7]⟩
theorem ZNq:Zx Proofs.Tryz.prog false ZNp Proofs.Tryz.f52=some ZCo:=by kernel_rfl
def ZPX:List Hint:=[H [0,1,4],H [0,1,4,9],H [4,5],H [0,4,6,7],H [0,4,6,21],H [4],H [4,5],H [4,6],H [4,5]]
def ZMN:PC :=
 (.reg [0,1,4] [I 4 (.box (.v ZN)),I 5 (.mv (V 0))])
def ZMO:PC :=
 (.reg [0,1,4,9] [I 8 (.mv (.s 0)),I 9 (.eqs false 3 [] (.s 8) (.v .nilptr))])
def ZMP:PC :=
 (.reg [4,5] [I 10 (.build [(.int .i64 0),(.str []),.nils] []),J (.st 3 (.s 4) (.s 10)),I 5 (.mv (V 1))])
def ZMQ:PC :=
 (.reg [0,4,6,7] [I 12 (.mv (.s 0)),I 13 (.nilck (.s 12)),I 14 (.fadr 2 (.s 13)),I 15 (.ld false 1 (.s 14)),I 16 (.mv (.s 1)),I 17 (.look 0 ZN true (.s 15) (.s 16)),I 11 (.mv (.s 17)),I 18 (.ext (.s 11) 0),I 19 (.ext (.s 11) 1),I 6 (.box (.v ZN)),J (.st 3 (.s 6) (.s 18)),I 7 (.mv (.s 19))])
def ZMR:PC :=
 (.reg [0,4,6,21] [I 20 (.mv (.s 7)),I 21 (.un .not (.s 20))])
def ZMS:PC :=
 (.reg [4] [I 22 (.mv (.s 0)),I 23 (.nilck (.s 22)),I 24 (.fadr 5 (.s 23)),I 25 (.ld false 1 (.s 24)),I 26 (.bin .add (.s 25) (V 1)),I 27 (.nilck (.s 22)),I 28 (.fadr 5 (.s 27)),J (.st 1 (.s 28) (.s 26))])
def ZMT:PC :=
 (.reg [4,5] [I 29 (.build [(.int .i64 0),(.str []),.nils] []),J (.st 3 (.s 4) (.s 29)),I 5 (.mv (V 10))])
def ZMU:PC :=
 (.reg [4,6] [I 30 (.fadr 2 (.s 6)),I 31 (.ld false 1 (.s 30)),I 32 (C Z6 [(.s 31)]),I 33 (.fadr 2 (.s 6)),J (.st 1 (.s 33) (.s 32))])
def ZMV:PC :=
 (.reg [4,5] [I 34 (.ld true 3 (.s 6)),J (.st 3 (.s 4) (.s 34)),I 5 (.mv (V 0))])
def ZDt:PF:=⟨false,
 (.seq ZMN
 (.seq (.seq ZMO
 (.ite (.s 9)
 (.seq ZMP
 .ret)
 .skip))
 (.seq ZMQ
 (.seq (.seq ZMR
 (.ite (.s 21)
 (.seq ZMS
 (.seq ZMT
 .ret))
 .skip))
 (.seq ZMU
 (.seq ZMV
 .ret)))))),
 [.c 4 true 3,.s 5]⟩
theorem ZPY:Zx Proofs.Tryz.prog false ZPX Proofs.Tryz.f53=some ZDt:=by kernel_rfl
def ZZp:List Hint:=[H [1,2,3,4],H [1,2,3,4,16],H [2,3,4],H [3,4],H [3,26,27,28],H [3,26,27,28,29],H [3,6,26,27,28],H [3,26,27,28],H [3,26,27,28]]
def ZTP:PC :=
 (.reg [1,2,3,4] [I 4 (.box (.s 0))])
def ZTQ:PC :=
 (.reg [1,2,3,4,16] [I 7 (.fadr 0 (.s 4)),I 8 (.ld false 1 (.s 7)),I 9 (.bin .neq (.s 8) (.v (.int .u64 0))),I 10 (.mv (.s 9)),G 11 10 true (.ld false 1 (.s 1)),G 12 10 true (.fadr 0 (.s 4)),G 13 10 true (.ld false 1 (.s 12)),G 14 10 true (.look 0 (.bool false) false (.s 11) (.s 13)),G 15 10 true (.un .not (.s 14)),I 16 (.pick (.s 10) (.s 15) (.v (.bool false)))])
def ZTR:PC :=
 (.reg [2,3,4] [I 17 (.ld false 1 (.s 1)),I 18 (.fadr 0 (.s 4)),I 19 (.ld false 1 (.s 18)),J (.mupd 0 (.s 17) (.s 19) (.v (.bool true)))])
def ZTS:PC :=
 (.reg [3,4] [I 20 (.ld false 1 (.s 2)),I 21 (.fadr 0 (.s 4)),I 22 (.ld false 1 (.s 21)),I 23 (.bslice false 1 [(.int .u64 0)] [(0,(.s 22))]),I 24 (.app 1 8 (.s 20) (.s 23)),J (.st 1 (.s 2) (.s 24))])
def ZHQ:PC :=
 (.reg [3,26,27,28] [I 25 (.fadr 6 (.s 4)),I 26 (.ld false 1 (.s 25)),I 27 (.len 1 (.s 26)),I 28 (.mv (V 0))])
def ZTT:PC :=
 (.reg [3,26,27,28,29] [I 29 (.bin .lss (.s 28) (.s 27))])
def ZTU:PC :=
 (.reg [3,6,26,27,28] [I 30 (.ixS 7 (.s 26) (.s 28)),I 31 (.ld true 7 (.s 30)),I 6 (.box (.v ZT)),J (.st 7 (.s 6) (.s 31))])
def ZTV:PC :=
 (.reg [3,26,27,28] [I 32 (.ld false 1 (.s 3)),I 33 (.ld true 7 (.s 6)),I 34 (.call .norm (.s 32) [(.s 33)])])
def ZTW:PC :=
 (.reg [3,26,27,28] [I 35 (.bin .add (.s 28) (V 1)),I 28 (.mv (.s 35))])
def ZBJ:PC :=
 (.seq ZTT
 (.seq (.ite (.s 29)
 .skip
 (.exit 0))
 (.seq (.block 1
 (.seq ZTU
 ZTV))
 ZTW)))
def ZNF:PF:=⟨false,
 (.seq ZTP
 (.seq (.seq ZTQ
 (.ite (.s 16)
 (.seq ZTR
 ZTS)
 .skip))
 (.seq ZHQ
 (.block 0
 (.loop ZBJ))))),
 []⟩
theorem ZZq:Zx Proofs.Tryz.prog false ZZp Proofs.Tryz.f54=some ZNF:=by kernel_rfl
def ZKM:List Hint:=[H [0,1],H [0,1,8],H [4],H [6],H [4]]
def ZGH:PC :=
 (.reg [0,1] [I 4 (.mv (.v (.bool false)))])
def ZGI:PC :=
 (.reg [0,1,8] [I 7 (.mv (.s 0)),I 8 (.eqs false 3 [] (.s 7) (.v .nilptr))])
def ZGJ:PC :=
 (.reg [4] [I 4 (.mv (.v (.bool false)))])
def ZGK:PC :=
 (.reg [6] [I 10 (.mv (.s 0)),I 11 (.mv (.s 1)),I 12 (C XB [(.s 10),(.s 11)]),I 9 (.mv (.s 12)),I 13 (.ext (.s 9) 0),I 14 (.ext (.s 9) 1),I 5 (.mv (.s 13)),I 6 (.mv (.s 14))])
def ZGL:PC :=
 (.reg [4] [I 15 (.mv (.s 6)),I 4 (.mv (.s 15))])
def ZA6:PF:=⟨false,
 (.seq ZGH
 (.seq (.seq ZGI
 (.ite (.s 8)
 (.seq ZGJ
 .ret)
 .skip))
 (.seq ZGK
 (.seq ZGL
 .ret)))),
 [.s 4]⟩
theorem ZKN:Zx Proofs.Tryz.prog false ZKM Proofs.Tryz.f55=some ZA6:=by kernel_rfl
def ZNr:List Hint:=[H [0],⟨[0,3],[0],[],[],[],[]⟩,H [0,3,4],H [0,3,4,8],H [0,3,4,17],H [0,3,4],H [0,3,4],H [2]]
def ZKO:PC :=
 (.reg [0] [I 2 (.mv (.v .nils))])
def ZKP:PC :=
 (.reg [0,3] [I 3 (.onil 1)])
def ZKQ:PC :=
 (.reg [0,3,4] [I 4 (.mv (V 0))])
def ZKR:PC :=
 (.reg [0,3,4,8] [I 5 (.mv (.s 4)),I 6 (.mv (.s 0)),I 7 (.len 1 (.s 6)),I 8 (.bin .lss (.s 5) (.s 7))])
def ZKS:PC :=
 (.reg [0,3,4,17] [I 11 (.mv (.s 3)),I 12 (.mv (.s 0)),I 13 (.mv (.s 4)),I 14 (.ixS 1 (.s 12) (.s 13)),I 15 (.ld false 1 (.s 14)),I 16 (C Q6 [(.s 11),(.s 15)]),I 17 (.un .not (.s 16))])
def ZKT:PC :=
 (.reg [0,3,4] [I 18 (.mv (.s 3)),I 19 (.mv (.s 0)),I 20 (.mv (.s 4)),I 21 (.ixS 1 (.s 19) (.s 20)),I 22 (.ld false 1 (.s 21)),I 23 (.bslice false 1 [(.int .u64 0)] [(0,(.s 22))]),I 24 (.app 1 8 (.s 18) (.s 23)),I 3 (.mv (.s 24))])
def ZKU:PC :=
 (.reg [0,3,4] [I 9 (.mv (.s 4)),I 10 (.bin .add (.s 9) (V 1)),I 4 (.mv (.s 10))])
def ZKV:PC :=
 (.seq (.seq ZKR
 (.ite (.s 8)
 .skip
 (.exit 0)))
 (.seq (.block 1
 (.seq ZKS
 (.ite (.s 17)
 ZKT
 .skip)))
 ZKU))
def ZKW:PC :=
 (.reg [2] [I 25 (.mv (.s 3)),I 2 (.mv (.s 25))])
def ZCp:PF:=⟨false,
 (.seq ZKO
 (.seq ZKP
 (.seq (.seq ZKQ
 (.block 0
 (.loop ZKV)))
 (.seq ZKW
 .ret)))),
 [.s 2]⟩
theorem ZNs:Zx Proofs.Tryz.prog false ZNr Proofs.Tryz.f56=some ZCp:=by kernel_rfl
def ZdJ:List Hint:=[H [0,3],H [0,3,7],H [4],H [0,3,10],H [4],H [3,5],H [3,5,15],H [4],H [19],H [4],H [4]]
def ZWp:PC :=
 (.reg [0,3] [I 3 (.box (.s 1)),I 4 (.mv (V 0))])
def ZWq:PC :=
 (.reg [0,3,7] [I 6 (.mv (.s 0)),I 7 (.eqs false 3 [] (.s 6) (.v .nilptr))])
def ZWr:PC :=
 (.reg [4] [I 4 (.mv (V 1))])
def ZWs:PC :=
 (.reg [0,3,10] [I 8 (.ld true 7 (.s 3)),I 9 (C QY [(.s 8)]),I 10 (.bin .eql (.s 9) (V 1))])
def ZWt:PC :=
 (.reg [4] [I 4 (.mv (V 0))])
def ZWu:PC :=
 (.reg [3,5] [I 11 (.mv (.s 0)),I 12 (.ld true 7 (.s 3)),I 13 (C ZBe [(.s 11),(.s 12),(.v (.bool false)),(V 0)]),I 5 (.mv (.s 13))])
def ZWv:PC :=
 (.reg [3,5,15] [I 14 (.mv (.s 5)),I 15 (.bin .neq (.s 14) (V 0))])
def ZWw:PC :=
 (.reg [4] [I 16 (.mv (.s 5)),I 4 (.mv (.s 16))])
def ZWx:PC :=
 (.reg [19] [I 17 (.ld true 7 (.s 3)),I 18 (C QV [(.s 17)]),I 19 (.bin .gtr (.s 18) (V 65536))])
def ZWy:PC :=
 (.reg [4] [I 4 (.mv (V 5))])
def ZTX:PC :=
 (.reg [4] [I 4 (.mv (V 0))])
def ZPZ:PF:=⟨false,
 (.seq ZWp
 (.seq (.seq ZWq
 (.ite (.s 7)
 (.seq ZWr
 .ret)
 .skip))
 (.seq (.seq ZWs
 (.ite (.s 10)
 (.seq ZWt
 .ret)
 .skip))
 (.seq (.seq ZWu
 (.seq ZWv
 (.ite (.s 15)
 (.seq ZWw
 .ret)
 .skip)))
 (.seq (.seq ZWx
 (.ite (.s 19)
 (.seq ZWy
 .ret)
 .skip))
 (.seq ZTX
 .ret)))))),
 [.s 4]⟩
theorem ZdK:Zx Proofs.Tryz.prog false ZdJ Proofs.Tryz.f57=some ZPZ:=by kernel_rfl
def ZdL:List Hint:=[H [0,1,2,3],H [0,1,2,3,16],H [8],H [0,1,2,3],H [0,1,2,3,9,10],H [0,1,2,3,9,10,26],H [8],H [0,2,3,9],H [0,2,3,32,33,34],H [0,2,3,32,33,34,35],H [0,2,3,12,32,33,34],H [0,2,3,13,32,33,34],H [0,2,3,13,32,33,34,45],H [8],H [0,2,3,32,33,34],H [8]]
def ZWz:PC :=
 (.reg [0,1,2,3] [I 8 (.mv (V 0))])
def ZW0:PC :=
 (.reg [0,1,2,3,16] [I 14 (.mv (.s 2)),I 15 (.mv (.s 1)),I 16 (.look 0 (.bool false) false (.s 14) (.s 15))])
def ZW1:PC :=
 (.reg [8] [I 8 (.mv (V 0))])
def ZW2:PC :=
 (.reg [0,1,2,3] [I 17 (.mv (.s 2)),I 18 (.mv (.s 1)),J (.mupd 0 (.s 17) (.s 18) (.v (.bool true)))])
def ZW3:PC :=
 (.reg [0,1,2,3,9,10] [I 20 (.mv (.s 0)),I 21 (.mv (.s 1)),I 22 (C Q7 [(.s 20),(.s 21)]),I 19 (.mv (.s 22)),I 23 (.ext (.s 19) 0),I 24 (.ext (.s 19) 1),I 9 (.box (.v ZN)),J (.st 3 (.s 9) (.s 23)),I 10 (.mv (.s 24))])
def ZW4:PC :=
 (.reg [0,1,2,3,9,10,26] [I 25 (.mv (.s 10)),I 26 (.bin .neq (.s 25) (V 0))])
def ZW5:PC :=
 (.reg [8] [I 27 (.mv (.s 10)),I 8 (.mv (.s 27))])
def ZW6:PC :=
 (.reg [0,2,3,9] [I 28 (.mv (.s 3)),I 29 (.mv (.s 1)),I 30 (.call .norm (.s 28) [(.s 29)])])
def ZW7:PC :=
 (.reg [0,2,3,32,33,34] [I 31 (.fadr 2 (.s 9)),I 32 (.ld false 1 (.s 31)),I 33 (.len 1 (.s 32)),I 34 (.mv (V 0))])
def ZW8:PC :=
 (.reg [0,2,3,32,33,34,35] [I 35 (.bin .lss (.s 34) (.s 33))])
def ZTY:PC :=
 (.reg [0,2,3,12,32,33,34] [I 36 (.ixS 4 (.s 32) (.s 34)),I 37 (.ld true 4 (.s 36)),I 12 (.box (.v ZK)),J (.st 4 (.s 12) (.s 37))])
def ZTZ:PC :=
 (.reg [0,2,3,13,32,33,34] [I 38 (.mv (.s 0)),I 39 (.fadr 0 (.s 12)),I 40 (.ld false 1 (.s 39)),I 41 (.mv (.s 2)),I 42 (.mv (.s 3)),I 43 (C JQ [(.s 38),(.s 40),(.s 41),(.s 42)]),I 13 (.mv (.s 43))])
def ZTa:PC :=
 (.reg [0,2,3,13,32,33,34,45] [I 44 (.mv (.s 13)),I 45 (.bin .neq (.s 44) (V 0))])
def ZTb:PC :=
 (.reg [8] [I 46 (.mv (.s 13)),I 8 (.mv (.s 46))])
def ZTc:PC :=
 (.reg [0,2,3,32,33,34] [I 47 (.bin .add (.s 34) (V 1)),I 34 (.mv (.s 47))])
def ZTd:PC :=
 (.seq ZW8
 (.seq (.ite (.s 35)
 .skip
 (.exit 0))
 (.seq (.block 1
 (.seq ZTY
 (.seq ZTZ
 (.seq ZTa
 (.ite (.s 45)
 (.seq ZTb
 .ret)
 .skip)))))
 ZTc)))
def ZTe:PC :=
 (.reg [8] [I 8 (.mv (V 0))])
def ZPa:PF:=⟨false,
 (.seq ZWz
 (.seq (.seq ZW0
 (.ite (.s 16)
 (.seq ZW1
 .ret)
 .skip))
 (.seq ZW2
 (.seq ZW3
 (.seq (.seq ZW4
 (.ite (.s 26)
 (.seq ZW5
 .ret)
 .skip))
 (.seq ZW6
 (.seq (.seq ZW7
 (.block 0
 (.loop ZTd)))
 (.seq ZTe
 .ret)))))))),
 [.s 8]⟩
theorem ZdM:Zx Proofs.Tryz.prog false ZdL Proofs.Tryz.f58=some ZPa:=by kernel_rfl
def ZRH:List Hint:=[]
def ZEg:PF:=⟨false,
 .skip,
 []⟩
theorem ZRI:Zx Proofs.Tryz.prog false ZRH Proofs.Tryz.f59=some ZEg:=by kernel_rfl
def ZRJ:List Hint:=[H [0,2,7],H []]
def ZNt:PC :=
 (.reg [0,2,7] [I 4 (.ld false 1 (.s 1)),I 5 (.mv (.s 0)),I 6 (.look 0 (.bool false) false (.s 4) (.s 5)),I 7 (.un .not (.s 6))])
def ZNu:PC :=
 (.reg [] [I 8 (.ld false 1 (.s 2)),I 9 (.mv (.s 0)),I 10 (.bslice false 1 [(.int .u64 0)] [(0,(.s 9))]),I 11 (.app 1 8 (.s 8) (.s 10)),J (.st 1 (.s 2) (.s 11))])
def ZEh:PF:=⟨false,
 (.seq ZNt
 (.ite (.s 7)
 ZNu
 .skip)),
 []⟩
theorem ZRK:Zx Proofs.Tryz.prog false ZRJ Proofs.Tryz.f60=some ZEh:=by kernel_rfl
def ZfU:List Hint:=[H [2,3],H [2,3,6],H [2,3,6,14],H [4,5],⟨[2,3,7],[0],[],[],[],[]⟩,H [2,3,7,8],H [3,7,8],H [3,7,8,19],H [4,5],H [7,9],H [7,9,24],H [4,5],H [4,5]]
def ZZr:PC :=
 (.reg [2,3] [I 2 (.box (.s 0)),I 3 (.box (.s 1)),I 4 (.mv (.v (.str []))),I 5 (.mv (V 0))])
def ZZs:PC :=
 (.reg [2,3,6] [I 10 (.ld false 1 (.s 2)),I 11 (.ld true 7 (.s 3)),I 12 (C Jh [(.s 10),(.s 11)]),I 6 (.mv (.s 12))])
def ZZt:PC :=
 (.reg [2,3,6,14] [I 13 (.mv (.s 6)),I 14 (.bin .neq (.s 13) (V 0))])
def ZZu:PC :=
 (.reg [4,5] [I 15 (.mv (.s 6)),I 4 (.mv (.v (.str []))),I 5 (.mv (.s 15))])
def ZZv:PC :=
 (.reg [2,3,7] [I 7 (.boxnil 1)])
def ZZw:PC :=
 (.reg [2,3,7,8] [I 8 (.box (.v .nilfunc))])
def ZZx:PC :=
 (.reg [3,7,8] [I 16 (.mkf (.func Yj) [] [(.s 2),(.s 7),(.s 8)]),J (.st 1 (.s 8) (.s 16))])
def ZZy:PC :=
 (.reg [3,7,8,19] [I 17 (.ld true 7 (.s 3)),I 18 (C QY [(.s 17)]),I 19 (.bin .eql (.s 18) (V 1))])
def ZZz:PC :=
 (.reg [4,5] [I 4 (.mv (.v (.str []))),I 5 (.mv (V 0))])
def ZZ0:PC :=
 (.reg [7,9] [I 20 (.ld false 1 (.s 8)),I 21 (.ld true 7 (.s 3)),I 22 (.call .norm (.s 20) [(.s 21)]),I 9 (.mv (.s 22))])
def ZW9:PC :=
 (.reg [7,9,24] [I 23 (.mv (.s 9)),I 24 (.bin .neq (.s 23) (V 0))])
def ZXA:PC :=
 (.reg [4,5] [I 25 (.mv (.s 9)),I 4 (.mv (.v (.str []))),I 5 (.mv (.s 25))])
def ZXB:PC :=
 (.reg [4,5] [I 26 (.ld false 1 (.s 7)),I 27 (.b2s (.s 26)),I 4 (.mv (.s 27)),I 5 (.mv (V 0))])
def ZSn:PF:=⟨false,
 (.seq ZZr
 (.seq (.seq ZZs
 (.seq ZZt
 (.ite (.s 14)
 (.seq ZZu
 .ret)
 .skip)))
 (.seq ZZv
 (.seq ZZw
 (.seq ZZx
 (.seq (.seq ZZy
 (.ite (.s 19)
 (.seq ZZz
 .ret)
 .skip))
 (.seq (.seq ZZ0
 (.seq ZW9
 (.ite (.s 24)
 (.seq ZXA
 .ret)
 .skip)))
 (.seq ZXB
 .ret)))))))),
 [.s 4,.s 5]⟩
theorem ZfV:Zx Proofs.Tryz.prog false ZfU Proofs.Tryz.f65=some ZSn:=by kernel_rfl
def ZXC:List Hint:=[H [0,1],H [0,1,21],H [4,5],⟨[0,6],[],[],[],[(1,(.here 1)),(5,(.here 5)),(3,(.here 3))],[3,1,5]⟩,H [0,6,31,32],H [0,6,31,32,33],H [0,6,7,31,32],H [0,6,7,31,32],H [0,6,31,32],H [0,6,31,32],H [4,5]]
def ZRL:PC :=
 (.reg [0,1] [I 4 (.mv (.v .nilptr)),I 5 (.mv (V 0))])
def ZRM:PC :=
 (.reg [0,1,21] [I 8 (.mv (.s 0)),I 9 (.bin .lss (.s 8) (V 1)),I 10 (.mv (.s 9)),G 11 10 false (.mv (.s 0)),G 12 10 false (.bin .gtr (.s 11) (V 16384)),I 13 (.pick (.s 10) (.v (.bool true)) (.s 12)),I 14 (.mv (.s 13)),G 15 14 false (.mv (.s 1)),G 16 14 false (.bin .lss (.s 15) (.v (.int .u64 1))),I 17 (.pick (.s 14) (.v (.bool true)) (.s 16)),I 18 (.mv (.s 17)),G 19 18 false (.mv (.s 1)),G 20 18 false (.bin .gtr (.s 19) (.v (.int .u64 4294967295))),I 21 (.pick (.s 18) (.v (.bool true)) (.s 20))])
def ZRN:PC :=
 (.reg [4,5] [I 4 (.mv (.v .nilptr)),I 5 (.mv (V 3))])
def ZRO:PC :=
 (.regH [3,1,5] [0,6] [I 22 (.mv (.s 0)),I 23 (.w (.here 1) (.mkslice 1 8 (.int .i64 0) (.s 22) (.s 22))),I 24 (.mv (.s 0)),I 25 (.w (.here 3) (.mkslice 1 1 (.int .u8 0) (.s 24) (.s 24))),I 26 (.mv (.s 0)),I 27 (.w (.here 5) (.mkslice 1 8 (.int .u64 0) (.s 26) (.s 26))),I 28 (.mv (.s 1)),I 29 (.build [.nils,.nils,.nils,(.int .u64 0)] [(0,1,(.s 23)),(1,1,(.s 25)),(2,1,(.s 27)),(3,1,(.s 28))]),I 30 (.box (.s 29)),I 6 (.mv (.s 30))])
def ZRP:PC :=
 (.reg [0,6,31,32] [I 31 (.mv (.s 0)),I 32 (.mv (V 0))])
def ZRQ:PC :=
 (.reg [0,6,31,32,33] [I 33 (.bin .lss (.s 32) (.s 31))])
def ZRR:PC :=
 (.reg [0,6,7,31,32] [I 34 (.mv (.s 32)),I 7 (.mv (.s 34))])
def ZRS:PC :=
 (.reg [0,6,7,31,32] [I 35 (.mv (.s 6)),I 36 (.nilck (.s 35)),I 37 (.fadr 0 (.s 36)),I 38 (.ld false 1 (.s 37)),I 39 (.mv (.s 7)),I 40 (.mv (.s 0)),I 41 (.bin .sub (.s 40) (V 1)),I 42 (.mv (.s 7)),I 43 (.bin .sub (.s 41) (.s 42)),I 44 (.ixS 1 (.s 38) (.s 39)),J (.st 1 (.s 44) (.s 43))])
def ZRT:PC :=
 (.reg [0,6,31,32] [I 45 (.mv (.s 6)),I 46 (.nilck (.s 45)),I 47 (.fadr 2 (.s 46)),I 48 (.ld false 1 (.s 47)),I 49 (.mv (.s 7)),I 50 (.ixS 1 (.s 48) (.s 49)),J (.st 1 (.s 50) (.v (.int .u64 1)))])
def ZRU:PC :=
 (.reg [0,6,31,32] [I 51 (.bin .add (.s 32) (V 1)),I 32 (.mv (.s 51))])
def ZPb:PC :=
 (.seq ZRQ
 (.seq (.ite (.s 33)
 .skip
 (.exit 0))
 (.seq (.block 1
 (.seq ZRR
 (.seq ZRS
 ZRT)))
 ZRU)))
def ZPc:PC :=
 (.reg [4,5] [I 52 (.mv (.s 6)),I 4 (.mv (.s 52)),I 5 (.mv (V 0))])
def ZKX:PF:=⟨true,
 (.seq ZRL
 (.seq (.seq ZRM
 (.ite (.s 21)
 (.seq ZRN
 .ret)
 .skip))
 (.seq ZRO
 (.seq (.seq ZRP
 (.block 0
 (.loop ZPb)))
 (.seq ZPc
 .ret))))),
 [.s 4,.s 5]⟩
theorem ZXD:Zx Proofs.Tryz.prog true ZXC Proofs.Tryz.f80=some ZKX:=by kernel_rfl
def ZXE:List Hint:=[H [0],⟨[0,3],[0],[],[],[],[]⟩,H [0,3,8,9,10],H [0,3,8,9,10,11],H [0,3,5,8,9,10],H [0,3,5,8,9,10],H [0,3,8,9,10],H [0,3,8,9,10],H [2]]
def ZRV:PC :=
 (.reg [0] [I 2 (.mv (.v .nils))])
def ZRW:PC :=
 (.reg [0,3] [I 3 (.onil 1)])
def ZRX:PC :=
 (.reg [0,3,8,9,10] [I 6 (.mv (.s 0)),I 7 (.len 0 (.s 6)),I 8 (C ZAy [(.s 7),(V 16)]),I 9 (.len 1 (.s 8)),I 10 (.mv (V 0))])
def ZRY:PC :=
 (.reg [0,3,8,9,10,11] [I 11 (.bin .lss (.s 10) (.s 9))])
def ZRZ:PC :=
 (.reg [0,3,5,8,9,10] [I 12 (.ixS 1 (.s 8) (.s 10)),I 13 (.ld false 1 (.s 12)),I 5 (.mv (.s 13))])
def ZRa:PC :=
 (.reg [0,3,5,8,9,10] [I 14 (.mv (.s 3)),I 15 (.mv (.s 0)),I 16 (.mv (.s 5)),I 17 (.slcS (.s 15) none (some (.s 16))),I 18 (.bslice false 1 [(.str [])] [(0,(.s 17))]),I 19 (.app 1 16 (.s 14) (.s 18)),I 3 (.mv (.s 19))])
def ZRb:PC :=
 (.reg [0,3,8,9,10] [I 20 (.mv (.s 0)),I 21 (.mv (.s 5)),I 22 (.slcS (.s 20) (some (.s 21)) none),I 0 (.mv (.s 22))])
def ZRc:PC :=
 (.reg [0,3,8,9,10] [I 23 (.bin .add (.s 10) (V 1)),I 10 (.mv (.s 23))])
def ZRd:PC :=
 (.seq ZRY
 (.seq (.ite (.s 11)
 .skip
 (.exit 0))
 (.seq (.block 1
 (.seq ZRZ
 (.seq ZRa
 ZRb)))
 ZRc)))
def ZRe:PC :=
 (.reg [2] [I 24 (.mv (.s 3)),I 2 (.mv (.s 24))])
def ZKY:PF:=⟨false,
 (.seq ZRV
 (.seq ZRW
 (.seq (.seq ZRX
 (.block 0
 (.loop ZRd)))
 (.seq ZRe
 .ret)))),
 [.s 2]⟩
theorem ZXF:Zx Proofs.Tryz.prog false ZXE Proofs.Tryz.f92=some ZKY:=by kernel_rfl
def ZdN:List Hint:=[H [0,1],H [0,1,11],H [4,5],H [0,1,13],H [4,5],H [4,5]]
def ZXG:PC :=
 (.reg [0,1] [I 4 (.mv (.v .nils)),I 5 (.mv (V 0))])
def ZXH:PC :=
 (.reg [0,1,11] [I 6 (.mv (.s 0)),I 7 (.bin .lss (.s 6) (V 0)),I 8 (.mv (.s 7)),G 9 8 false (.mv (.s 1)),G 10 8 false (.bin .lss (.s 9) (V 1)),I 11 (.pick (.s 8) (.v (.bool true)) (.s 10))])
def ZXI:PC :=
 (.reg [4,5] [I 4 (.mv (.v .nils)),I 5 (.mv (V 2))])
def ZXJ:PC :=
 (.reg [0,1,13] [I 12 (.mv (.s 0)),I 13 (.bin .gtr (.s 12) (V 65536))])
def ZXK:PC :=
 (.reg [4,5] [I 4 (.mv (.v .nils)),I 5 (.mv (V 5))])
def ZXL:PC :=
 (.reg [4,5] [I 14 (.mv (.s 0)),I 15 (.mv (.s 1)),I 16 (C ZAy [(.s 14),(.s 15)]),I 4 (.mv (.s 16)),I 5 (.mv (V 0))])
def ZPd:PF:=⟨false,
 (.seq ZXG
 (.seq (.seq ZXH
 (.ite (.s 11)
 (.seq ZXI
 .ret)
 .skip))
 (.seq (.seq ZXJ
 (.ite (.s 13)
 (.seq ZXK
 .ret)
 .skip))
 (.seq ZXL
 .ret)))),
 [.s 4,.s 5]⟩
theorem ZdO:Zx Proofs.Tryz.prog false ZdN Proofs.Tryz.f93=some ZPd:=by kernel_rfl
def ZdP:List Hint:=[H [0,2],H [0,2,3],H [2],H [0,2,8],H [2],⟨[2],[],[],[],[(7,.app0),(5,.imm)],[]⟩]
def ZXM:PC :=
 (.reg [0,2] [I 2 (.box (.v ZT))])
def ZXN:PC :=
 (.reg [0,2,3] [I 4 (.mv (.s 0)),I 5 (.len 1 (.s 4)),I 6 (.bin .eql (.s 5) (V 0)),I 3 (.mv (.s 6))])
def ZXO:PC :=
 (.reg [2] [I 7 (.build [(.int .u64 0),(.int .i64 0),(.int .i64 0),(.int .i64 0),(.int .i64 0),(.str []),.nils] []),J (.st 7 (.s 2) (.s 7))])
def ZXP:PC :=
 (.reg [0,2,8] [I 9 (.mv (.s 0)),I 10 (.len 1 (.s 9)),I 11 (.bin .eql (.s 10) (V 1)),I 8 (.mv (.s 11))])
def ZXQ:PC :=
 (.reg [2] [I 12 (.mv (.s 0)),I 13 (.ixS 7 (.s 12) (V 0)),I 14 (.ld true 7 (.s 13)),J (.st 7 (.s 2) (.s 14))])
def ZXR:PC :=
 (.reg [2] [I 15 (.mv (.s 0)),I 16 (.ixS 7 (.s 15) (V 0)),I 17 (.fadr 1 (.s 16)),I 18 (.ld false 1 (.s 17)),I 19 (.bin .add (.s 18) (V 1)),I 20 (.w .imm (.bslice false 7 [] [])),I 21 (.mv (.s 0)),I 22 (.w .app0 (.app 7 80 (.s 20) (.s 21))),I 23 (.build [(.int .u64 0),(.int .i64 0),(.int .i64 0),(.int .i64 0),(.int .i64 0),(.str []),.nils] [(1,1,(.s 19)),(6,1,(.s 22))]),J (.st 7 (.s 2) (.s 23))])
def ZPe:PF:=⟨false,
 (.seq ZXM
 (.seq (.block 0
 (.seq ZXN
 (.ite (.s 3)
 (.seq ZXO
 .ret)
 (.seq ZXP
 (.ite (.s 8)
 (.seq ZXQ
 .ret)
 .skip)))))
 (.seq ZXR
 .ret))),
 [.c 2 true 7]⟩
theorem ZdQ:Zx Proofs.Tryz.prog false ZdP Proofs.Tryz.f94=some ZPe:=by kernel_rfl
def ZfW:List Hint:=[H [1],H [1,3],H [1,3,13],H [2],H [1,3,31],H [2],H [1,3,46],H [2],H [65],H [2],H [2]]
def ZZ1:PC :=
 (.reg [1] [I 1 (.box (.s 0)),I 2 (.mv (V 0))])
def ZZ2:PC :=
 (.reg [1,3] [I 4 (.fadr 2 (.s 1)),I 5 (.ld true 3 (.s 4)),I 6 (.build [(.int .i64 0),(.int .i64 0),(.int .i64 0)] []),I 7 (.eqs false 0 [(0,0),(1,0),(2,0)] (.s 5) (.s 6)),I 8 (.mv (.s 7)),G 9 8 true (.fadr 0 (.s 1)),G 10 8 true (.ld false 1 (.s 9)),G 11 8 true (.bin .eql (.s 10) (.v (.int .u64 0))),I 12 (.pick (.s 8) (.s 11) (.v (.bool false))),I 3 (.mv (.s 12))])
def ZZ3:PC :=
 (.reg [1,3,13] [I 14 (.mv (.s 3)),I 15 (.mv (.s 14)),G 16 15 true (.fadr 1 (.s 1)),G 17 15 true (.ld false 1 (.s 16)),G 18 15 true (.bin .eql (.s 17) (V 0)),I 19 (.pick (.s 15) (.s 18) (.v (.bool false))),I 20 (.mv (.s 19)),G 21 20 true (.fadr 5 (.s 1)),G 22 20 true (.ld false 1 (.s 21)),G 23 20 true (.bin .eql (.s 22) (.v (.str []))),I 24 (.pick (.s 20) (.s 23) (.v (.bool false))),I 25 (.mv (.s 24)),G 26 25 true (.fadr 6 (.s 1)),G 27 25 true (.ld false 1 (.s 26)),G 28 25 true (.len 1 (.s 27)),G 29 25 true (.bin .eql (.s 28) (V 0)),I 30 (.pick (.s 25) (.s 29) (.v (.bool false))),I 13 (.mv (.s 30))])
def ZZ4:PC :=
 (.reg [2] [I 2 (.mv (V 1))])
def ZZ5:PC :=
 (.reg [1,3,31] [I 32 (.fadr 0 (.s 1)),I 33 (.ld false 1 (.s 32)),I 34 (.bin .neq (.s 33) (.v (.int .u64 0))),I 35 (.mv (.s 34)),G 36 35 true (.fadr 5 (.s 1)),G 37 35 true (.ld false 1 (.s 36)),G 38 35 true (.bin .eql (.s 37) (.v (.str []))),I 39 (.pick (.s 35) (.s 38) (.v (.bool false))),I 40 (.mv (.s 39)),G 41 40 true (.fadr 6 (.s 1)),G 42 40 true (.ld false 1 (.s 41)),G 43 40 true (.len 1 (.s 42)),G 44 40 true (.bin .eql (.s 43) (V 0)),I 45 (.pick (.s 40) (.s 44) (.v (.bool false))),I 31 (.mv (.s 45))])
def ZZ6:PC :=
 (.reg [2] [I 2 (.mv (V 2))])
def ZZ7:PC :=
 (.reg [1,3,46] [I 47 (.mv (.s 3)),I 48 (.mv (.s 47)),G 49 48 true (.fadr 1 (.s 1)),G 50 48 true (.ld false 1 (.s 49)),G 51 48 true (.bin .eql (.s 50) (V 0)),I 52 (.pick (.s 48) (.s 51) (.v (.bool false))),I 53 (.mv (.s 52)),G 54 53 true (.fadr 6 (.s 1)),G 55 53 true (.ld false 1 (.s 54)),G 56 53 true (.len 1 (.s 55)),G 57 53 true (.bin .eql (.s 56) (V 0)),I 58 (.pick (.s 53) (.s 57) (.v (.bool false))),I 59 (.mv (.s 58)),G 60 59 true (.fadr 5 (.s 1)),G 61 59 true (.ld false 1 (.s 60)),G 62 59 true (.len 0 (.s 61)),G 63 59 true (.bin .leq (.s 62) (V 16)),I 64 (.pick (.s 59) (.s 63) (.v (.bool false))),I 46 (.mv (.s 64))])
def ZZ8:PC :=
 (.reg [2] [I 2 (.mv (V 3))])
def ZZ9:PC :=
 (.reg [65] [I 66 (.mv (.s 3)),I 67 (.mv (.s 66)),G 68 67 true (.fadr 5 (.s 1)),G 69 67 true (.ld false 1 (.s 68)),G 70 67 true (.bin .eql (.s 69) (.v (.str []))),I 71 (.pick (.s 67) (.s 70) (.v (.bool false))),I 72 (.mv (.s 71)),G 73 72 true (.fadr 1 (.s 1)),G 74 72 true (.ld false 1 (.s 73)),G 75 72 true (.bin .geq (.s 74) (V 1)),I 76 (.pick (.s 72) (.s 75) (.v (.bool false))),I 77 (.mv (.s 76)),G 78 77 true (.fadr 1 (.s 1)),G 79 77 true (.ld false 1 (.s 78)),G 80 77 true (.bin .leq (.s 79) (V 16)),I 81 (.pick (.s 77) (.s 80) (.v (.bool false))),I 82 (.mv (.s 81)),G 83 82 true (.fadr 6 (.s 1)),G 84 82 true (.ld false 1 (.s 83)),G 85 82 true (.len 1 (.s 84)),G 86 82 true (.bin .geq (.s 85) (V 2)),I 87 (.pick (.s 82) (.s 86) (.v (.bool false))),I 88 (.mv (.s 87)),G 89 88 true (.fadr 6 (.s 1)),G 90 88 true (.ld false 1 (.s 89)),G 91 88 true (.len 1 (.s 90)),G 92 88 true (.bin .leq (.s 91) (V 4)),I 93 (.pick (.s 88) (.s 92) (.v (.bool false))),I 65 (.mv (.s 93))])
def ZaA:PC :=
 (.reg [2] [I 2 (.mv (V 4))])
def ZXS:PC :=
 (.reg [2] [I 2 (.mv (V 0))])
def ZSo:PF:=⟨false,
 (.seq ZZ1
 (.seq ZZ2
 (.seq (.block 0
 (.seq ZZ3
 (.ite (.s 13)
 (.seq ZZ4
 .ret)
 (.seq ZZ5
 (.ite (.s 31)
 (.seq ZZ6
 .ret)
 (.seq ZZ7
 (.ite (.s 46)
 (.seq ZZ8
 .ret)
 (.seq ZZ9
 (.ite (.s 65)
 (.seq ZaA
 .ret)
 .skip)))))))))
 (.seq ZXS
 .ret)))),
 [.s 2]⟩
theorem ZfX:Zx Proofs.Tryz.prog false ZfW Proofs.Tryz.f95=some ZSo:=by kernel_rfl
def ZPf:List Hint:=[H [0,1],H [0,1,13],H [4,5],H [0,1,19],H [4,5],H [0,6],H [0,6,7],H [0,6,7,25],H [0,6,7],H [0,6,7],H [0,6,7],H [0,6,7],H [4,5]]
def ZMW:PC :=
 (.reg [0,1] [I 4 (.mv (.v .nilptr)),I 5 (.mv (V 0))])
def ZMX:PC :=
 (.reg [0,1,13] [I 8 (.mv (.s 0)),I 9 (.bin .lss (.s 8) (V 1)),I 10 (.mv (.s 9)),G 11 10 false (.mv (.s 0)),G 12 10 false (.bin .gtr (.s 11) (V 16384)),I 13 (.pick (.s 10) (.v (.bool true)) (.s 12))])
def ZMY:PC :=
 (.reg [4,5] [I 4 (.mv (.v .nilptr)),I 5 (.mv (V 3))])
def ZMZ:PC :=
 (.reg [0,1,19] [I 14 (.mv (.s 1)),I 15 (.bin .lss (.s 14) (.v (.int .u64 1))),I 16 (.mv (.s 15)),G 17 16 false (.mv (.s 1)),G 18 16 false (.bin .gtr (.s 17) (.v (.int .u64 4294967295))),I 19 (.pick (.s 16) (.v (.bool true)) (.s 18))])
def ZMa:PC :=
 (.reg [4,5] [I 4 (.mv (.v .nilptr)),I 5 (.mv (V 3))])
def ZMb:PC :=
 (.reg [0,6] [I 20 (.mv (.s 1)),I 21 (.build [(.int .u64 0),.nils,.nils,.nils] [(0,1,(.s 20))]),I 22 (.box (.s 21)),I 6 (.mv (.s 22))])
def ZMc:PC :=
 (.reg [0,6,7] [I 7 (.mv (V 0))])
def ZMd:PC :=
 (.reg [0,6,7,25] [I 23 (.mv (.s 7)),I 24 (.mv (.s 0)),I 25 (.bin .lss (.s 23) (.s 24))])
def ZMe:PC :=
 (.reg [0,6,7] [I 28 (.mv (.s 6)),I 29 (.mv (.s 6)),I 30 (.nilck (.s 29)),I 31 (.fadr 1 (.s 30)),I 32 (.ld false 1 (.s 31)),I 33 (.bslice false 1 [(.int .i64 0)] [(0,(V 0))]),I 34 (.app 1 8 (.s 32) (.s 33)),I 35 (.nilck (.s 28)),I 36 (.fadr 1 (.s 35)),J (.st 1 (.s 36) (.s 34))])
def ZMf:PC :=
 (.reg [0,6,7] [I 37 (.mv (.s 6)),I 38 (.mv (.s 6)),I 39 (.nilck (.s 38)),I 40 (.fadr 2 (.s 39)),I 41 (.ld false 1 (.s 40)),I 42 (.bslice false 1 [(.int .u64 0)] [(0,(.v (.int .u64 1)))]),I 43 (.app 1 8 (.s 41) (.s 42)),I 44 (.nilck (.s 37)),I 45 (.fadr 2 (.s 44)),J (.st 1 (.s 45) (.s 43))])
def ZKZ:PC :=
 (.reg [0,6,7] [I 46 (.mv (.s 6)),I 47 (.mv (.s 6)),I 48 (.nilck (.s 47)),I 49 (.fadr 3 (.s 48)),I 50 (.ld false 1 (.s 49)),I 51 (.mv (.s 0)),I 52 (.bin .sub (.s 51) (V 1)),I 53 (.mv (.s 7)),I 54 (.bin .sub (.s 52) (.s 53)),I 55 (.bslice false 1 [(.int .i64 0)] [(0,(.s 54))]),I 56 (.app 1 8 (.s 50) (.s 55)),I 57 (.nilck (.s 46)),I 58 (.fadr 3 (.s 57)),J (.st 1 (.s 58) (.s 56))])
def ZKa:PC :=
 (.reg [0,6,7] [I 26 (.mv (.s 7)),I 27 (.bin .add (.s 26) (V 1)),I 7 (.mv (.s 27))])
def ZKb:PC :=
 (.seq (.seq ZMd
 (.ite (.s 25)
 .skip
 (.exit 0)))
 (.seq (.block 1
 (.seq ZMe
 (.seq ZMf
 ZKZ)))
 ZKa))
def ZKc:PC :=
 (.reg [4,5] [I 59 (.mv (.s 6)),I 4 (.mv (.s 59)),I 5 (.mv (V 0))])
def ZDu:PF:=⟨true,
 (.seq ZMW
 (.seq (.seq ZMX
 (.ite (.s 13)
 (.seq ZMY
 .ret)
 .skip))
 (.seq (.seq ZMZ
 (.ite (.s 19)
 (.seq ZMa
 .ret)
 .skip))
 (.seq ZMb
 (.seq (.seq ZMc
 (.block 0
 (.loop ZKb)))
 (.seq ZKc
 .ret)))))),
 [.s 4,.s 5]⟩
theorem ZPg:Zx Proofs.Tryz.prog true ZPf Proofs.Tryz.f96=some ZDu:=by kernel_rfl
def ZKd:List Hint:=[H [0],⟨[0,3],[0],[],[],[],[]⟩,H [0,3,4],H [0,3,4,5],H [0,3,4,5,12],H [0,3,4,5],H [0,3,4,5],H [0,3,4,5],H [2]]
def ZGM:PC :=
 (.reg [0] [I 2 (.mv (.v .nils))])
def ZGN:PC :=
 (.reg [0,3] [I 3 (.onil 1)])
def ZGO:PC :=
 (.reg [0,3,4] [I 6 (.mv (.s 0)),I 7 (.len 0 (.s 6)),I 8 (C YD [(.s 7),(V 16)]),I 4 (.mv (.s 8))])
def ZGP:PC :=
 (.reg [0,3,4,5] [I 5 (.mv (V 0))])
def ZGQ:PC :=
 (.reg [0,3,4,5,12] [I 9 (.mv (.s 5)),I 10 (.mv (.s 4)),I 11 (.len 1 (.s 10)),I 12 (.bin .lss (.s 9) (.s 11))])
def ZGR:PC :=
 (.reg [0,3,4,5] [I 15 (.mv (.s 3)),I 16 (.mv (.s 0)),I 17 (.mv (.s 4)),I 18 (.mv (.s 5)),I 19 (.ixS 1 (.s 17) (.s 18)),I 20 (.ld false 1 (.s 19)),I 21 (.slcS (.s 16) none (some (.s 20))),I 22 (.bslice false 1 [(.str [])] [(0,(.s 21))]),I 23 (.app 1 16 (.s 15) (.s 22)),I 3 (.mv (.s 23))])
def ZGS:PC :=
 (.reg [0,3,4,5] [I 24 (.mv (.s 0)),I 25 (.mv (.s 4)),I 26 (.mv (.s 5)),I 27 (.ixS 1 (.s 25) (.s 26)),I 28 (.ld false 1 (.s 27)),I 29 (.slcS (.s 24) (some (.s 28)) none),I 0 (.mv (.s 29))])
def ZGT:PC :=
 (.reg [0,3,4,5] [I 13 (.mv (.s 5)),I 14 (.bin .add (.s 13) (V 1)),I 5 (.mv (.s 14))])
def ZGU:PC :=
 (.seq (.seq ZGQ
 (.ite (.s 12)
 .skip
 (.exit 0)))
 (.seq (.block 1
 (.seq ZGR
 ZGS))
 ZGT))
def ZGV:PC :=
 (.reg [2] [I 30 (.mv (.s 3)),I 2 (.mv (.s 30))])
def ZA7:PF:=⟨false,
 (.seq ZGM
 (.seq ZGN
 (.seq ZGO
 (.seq (.seq ZGP
 (.block 0
 (.loop ZGU)))
 (.seq ZGV
 .ret))))),
 [.s 2]⟩
theorem ZKe:Zx Proofs.Tryz.prog false ZKd Proofs.Tryz.f97=some ZA7:=by kernel_rfl
def ZNv:List Hint:=[H [0,2],H [2]]
def ZKf:PC :=
 (.reg [0,2] [I 2 (.box (.v ZT))])
def ZKg:PC :=
 (.reg [2] [I 3 (.mv (.s 0)),I 4 (.build [(.int .u64 0),(.int .i64 0),(.int .i64 0),(.int .i64 0),(.int .i64 0),(.str []),.nils] [(5,1,(.s 3))]),J (.st 7 (.s 2) (.s 4))])
def ZCq:PF:=⟨false,
 (.seq ZKf
 (.seq ZKg
 .ret)),
 [.c 2 true 7]⟩
theorem ZNw:Zx Proofs.Tryz.prog false ZNv Proofs.Tryz.f98=some ZCq:=by kernel_rfl
def ZMg:List Hint:=[H [0,1],H [0,1,10],H [4],H [0,5],⟨[0,5,6],[0],[],[],[],[]⟩,H [0,5,6,7],H [0,5,6,7,18],H [0,5,6,7,8],H [0,5,6,7,8,28],H [0,5,6,7,8],H [0,5,6,7],H [0,5,6,7],H [4]]
def ZIH:PC :=
 (.reg [0,1] [I 4 (.mv (.v .nils))])
def ZII:PC :=
 (.reg [0,1,10] [I 9 (.mv (.s 0)),I 10 (.bin .eql (.s 9) (V 0))])
def ZIJ:PC :=
 (.reg [4] [I 4 (.mv (.v .nils))])
def ZIK:PC :=
 (.reg [0,5] [I 11 (.mv (.s 0)),I 12 (.bin .sub (.s 11) (V 1)),I 13 (.mv (.s 1)),I 14 (.bin .quo (.s 12) (.s 13)),I 15 (.bin .add (.s 14) (V 1)),I 5 (.mv (.s 15))])
def ZIL:PC :=
 (.reg [0,5,6] [I 6 (.onil 1)])
def ZIM:PC :=
 (.reg [0,5,6,7] [I 7 (.mv (V 0))])
def ZIN:PC :=
 (.reg [0,5,6,7,18] [I 16 (.mv (.s 7)),I 17 (.mv (.s 5)),I 18 (.bin .lss (.s 16) (.s 17))])
def ZIO:PC :=
 (.reg [0,5,6,7,8] [I 21 (.mv (.s 0)),I 22 (.mv (.s 5)),I 23 (.bin .quo (.s 21) (.s 22)),I 8 (.mv (.s 23))])
def ZIP:PC :=
 (.reg [0,5,6,7,8,28] [I 24 (.mv (.s 7)),I 25 (.mv (.s 0)),I 26 (.mv (.s 5)),I 27 (.bin .rem (.s 25) (.s 26)),I 28 (.bin .lss (.s 24) (.s 27))])
def ZIQ:PC :=
 (.reg [0,5,6,7,8] [I 29 (.mv (.s 8)),I 30 (.bin .add (.s 29) (V 1)),I 8 (.mv (.s 30))])
def ZGW:PC :=
 (.reg [0,5,6,7] [I 31 (.mv (.s 6)),I 32 (.mv (.s 8)),I 33 (.bslice false 1 [(.int .i64 0)] [(0,(.s 32))]),I 34 (.app 1 8 (.s 31) (.s 33)),I 6 (.mv (.s 34))])
def ZGX:PC :=
 (.reg [0,5,6,7] [I 19 (.mv (.s 7)),I 20 (.bin .add (.s 19) (V 1)),I 7 (.mv (.s 20))])
def ZGY:PC :=
 (.seq (.seq ZIN
 (.ite (.s 18)
 .skip
 (.exit 0)))
 (.seq (.block 1
 (.seq ZIO
 (.seq (.seq ZIP
 (.ite (.s 28)
 ZIQ
 .skip))
 ZGW)))
 ZGX))
def ZGZ:PC :=
 (.reg [4] [I 35 (.mv (.s 6)),I 4 (.mv (.s 35))])
def ZBR:PF:=⟨false,
 (.seq ZIH
 (.seq (.seq ZII
 (.ite (.s 10)
 (.seq ZIJ
 .ret)
 .skip))
 (.seq ZIK
 (.seq ZIL
 (.seq (.seq ZIM
 (.block 0
 (.loop ZGY)))
 (.seq ZGZ
 .ret)))))),
 [.s 4]⟩
theorem ZMh:Zx Proofs.Tryz.prog false ZMg Proofs.Tryz.f99=some ZBR:=by kernel_rfl
def ZMi:List Hint:=[H [0,2],⟨[2],[],[],[],[(7,.app0),(5,.imm)],[]⟩]
def ZIR:PC :=
 (.reg [0,2] [I 2 (.box (.v ZT))])
def ZIS:PC :=
 (.reg [2] [I 3 (.mv (.s 0)),I 4 (.ixS 7 (.s 3) (V 0)),I 5 (.fadr 1 (.s 4)),I 6 (.ld false 1 (.s 5)),I 7 (.bin .add (.s 6) (V 1)),I 8 (.w .imm (.bslice false 7 [] [])),I 9 (.mv (.s 0)),I 10 (.w .app0 (.app 7 80 (.s 8) (.s 9))),I 11 (.build [(.int .u64 0),(.int .i64 0),(.int .i64 0),(.int .i64 0),(.int .i64 0),(.str []),.nils] [(1,1,(.s 7)),(6,1,(.s 10))]),J (.st 7 (.s 2) (.s 11))])
def ZBS:PF:=⟨false,
 (.seq ZIR
 (.seq ZIS
 .ret)),
 [.c 2 true 7]⟩
theorem ZMj:Zx Proofs.Tryz.prog false ZMi Proofs.Tryz.f100=some ZBS:=by kernel_rfl
def ZMk:List Hint:=[H [0,2],H [0,2,5],H [2],H [0,2,9],H [2],H [2]]
def ZIT:PC :=
 (.reg [0,2] [I 2 (.box (.v ZT))])
def ZIU:PC :=
 (.reg [0,2,5] [I 3 (.mv (.s 0)),I 4 (.len 1 (.s 3)),I 5 (.bin .eql (.s 4) (V 0))])
def ZIV:PC :=
 (.reg [2] [I 6 (.build [(.int .u64 0),(.int .i64 0),(.int .i64 0),(.int .i64 0),(.int .i64 0),(.str []),.nils] []),J (.st 7 (.s 2) (.s 6))])
def ZIW:PC :=
 (.reg [0,2,9] [I 7 (.mv (.s 0)),I 8 (.len 1 (.s 7)),I 9 (.bin .eql (.s 8) (V 1))])
def ZIX:PC :=
 (.reg [2] [I 10 (.mv (.s 0)),I 11 (.ixS 7 (.s 10) (V 0)),I 12 (.ld true 7 (.s 11)),J (.st 7 (.s 2) (.s 12))])
def ZIY:PC :=
 (.reg [2] [I 13 (.mv (.s 0)),I 14 (C YE [(.s 13)]),J (.st 7 (.s 2) (.s 14))])
def ZBT:PF:=⟨false,
 (.seq ZIT
 (.seq (.seq ZIU
 (.ite (.s 5)
 (.seq ZIV
 .ret)
 .skip))
 (.seq (.seq ZIW
 (.ite (.s 9)
 (.seq ZIX
 .ret)
 .skip))
 (.seq ZIY
 .ret)))),
 [.c 2 true 7]⟩
theorem ZMl:Zx Proofs.Tryz.prog false ZMk Proofs.Tryz.f101=some ZBT:=by kernel_rfl
def ZNx:List Hint:=[H [1],H [2]]
def ZKh:PC :=
 (.reg [1] [I 1 (.box (.s 0)),I 2 (.mv (.v (.bool false)))])
def ZKi:PC :=
 (.reg [2] [I 3 (.fadr 0 (.s 1)),I 4 (.ld false 1 (.s 3)),I 5 (.bin .eql (.s 4) (.v (.int .u64 0))),I 6 (.mv (.s 5)),G 7 6 true (.fadr 1 (.s 1)),G 8 6 true (.ld false 1 (.s 7)),G 9 6 true (.bin .eql (.s 8) (V 0)),I 10 (.pick (.s 6) (.s 9) (.v (.bool false))),I 11 (.mv (.s 10)),G 12 11 true (.fadr 2 (.s 1)),G 13 11 true (.ld true 3 (.s 12)),G 14 11 true (.build [(.int .i64 0),(.int .i64 0),(.int .i64 0)] []),G 15 11 true (.eqs false 0 [(0,0),(1,0),(2,0)] (.s 13) (.s 14)),I 16 (.pick (.s 11) (.s 15) (.v (.bool false))),I 17 (.mv (.s 16)),G 18 17 true (.fadr 5 (.s 1)),G 19 17 true (.ld false 1 (.s 18)),G 20 17 true (.bin .eql (.s 19) (.v (.str []))),I 21 (.pick (.s 17) (.s 20) (.v (.bool false))),I 22 (.mv (.s 21)),G 23 22 true (.fadr 6 (.s 1)),G 24 22 true (.ld false 1 (.s 23)),G 25 22 true (.len 1 (.s 24)),G 26 22 true (.bin .eql (.s 25) (V 0)),I 27 (.pick (.s 22) (.s 26) (.v (.bool false))),I 2 (.mv (.s 27))])
def ZCr:PF:=⟨false,
 (.seq ZKh
 (.seq ZKi
 .ret)),
 [.s 2]⟩
theorem ZNy:Zx Proofs.Tryz.prog false ZNx Proofs.Tryz.f102=some ZCr:=by kernel_rfl
def ZIZ:List Hint:=[H [0,2],H [0,2,3],H [0,2,3,4],H [0,2,3,4,11],H [0,2,3,4,23],H [0,2,3,4],H [0,2,3,4,31],H [0,2,3,4],H [0,2,3,4],H [2]]
def ZEi:PC :=
 (.reg [0,2] [I 2 (.box (.v ZM))])
def ZEj:PC :=
 (.reg [0,2,3] [I 5 (.mv (.s 0)),I 6 (.len 0 (.s 5)),I 7 (.build [(.int .i64 0),(.int .i64 0),(.int .i64 0)] [(0,1,(.s 6))]),I 3 (.box (.v ZM)),J (.st 3 (.s 3) (.s 7))])
def ZEk:PC :=
 (.reg [0,2,3,4] [I 4 (.mv (V 0))])
def ZEl:PC :=
 (.reg [0,2,3,4,11] [I 8 (.mv (.s 4)),I 9 (.mv (.s 0)),I 10 (.len 0 (.s 9)),I 11 (.bin .lss (.s 8) (.s 10))])
def ZEm:PC :=
 (.reg [0,2,3,4,23] [I 14 (.mv (.s 0)),I 15 (.mv (.s 4)),I 16 (.ixStr (.s 14) (.s 15)),I 17 (.bin .lss (.s 16) (.v (.int .u8 128))),I 18 (.mv (.s 17)),G 19 18 false (.mv (.s 0)),G 20 18 false (.mv (.s 4)),G 21 18 false (.ixStr (.s 19) (.s 20)),G 22 18 false (.bin .geq (.s 21) (.v (.int .u8 192))),I 23 (.pick (.s 18) (.v (.bool true)) (.s 22))])
def ZEn:PC :=
 (.reg [0,2,3,4] [I 24 (.fadr 1 (.s 3)),I 25 (.ld false 1 (.s 24)),I 26 (.bin .add (.s 25) (V 1)),I 27 (.fadr 1 (.s 3)),J (.st 1 (.s 27) (.s 26))])
def ZEo:PC :=
 (.reg [0,2,3,4,31] [I 28 (.mv (.s 0)),I 29 (.mv (.s 4)),I 30 (.ixStr (.s 28) (.s 29)),I 31 (.bin .eql (.s 30) (.v (.int .u8 10)))])
def ZEp:PC :=
 (.reg [0,2,3,4] [I 32 (.fadr 2 (.s 3)),I 33 (.ld false 1 (.s 32)),I 34 (.bin .add (.s 33) (V 1)),I 35 (.fadr 2 (.s 3)),J (.st 1 (.s 35) (.s 34))])
def ZEq:PC :=
 (.reg [0,2,3,4] [I 12 (.mv (.s 4)),I 13 (.bin .add (.s 12) (V 1)),I 4 (.mv (.s 13))])
def ZEr:PC :=
 (.seq (.seq ZEl
 (.ite (.s 11)
 .skip
 (.exit 0)))
 (.seq (.block 1
 (.seq (.seq ZEm
 (.ite (.s 23)
 ZEn
 .skip))
 (.seq ZEo
 (.ite (.s 31)
 ZEp
 .skip))))
 ZEq))
def ZEF:PC :=
 (.reg [2] [I 36 (.ld true 3 (.s 3)),J (.st 3 (.s 2) (.s 36))])
def ZAa:PF:=⟨false,
 (.seq ZEi
 (.seq ZEj
 (.seq (.seq ZEk
 (.block 0
 (.loop ZEr)))
 (.seq ZEF
 .ret)))),
 [.c 2 true 3]⟩
theorem ZIa:Zx Proofs.Tryz.prog false ZIZ Proofs.Tryz.f103=some ZAa:=by kernel_rfl
def ZdR:List Hint:=[H [1],H [1,5],H [2],H [9],H [2],H [2]]
def ZXT:PC :=
 (.reg [1] [I 1 (.box (.s 0)),I 2 (.mv (V 0))])
def ZXU:PC :=
 (.reg [1,5] [I 3 (.ld true 3 (.s 1)),I 4 (C XZ [(.s 3)]),I 5 (.un .not (.s 4))])
def ZXV:PC :=
 (.reg [2] [I 2 (.mv (V 23))])
def ZXW:PC :=
 (.reg [9] [I 6 (.ld true 3 (.s 1)),I 7 (C ZAn [(.s 6)]),I 8 (.fld false 0 1 (.s 7)),I 9 (.bin .gtr (.s 8) (V 65536))])
def ZXX:PC :=
 (.reg [2] [I 2 (.mv (V 5))])
def ZXY:PC :=
 (.reg [2] [I 2 (.mv (V 0))])
def ZPh:PF:=⟨false,
 (.seq ZXT
 (.seq (.seq ZXU
 (.ite (.s 5)
 (.seq ZXV
 .ret)
 .skip))
 (.seq (.seq ZXW
 (.ite (.s 9)
 (.seq ZXX
 .ret)
 .skip))
 (.seq ZXY
 .ret)))),
 [.s 2]⟩
theorem ZdS:Zx Proofs.Tryz.prog false ZdR Proofs.Tryz.f104=some ZPh:=by kernel_rfl
def ZXZ:List Hint:=[H [1,2],H [1,2,4],H [1,2,4,8],H [2,3],H [2,3]]
def ZRf:PC :=
 (.reg [1,2] [I 1 (.box (.s 0)),I 2 (.box (.v ZM)),I 3 (.mv (V 0))])
def ZRg:PC :=
 (.reg [1,2,4] [I 5 (.ld true 3 (.s 1)),I 6 (C ZAJ [(.s 5)]),I 4 (.mv (.s 6))])
def ZRh:PC :=
 (.reg [1,2,4,8] [I 7 (.mv (.s 4)),I 8 (.bin .neq (.s 7) (V 0))])
def ZRi:PC :=
 (.reg [2,3] [I 9 (.build [(.int .i64 0),(.int .i64 0),(.int .i64 0)] []),I 10 (.mv (.s 4)),J (.st 3 (.s 2) (.s 9)),I 3 (.mv (.s 10))])
def ZRj:PC :=
 (.reg [2,3] [I 11 (.ld true 3 (.s 1)),I 12 (C ZAn [(.s 11)]),J (.st 3 (.s 2) (.s 12)),I 3 (.mv (V 0))])
def ZKj:PF:=⟨false,
 (.seq ZRf
 (.seq (.seq ZRg
 (.seq ZRh
 (.ite (.s 8)
 (.seq ZRi
 .ret)
 .skip)))
 (.seq ZRj
 .ret))),
 [.c 2 true 3,.s 3]⟩
theorem ZXa:Zx Proofs.Tryz.prog false ZXZ Proofs.Tryz.f105=some ZKj:=by kernel_rfl
def ZKk:List Hint:=[H [0],H [0,6],H [2,3],H [0,12],H [2,3],H [0,4],H [0,4],H [0,4],H [2,3]]
def ZGa:PC :=
 (.reg [0] [I 2 (.mv (.v (.int .u64 0))),I 3 (.mv (V 0))])
def ZGb:PC :=
 (.reg [0,6] [I 5 (.mv (.s 0)),I 6 (.eqs false 3 [] (.s 5) (.v .nilptr))])
def ZGc:PC :=
 (.reg [2,3] [I 2 (.mv (.v (.int .u64 0))),I 3 (.mv (V 1))])
def ZGd:PC :=
 (.reg [0,12] [I 7 (.mv (.s 0)),I 8 (.nilck (.s 7)),I 9 (.fadr 0 (.s 8)),I 10 (.ld false 1 (.s 9)),I 11 (.len 1 (.s 10)),I 12 (.bin .eql (.s 11) (V 0))])
def ZGe:PC :=
 (.reg [2,3] [I 2 (.mv (.v (.int .u64 0))),I 3 (.mv (V 6))])
def ZGf:PC :=
 (.reg [0,4] [I 13 (.mv (.s 0)),I 14 (.nilck (.s 13)),I 15 (.fadr 0 (.s 14)),I 16 (.ld false 1 (.s 15)),I 17 (.mv (.s 0)),I 18 (.nilck (.s 17)),I 19 (.fadr 0 (.s 18)),I 20 (.ld false 1 (.s 19)),I 21 (.len 1 (.s 20)),I 22 (.bin .sub (.s 21) (V 1)),I 23 (.ixS 1 (.s 16) (.s 22)),I 24 (.ld false 1 (.s 23)),I 4 (.mv (.s 24))])
def ZGg:PC :=
 (.reg [0,4] [I 25 (.mv (.s 0)),I 26 (.mv (.s 0)),I 27 (.nilck (.s 26)),I 28 (.fadr 0 (.s 27)),I 29 (.ld false 1 (.s 28)),I 30 (.mv (.s 0)),I 31 (.nilck (.s 30)),I 32 (.fadr 0 (.s 31)),I 33 (.ld false 1 (.s 32)),I 34 (.len 1 (.s 33)),I 35 (.bin .sub (.s 34) (V 1)),I 36 (.slc 1 (.s 29) none (some (.s 35))),I 37 (.nilck (.s 25)),I 38 (.fadr 0 (.s 37)),J (.st 1 (.s 38) (.s 36))])
def ZGh:PC :=
 (.reg [0,4] [I 39 (.mv (.s 0)),I 40 (.nilck (.s 39)),I 41 (.fadr 1 (.s 40)),I 42 (.ld false 1 (.s 41)),I 43 (.mv (.s 4)),I 44 (.ixS 1 (.s 42) (.s 43)),J (.st 1 (.s 44) (.v (.int .u8 1)))])
def ZGi:PC :=
 (.reg [2,3] [I 45 (.mv (.s 4)),I 46 (.mv (.s 0)),I 47 (.nilck (.s 46)),I 48 (.fadr 2 (.s 47)),I 49 (.ld false 1 (.s 48)),I 50 (.mv (.s 4)),I 51 (.ixS 1 (.s 49) (.s 50)),I 52 (.ld false 1 (.s 51)),I 53 (C ZD9 [(.s 45),(.s 52)]),I 54 (.ext (.s 53) 0),I 55 (.ext (.s 53) 1),I 2 (.mv (.s 54)),I 3 (.mv (.s 55))])
def ZA8:PF:=⟨false,
 (.seq ZGa
 (.seq (.seq ZGb
 (.ite (.s 6)
 (.seq ZGc
 .ret)
 .skip))
 (.seq (.seq ZGd
 (.ite (.s 12)
 (.seq ZGe
 .ret)
 .skip))
 (.seq ZGf
 (.seq ZGg
 (.seq ZGh
 (.seq ZGi
 .ret))))))),
 [.s 2,.s 3]⟩
theorem ZKl:Zx Proofs.Tryz.prog false ZKk Proofs.Tryz.f106=some ZA8:=by kernel_rfl
def ZMm:List Hint:=[H [1],H [1,5],H [2],H [12],H [2],H [2]]
def ZIb:PC :=
 (.reg [1] [I 1 (.box (.s 0)),I 2 (.mv (V 0))])
def ZIc:PC :=
 (.reg [1,5] [I 3 (.ld true 3 (.s 1)),I 4 (C JU [(.s 3)]),I 5 (.un .not (.s 4))])
def ZId:PC :=
 (.reg [2] [I 2 (.mv (V 23))])
def ZIe:PC :=
 (.reg [12] [I 6 (.ld true 3 (.s 1)),I 7 (.fadr 2 (.s 1)),I 8 (.ld false 1 (.s 7)),I 9 (.len 1 (.s 8)),I 10 (C JX [(.s 6),(.s 9)]),I 11 (.fld false 0 1 (.s 10)),I 12 (.bin .gtr (.s 11) (V 65536))])
def ZIf:PC :=
 (.reg [2] [I 2 (.mv (V 5))])
def ZIg:PC :=
 (.reg [2] [I 2 (.mv (V 0))])
def ZBU:PF:=⟨false,
 (.seq ZIb
 (.seq (.seq ZIc
 (.ite (.s 5)
 (.seq ZId
 .ret)
 .skip))
 (.seq (.seq ZIe
 (.ite (.s 12)
 (.seq ZIf
 .ret)
 .skip))
 (.seq ZIg
 .ret)))),
 [.s 2]⟩
theorem ZMn:Zx Proofs.Tryz.prog false ZMm Proofs.Tryz.f108=some ZBU:=by kernel_rfl
def ZEG:List Hint:=[H [0,3],H [0,3,5],H [0,3,5,14],H [0,3,5,6],H [0,3,5,6,26],H [4],H [0,3,5,7],H [0,3,5,7,8],H [0,3,5,55],H [4],H [0,3,5],H [4]]
def ZCs:PC :=
 (.reg [0,3] [I 3 (.box (.s 1)),I 4 (.mv (V 0))])
def ZCt:PC :=
 (.reg [0,3,5] [I 5 (.mv (V 0))])
def ZCu:PC :=
 (.reg [0,3,5,14] [I 10 (.mv (.s 5)),I 11 (.fadr 2 (.s 3)),I 12 (.ld false 1 (.s 11)),I 13 (.len 1 (.s 12)),I 14 (.bin .lss (.s 10) (.s 13))])
def ZCv:PC :=
 (.reg [0,3,5,6] [I 17 (.mv (.s 0)),I 18 (.fadr 2 (.s 3)),I 19 (.ld false 1 (.s 18)),I 20 (.mv (.s 5)),I 21 (.ixS 4 (.s 19) (.s 20)),I 22 (.fadr 0 (.s 21)),I 23 (.ld false 1 (.s 22)),I 24 (C YA [(.s 17),(.s 23)]),I 6 (.mv (.s 24))])
def ZCw:PC :=
 (.reg [0,3,5,6,26] [I 25 (.mv (.s 6)),I 26 (.bin .lss (.s 25) (V 0))])
def ZCx:PC :=
 (.reg [4] [I 4 (.mv (V 10))])
def ZCy:PC :=
 (.reg [0,3,5,7] [I 27 (.mv (.s 0)),I 28 (.nilck (.s 27)),I 29 (.fadr 1 (.s 28)),I 30 (.ld false 1 (.s 29)),I 31 (.mv (.s 6)),I 32 (.ixS 4 (.s 30) (.s 31)),I 33 (.fadr 1 (.s 32)),I 34 (.ld true 3 (.s 33)),I 7 (.box (.v ZN)),J (.st 3 (.s 7) (.s 34))])
def ZCz:PC :=
 (.reg [0,3,5,7,8] [I 36 (.ld true 3 (.s 7)),I 37 (C Yp [(.s 36)]),I 35 (.mv (.s 37)),I 38 (.ext (.s 35) 0),I 39 (.ext (.s 35) 1),I 8 (.box (.v ZM)),J (.st 3 (.s 8) (.s 38)),I 9 (.mv (.s 39))])
def ZC0:PC :=
 (.reg [0,3,5,55] [I 40 (.fadr 0 (.s 7)),I 41 (.ld false 1 (.s 40)),I 42 (.fadr 0 (.s 3)),I 43 (.ld false 1 (.s 42)),I 44 (.bin .sub (.s 43) (V 1)),I 45 (.bin .neq (.s 41) (.s 44)),I 46 (.mv (.s 45)),G 47 46 false (.ld true 3 (.s 8)),G 48 46 false (.fadr 2 (.s 3)),G 49 46 false (.ld false 1 (.s 48)),G 50 46 false (.mv (.s 5)),G 51 46 false (.ixS 4 (.s 49) (.s 50)),G 52 46 false (.fadr 1 (.s 51)),G 53 46 false (.ld true 3 (.s 52)),G 54 46 false (.eqs true 0 [(0,0),(1,0),(2,0)] (.s 47) (.s 53)),I 55 (.pick (.s 46) (.v (.bool true)) (.s 54))])
def ZC1:PC :=
 (.reg [4] [I 4 (.mv (V 23))])
def ZBo:PC :=
 (.reg [0,3,5] [I 15 (.mv (.s 5)),I 16 (.bin .add (.s 15) (V 1)),I 5 (.mv (.s 16))])
def ZBp:PC :=
 (.seq (.seq ZCu
 (.ite (.s 14)
 .skip
 (.exit 0)))
 (.seq (.block 1
 (.seq ZCv
 (.seq (.seq ZCw
 (.ite (.s 26)
 (.seq ZCx
 .ret)
 .skip))
 (.seq ZCy
 (.seq ZCz
 (.seq ZC0
 (.ite (.s 55)
 (.seq ZC1
 .ret)
 .skip)))))))
 ZBo))
def ZBq:PC :=
 (.reg [4] [I 4 (.mv (V 0))])
def Xb:PF:=⟨false,
 (.seq ZCs
 (.seq (.seq ZCt
 (.block 0
 (.loop ZBp)))
 (.seq ZBq
 .ret))),
 [.s 4]⟩
theorem ZEH:Zx Proofs.Tryz.prog false ZEG Proofs.Tryz.f109=some Xb:=by kernel_rfl
def ZEs:List Hint:=[H [0],H [0,6],H [2,3],H [0,12],H [2,3],H [0,4],H [0,4],H [0,4],H [2,3]]
def ZDY:PC :=
 (.reg [0] [I 2 (.mv (.v (.int .u64 0))),I 3 (.mv (V 0))])
def ZDZ:PC :=
 (.reg [0,6] [I 5 (.mv (.s 0)),I 6 (.eqs false 3 [] (.s 5) (.v .nilptr))])
def ZDa:PC :=
 (.reg [2,3] [I 2 (.mv (.v (.int .u64 0))),I 3 (.mv (V 1))])
def ZDb:PC :=
 (.reg [0,12] [I 7 (.mv (.s 0)),I 8 (.nilck (.s 7)),I 9 (.fadr 3 (.s 8)),I 10 (.ld false 1 (.s 9)),I 11 (.len 1 (.s 10)),I 12 (.bin .eql (.s 11) (V 0))])
def ZDc:PC :=
 (.reg [2,3] [I 2 (.mv (.v (.int .u64 0))),I 3 (.mv (V 6))])
def ZDd:PC :=
 (.reg [0,4] [I 13 (.mv (.s 0)),I 14 (.nilck (.s 13)),I 15 (.fadr 3 (.s 14)),I 16 (.ld false 1 (.s 15)),I 17 (.mv (.s 0)),I 18 (.nilck (.s 17)),I 19 (.fadr 3 (.s 18)),I 20 (.ld false 1 (.s 19)),I 21 (.len 1 (.s 20)),I 22 (.bin .sub (.s 21) (V 1)),I 23 (.ixS 1 (.s 16) (.s 22)),I 24 (.ld false 1 (.s 23)),I 4 (.mv (.s 24))])
def ZDe:PC :=
 (.reg [0,4] [I 25 (.mv (.s 0)),I 26 (.mv (.s 0)),I 27 (.nilck (.s 26)),I 28 (.fadr 3 (.s 27)),I 29 (.ld false 1 (.s 28)),I 30 (.mv (.s 0)),I 31 (.nilck (.s 30)),I 32 (.fadr 3 (.s 31)),I 33 (.ld false 1 (.s 32)),I 34 (.len 1 (.s 33)),I 35 (.bin .sub (.s 34) (V 1)),I 36 (.slc 1 (.s 29) none (some (.s 35))),I 37 (.nilck (.s 25)),I 38 (.fadr 3 (.s 37)),J (.st 1 (.s 38) (.s 36))])
def ZDf:PC :=
 (.reg [0,4] [I 39 (.mv (.s 0)),I 40 (.nilck (.s 39)),I 41 (.fadr 1 (.s 40)),I 42 (.ld false 1 (.s 41)),I 43 (.mv (.s 4)),I 44 (.ixS 1 (.s 42) (.s 43)),J (.st 1 (.s 44) (V 1))])
def ZDg:PC :=
 (.reg [2,3] [I 45 (.mv (.s 4)),I 46 (.mv (.s 0)),I 47 (.nilck (.s 46)),I 48 (.fadr 2 (.s 47)),I 49 (.ld false 1 (.s 48)),I 50 (.mv (.s 4)),I 51 (.ixS 1 (.s 49) (.s 50)),I 52 (.ld false 1 (.s 51)),I 53 (C Xz [(.s 45),(.s 52)]),I 54 (.ext (.s 53) 0),I 55 (.ext (.s 53) 1),I 2 (.mv (.s 54)),I 3 (.mv (.s 55))])
def ZAA:PF:=⟨false,
 (.seq ZDY
 (.seq (.seq ZDZ
 (.ite (.s 6)
 (.seq ZDa
 .ret)
 .skip))
 (.seq (.seq ZDb
 (.ite (.s 12)
 (.seq ZDc
 .ret)
 .skip))
 (.seq ZDd
 (.seq ZDe
 (.seq ZDf
 (.seq ZDg
 .ret))))))),
 [.s 2,.s 3]⟩
theorem ZEt:Zx Proofs.Tryz.prog false ZEs Proofs.Tryz.f110=some ZAA:=by kernel_rfl
def ZGj:List Hint:=[H [1,2],⟨[2],[],[(6,.pure)],[],[],[]⟩]
def ZEI:PC :=
 (.reg [1,2] [I 1 (.box (.s 0)),I 2 (.box (.v ZN))])
def ZEJ:PC :=
 (.reg [2] [I 3 (.fadr 0 (.s 1)),I 4 (.ld false 1 (.s 3)),I 5 (.fadr 1 (.s 1)),I 6 (.ld false 1 (.s 5)),I 7 (.fadr 2 (.s 1)),I 8 (.ld false 1 (.s 7)),I 9 (.call .pure (.v (.func (.func J3) [] [])) [(.s 8)]),I 10 (.build [(.int .i64 0),(.str []),.nils] [(0,1,(.s 4)),(1,1,(.s 6)),(2,1,(.s 9))]),J (.st 3 (.s 2) (.s 10))])
def ZAV:PF:=⟨false,
 (.seq ZEI
 (.seq ZEJ
 .ret)),
 [.c 2 true 3]⟩
theorem ZGk:Zx Proofs.Tryz.prog false ZGj Proofs.Tryz.f111=some ZAV:=by kernel_rfl
def ZfY:List Hint:=[H [0,1,2,7],H [2,7,9,10],H [2,7,9,10,19],H [8],H [2,7,9,10,11],H [38],H [8],H [8]]
def ZaB:PC :=
 (.reg [0,1,2,7] [I 7 (.box (.s 3)),I 8 (.mv (V 0))])
def ZaC:PC :=
 (.reg [2,7,9,10] [I 13 (.mv (.s 0)),I 14 (.mv (.s 1)),I 15 (C Q7 [(.s 13),(.s 14)]),I 12 (.mv (.s 15)),I 16 (.ext (.s 12) 0),I 17 (.ext (.s 12) 1),I 9 (.box (.v ZN)),J (.st 3 (.s 9) (.s 16)),I 10 (.mv (.s 17))])
def ZaD:PC :=
 (.reg [2,7,9,10,19] [I 18 (.mv (.s 10)),I 19 (.bin .neq (.s 18) (V 0))])
def ZaE:PC :=
 (.reg [8] [I 20 (.mv (.s 10)),I 8 (.mv (.s 20))])
def ZaF:PC :=
 (.reg [2,7,9,10,11] [I 22 (.ld true 3 (.s 9)),I 23 (C ZAK [(.s 22)]),I 21 (.mv (.s 23)),I 24 (.ext (.s 21) 0),I 25 (.ext (.s 21) 1),I 11 (.box (.v ZM)),J (.st 3 (.s 11) (.s 24)),I 10 (.mv (.s 25))])
def ZaG:PC :=
 (.reg [38] [I 26 (.mv (.s 10)),I 27 (.bin .neq (.s 26) (V 0)),I 28 (.mv (.s 27)),G 29 28 false (.fadr 0 (.s 9)),G 30 28 false (.ld false 1 (.s 29)),G 31 28 false (.mv (.s 2)),G 32 28 false (.bin .neq (.s 30) (.s 31)),I 33 (.pick (.s 28) (.v (.bool true)) (.s 32)),I 34 (.mv (.s 33)),G 35 34 false (.ld true 3 (.s 11)),G 36 34 false (.ld true 3 (.s 7)),G 37 34 false (.eqs true 0 [(0,0),(1,0),(2,0)] (.s 35) (.s 36)),I 38 (.pick (.s 34) (.v (.bool true)) (.s 37))])
def ZaH:PC :=
 (.reg [8] [I 8 (.mv (V 23))])
def ZaI:PC :=
 (.reg [8] [I 8 (.mv (V 0))])
def ZSp:PF:=⟨false,
 (.seq ZaB
 (.seq ZaC
 (.seq (.seq ZaD
 (.ite (.s 19)
 (.seq ZaE
 .ret)
 .skip))
 (.seq ZaF
 (.seq (.seq ZaG
 (.ite (.s 38)
 (.seq ZaH
 .ret)
 .skip))
 (.seq ZaI
 .ret)))))),
 [.s 8]⟩
theorem ZfZ:Zx Proofs.Tryz.prog false ZfY Proofs.Tryz.f112=some ZSp:=by kernel_rfl
def Zfa:List Hint:=[H [0,3,5,6],H [0,3,5,6,14,15,16],H [0,3,5,6,14,15,16,17],H [0,3,5,6,10,14,15,16],H [0,3,5,6,11,14,15,16],H [0,3,5,6,11,14,15,16,24],H [8],H [0,3,5,6,14,15,16],H [5,6,38],H [8],⟨[44],[],[(1,.pure)],[],[],[]⟩,H [8],H [8]]
def ZaJ:PC :=
 (.reg [0,3,5,6] [I 5 (.box (.s 1)),I 6 (.box (.s 2)),I 8 (.mv (V 0))])
def ZaK:PC :=
 (.reg [0,3,5,6,14,15,16] [I 12 (.ld true 7 (.s 5)),I 13 (.ld true 7 (.s 6)),I 14 (.bslice false 7 [ZT,ZT] [(0,(.s 12)),(1,(.s 13))]),I 15 (.len 1 (.s 14)),I 16 (.mv (V 0))])
def ZaL:PC :=
 (.reg [0,3,5,6,14,15,16,17] [I 17 (.bin .lss (.s 16) (.s 15))])
def ZaM:PC :=
 (.reg [0,3,5,6,10,14,15,16] [I 18 (.ixS 7 (.s 14) (.s 16)),I 19 (.ld true 7 (.s 18)),I 10 (.box (.v ZT)),J (.st 7 (.s 10) (.s 19))])
def ZaN:PC :=
 (.reg [0,3,5,6,11,14,15,16] [I 20 (.mv (.s 0)),I 21 (.ld true 7 (.s 10)),I 22 (C Jh [(.s 20),(.s 21)]),I 11 (.mv (.s 22))])
def ZaO:PC :=
 (.reg [0,3,5,6,11,14,15,16,24] [I 23 (.mv (.s 11)),I 24 (.bin .neq (.s 23) (V 0))])
def ZaP:PC :=
 (.reg [8] [I 25 (.mv (.s 11)),I 8 (.mv (.s 25))])
def ZaQ:PC :=
 (.reg [0,3,5,6,14,15,16] [I 26 (.bin .add (.s 16) (V 1)),I 16 (.mv (.s 26))])
def ZaR:PC :=
 (.seq ZaL
 (.seq (.ite (.s 17)
 .skip
 (.exit 0))
 (.seq (.block 1
 (.seq ZaM
 (.seq ZaN
 (.seq ZaO
 (.ite (.s 24)
 (.seq ZaP
 .ret)
 .skip)))))
 ZaQ)))
def ZaS:PC :=
 (.reg [5,6,38] [I 27 (.mv (.s 3)),I 28 (.un .not (.s 27)),I 29 (.mv (.s 28)),G 30 29 true (.ld true 7 (.s 5)),G 31 29 true (C QY [(.s 30)]),G 32 29 true (.bin .eql (.s 31) (V 1)),G 33 29 true (.mv (.s 32)),G 34 33 false (.ld true 7 (.s 6)),G 35 33 false (C QY [(.s 34)]),G 36 33 false (.bin .eql (.s 35) (V 1)),G 37 29 true (.pick (.s 33) (.v (.bool true)) (.s 36)),I 38 (.pick (.s 29) (.s 37) (.v (.bool false)))])
def ZXb:PC :=
 (.reg [8] [I 8 (.mv (V 2))])
def ZXc:PC :=
 (.reg [44] [I 39 (.ld true 7 (.s 5)),I 40 (.call .pure (.v (.func (.func QV) [] [])) [(.s 39)]),I 41 (.ld true 7 (.s 6)),I 42 (C QV [(.s 41)]),I 43 (.bin .add (.s 40) (.s 42)),I 44 (.bin .gtr (.s 43) (V 65536))])
def ZXd:PC :=
 (.reg [8] [I 8 (.mv (V 5))])
def ZXe:PC :=
 (.reg [8] [I 8 (.mv (V 0))])
def ZSq:PF:=⟨false,
 (.seq ZaJ
 (.seq (.seq ZaK
 (.block 0
 (.loop ZaR)))
 (.seq (.seq ZaS
 (.ite (.s 38)
 (.seq ZXb
 .ret)
 .skip))
 (.seq (.seq ZXc
 (.ite (.s 44)
 (.seq ZXd
 .ret)
 .skip))
 (.seq ZXe
 .ret))))),
 [.s 8]⟩
theorem Zfb:Zx Proofs.Tryz.prog false Zfa Proofs.Tryz.f113=some ZSq:=by kernel_rfl
def ZaT:List Hint:=[H [0,4,5,6],H [0,4,5,6,12],H [6,7],H [0,4,5,6,16],H [6,7],H [6,8,9],H [6,8,9,26],H [6,7],H [6,7]]
def ZTf:PC :=
 (.reg [0,4,5,6] [I 4 (.box (.s 1)),I 5 (.box (.s 2)),I 6 (.box (.v ZT)),I 7 (.mv (V 0))])
def ZTg:PC :=
 (.reg [0,4,5,6,12] [I 10 (.ld true 7 (.s 4)),I 11 (C QY [(.s 10)]),I 12 (.bin .eql (.s 11) (V 1))])
def ZTh:PC :=
 (.reg [6,7] [I 13 (.ld true 7 (.s 5)),J (.st 7 (.s 6) (.s 13)),I 7 (.mv (V 0))])
def ZTi:PC :=
 (.reg [0,4,5,6,16] [I 14 (.ld true 7 (.s 5)),I 15 (C QY [(.s 14)]),I 16 (.bin .eql (.s 15) (V 1))])
def ZTj:PC :=
 (.reg [6,7] [I 17 (.ld true 7 (.s 4)),J (.st 7 (.s 6) (.s 17)),I 7 (.mv (V 0))])
def ZTk:PC :=
 (.reg [6,8,9] [I 19 (.mv (.s 0)),I 20 (.ld true 7 (.s 4)),I 21 (.ld true 7 (.s 5)),I 22 (C ZAL [(.s 19),(.s 20),(.s 21)]),I 18 (.mv (.s 22)),I 23 (.ext (.s 18) 0),I 24 (.ext (.s 18) 1),I 8 (.mv (.s 23)),I 9 (.mv (.s 24))])
def ZTl:PC :=
 (.reg [6,8,9,26] [I 25 (.mv (.s 9)),I 26 (.bin .neq (.s 25) (V 0))])
def ZTm:PC :=
 (.reg [6,7] [I 27 (.build [(.int .u64 0),(.int .i64 0),(.int .i64 0),(.int .i64 0),(.int .i64 0),(.str []),.nils] []),I 28 (.mv (.s 9)),J (.st 7 (.s 6) (.s 27)),I 7 (.mv (.s 28))])
def ZTn:PC :=
 (.reg [6,7] [I 29 (.mv (.s 8)),I 30 (C QO [(.s 29)]),J (.st 7 (.s 6) (.s 30)),I 7 (.mv (V 0))])
def ZNG:PF:=⟨false,
 (.seq ZTf
 (.seq (.seq ZTg
 (.ite (.s 12)
 (.seq ZTh
 .ret)
 .skip))
 (.seq (.seq ZTi
 (.ite (.s 16)
 (.seq ZTj
 .ret)
 .skip))
 (.seq ZTk
 (.seq (.seq ZTl
 (.ite (.s 26)
 (.seq ZTm
 .ret)
 .skip))
 (.seq ZTn
 .ret)))))),
 [.c 6 true 7,.s 7]⟩
theorem ZaU:Zx Proofs.Tryz.prog false ZaT Proofs.Tryz.f114=some ZNG:=by kernel_rfl
def Zg9:List Hint:=[H [1,2],H [1,2,9],H [1,2],H [2],H [1,2,3],H [1,2,3,17,18,19],H [1,2,3,17,18,19,20],H [1,2,3,4,5,17,18,19],H [1,2,3,17,18,19],H [1,2,3,17,18,19],H [1,2],H [2]]
def ZdT:PC :=
 (.reg [1,2] [I 1 (.box (.s 0)),I 2 (.box (.v ZT))])
def ZdU:PC :=
 (.reg [1,2,9] [I 6 (.fadr 6 (.s 1)),I 7 (.ld false 1 (.s 6)),I 8 (.len 1 (.s 7)),I 9 (.bin .eql (.s 8) (V 0))])
def ZdV:PC :=
 (.reg [1,2] [I 10 (.fadr 6 (.s 1)),J (.st 1 (.s 10) (.v .nils))])
def ZdW:PC :=
 (.reg [2] [I 11 (.ld true 7 (.s 1)),J (.st 7 (.s 2) (.s 11))])
def ZdX:PC :=
 (.reg [1,2,3] [I 12 (.fadr 6 (.s 1)),I 13 (.ld false 1 (.s 12)),I 14 (.len 1 (.s 13)),I 15 (.mkslice 7 80 ZT (.s 14) (.s 14)),I 3 (.mv (.s 15))])
def ZdY:PC :=
 (.reg [1,2,3,17,18,19] [I 16 (.fadr 6 (.s 1)),I 17 (.ld false 1 (.s 16)),I 18 (.len 1 (.s 17)),I 19 (.mv (V 0))])
def ZdZ:PC :=
 (.reg [1,2,3,17,18,19,20] [I 20 (.bin .lss (.s 19) (.s 18))])
def Zda:PC :=
 (.reg [1,2,3,4,5,17,18,19] [I 21 (.mv (.s 19)),I 22 (.ixS 7 (.s 17) (.s 19)),I 23 (.ld true 7 (.s 22)),I 5 (.box (.v ZT)),I 4 (.mv (.s 21)),J (.st 7 (.s 5) (.s 23))])
def Zdb:PC :=
 (.reg [1,2,3,17,18,19] [I 24 (.mv (.s 3)),I 25 (.mv (.s 4)),I 26 (.ld true 7 (.s 5)),I 27 (C XA [(.s 26)]),I 28 (.ixS 7 (.s 24) (.s 25)),J (.st 7 (.s 28) (.s 27))])
def Zdc:PC :=
 (.reg [1,2,3,17,18,19] [I 29 (.bin .add (.s 19) (V 1)),I 19 (.mv (.s 29))])
def ZaV:PC :=
 (.seq ZdZ
 (.seq (.ite (.s 20)
 .skip
 (.exit 0))
 (.seq (.block 1
 (.seq Zda
 Zdb))
 Zdc)))
def ZaW:PC :=
 (.reg [1,2] [I 30 (.mv (.s 3)),I 31 (.fadr 6 (.s 1)),J (.st 1 (.s 31) (.s 30))])
def ZaX:PC :=
 (.reg [2] [I 32 (.ld true 7 (.s 1)),J (.st 7 (.s 2) (.s 32))])
def ZXf:PF:=⟨false,
 (.seq ZdT
 (.seq (.seq ZdU
 (.ite (.s 9)
 (.seq ZdV
 (.seq ZdW
 .ret))
 .skip))
 (.seq ZdX
 (.seq (.seq ZdY
 (.block 0
 (.loop ZaV)))
 (.seq ZaW
 (.seq ZaX
 .ret)))))),
 [.c 2 true 7]⟩
theorem ZhA:Zx Proofs.Tryz.prog false Zg9 Proofs.Tryz.f115=some ZXf:=by kernel_rfl
def Zdd:List Hint:=[H [1],H [1,3],H [3,14,15,16],H [3,14,15,16,17],H [3,5,14,15,16],H [3,14,15,16],H [3,14,15,16],H [2]]
def ZXg:PC :=
 (.reg [1] [I 1 (.box (.s 0)),I 2 (.mv (V 0))])
def ZXh:PC :=
 (.reg [1,3] [I 6 (.fadr 2 (.s 1)),I 7 (.fadr 0 (.s 6)),I 8 (.ld false 1 (.s 7)),I 9 (.fadr 5 (.s 1)),I 10 (.ld false 1 (.s 9)),I 11 (.len 0 (.s 10)),I 12 (.bin .add (.s 8) (.s 11)),I 3 (.mv (.s 12))])
def ZXi:PC :=
 (.reg [3,14,15,16] [I 13 (.fadr 6 (.s 1)),I 14 (.ld false 1 (.s 13)),I 15 (.len 1 (.s 14)),I 16 (.mv (V 0))])
def ZXj:PC :=
 (.reg [3,14,15,16,17] [I 17 (.bin .lss (.s 16) (.s 15))])
def ZXk:PC :=
 (.reg [3,5,14,15,16] [I 18 (.ixS 7 (.s 14) (.s 16)),I 19 (.ld true 7 (.s 18)),I 5 (.box (.v ZT)),J (.st 7 (.s 5) (.s 19))])
def ZXl:PC :=
 (.reg [3,14,15,16] [I 20 (.mv (.s 3)),I 21 (.ld true 7 (.s 5)),I 22 (C QV [(.s 21)]),I 23 (.bin .add (.s 20) (.s 22)),I 3 (.mv (.s 23))])
def ZXm:PC :=
 (.reg [3,14,15,16] [I 24 (.bin .add (.s 16) (V 1)),I 16 (.mv (.s 24))])
def ZXn:PC :=
 (.seq ZXj
 (.seq (.ite (.s 17)
 .skip
 (.exit 0))
 (.seq (.block 1
 (.seq ZXk
 ZXl))
 ZXm)))
def ZXo:PC :=
 (.reg [2] [I 25 (.mv (.s 3)),I 2 (.mv (.s 25))])
def ZPi:PF:=⟨false,
 (.seq ZXg
 (.seq ZXh
 (.seq (.seq ZXi
 (.block 0
 (.loop ZXn)))
 (.seq ZXo
 .ret)))),
 [.s 2]⟩
theorem Zde:Zx Proofs.Tryz.prog false Zdd Proofs.Tryz.f116=some ZPi:=by kernel_rfl
def ZhB:List Hint:=[H [0,2,4,6,7],H [0,2,4,6,7,18],⟨[6,7,8],[],[],[],[(1,(.hide [(.s 6)])),(2,(.plain (.s 6)))],[]⟩,H [0,2,4,6,7,24],H [6,7,8],H [0,2,4,6,7,29],H [2,6,7,9,10],H [2,6,7,9,10,37],H [6,7,8],H [6,7,10,11,12],H [6,7,8],H [0,2,6,7,8,13],H [0,2,6,7,8,13,60],H [6,7,8],H [0,2,6,7,13,14],H [0,2,6,7,13,14,77],H [0,2,6,7,13,14],H [0,2,6,7,13,14],H [0,2,6,7,13,14,88],⟨[6,7,8],[],[(3,.pure)],[],[],[]⟩,H [0,6,7,8,13,14,15,16],H [0,6,7,8,13,14,15,16,109],H [6,7,8],⟨[0,6,7,8,13,14,16],[],[(4,.pure)],[],[],[]⟩,H [0,6,7,8,13,14,16,124],H [6,7,8],⟨[6,7,8],[],[(6,.pure)],[],[],[]⟩,H [6,7,8,140],H [6,7,8],⟨[6,7,8],[],[],[],[(1,(.hide [(.s 6)])),(2,(.plain (.s 6)))],[]⟩]
def Zdf:PC :=
 (.reg [0,2,4,6,7] [I 4 (.box (.s 1)),I 6 (.box (.v ZT)),I 7 (.box (.v ZT)),I 8 (.mv (V 0))])
def Zdg:PC :=
 (.reg [0,2,4,6,7,18] [I 17 (.mv (.s 2)),I 18 (.bin .eql (.s 17) (V 0))])
def Zdh:PC :=
 (.reg [6,7,8] [I 19 (.build [(.int .u64 0),(.int .i64 0),(.int .i64 0),(.int .i64 0),(.int .i64 0),(.str []),.nils] []),I 20 (.w (.hide [(.s 6)]) (.ld true 7 (.s 4))),J (.w (.plain (.s 6)) (.st 7 (.s 6) (.s 19))),J (.st 7 (.s 7) (.s 20)),I 8 (.mv (V 0))])
def Zdi:PC :=
 (.reg [0,2,4,6,7,24] [I 21 (.mv (.s 2)),I 22 (.ld true 7 (.s 4)),I 23 (C QV [(.s 22)]),I 24 (.bin .eql (.s 21) (.s 23))])
def Zdj:PC :=
 (.reg [6,7,8] [I 25 (.ld true 7 (.s 4)),I 26 (.build [(.int .u64 0),(.int .i64 0),(.int .i64 0),(.int .i64 0),(.int .i64 0),(.str []),.nils] []),J (.st 7 (.s 6) (.s 25)),J (.st 7 (.s 7) (.s 26)),I 8 (.mv (V 0))])
def Zdk:PC :=
 (.reg [0,2,4,6,7,29] [I 27 (.fadr 1 (.s 4)),I 28 (.ld false 1 (.s 27)),I 29 (.bin .eql (.s 28) (V 0))])
def Zdl:PC :=
 (.reg [2,6,7,9,10] [I 31 (.mv (.s 0)),I 32 (.ld true 7 (.s 4)),I 33 (C X8 [(.s 31),(.s 32)]),I 30 (.mv (.s 33)),I 34 (.ext (.s 30) 0),I 35 (.ext (.s 30) 1),I 9 (.mv (.s 34)),I 10 (.mv (.s 35))])
def Zdm:PC :=
 (.reg [2,6,7,9,10,37] [I 36 (.mv (.s 10)),I 37 (.bin .neq (.s 36) (V 0))])
def Zdn:PC :=
 (.reg [6,7,8] [I 38 (.build [(.int .u64 0),(.int .i64 0),(.int .i64 0),(.int .i64 0),(.int .i64 0),(.str []),.nils] []),I 39 (.build [(.int .u64 0),(.int .i64 0),(.int .i64 0),(.int .i64 0),(.int .i64 0),(.str []),.nils] []),I 40 (.mv (.s 10)),J (.st 7 (.s 6) (.s 38)),J (.st 7 (.s 7) (.s 39)),I 8 (.mv (.s 40))])
def Zdo:PC :=
 (.reg [6,7,10,11,12] [I 42 (.mv (.s 9)),I 43 (.mv (.s 2)),I 44 (C ZJA [(.s 42),(.s 43)]),I 41 (.mv (.s 44)),I 45 (.ext (.s 41) 0),I 46 (.ext (.s 41) 1),I 47 (.ext (.s 41) 2),I 11 (.mv (.s 45)),I 12 (.mv (.s 46)),I 10 (.mv (.s 47))])
def ZaY:PC :=
 (.reg [6,7,8] [I 48 (.mv (.s 11)),I 49 (.build [(.int .u64 0),(.int .i64 0),(.int .i64 0),(.int .i64 0),(.int .i64 0),(.str []),.nils] [(5,1,(.s 48))]),I 50 (.mv (.s 12)),I 51 (.build [(.int .u64 0),(.int .i64 0),(.int .i64 0),(.int .i64 0),(.int .i64 0),(.str []),.nils] [(5,1,(.s 50))]),I 52 (.mv (.s 10)),J (.st 7 (.s 6) (.s 49)),J (.st 7 (.s 7) (.s 51)),I 8 (.mv (.s 52))])
def ZaZ:PC :=
 (.reg [0,2,6,7,8,13] [I 54 (.mv (.s 0)),I 55 (.ld true 7 (.s 4)),I 56 (C Jy [(.s 54),(.s 55)]),I 53 (.mv (.s 56)),I 57 (.ext (.s 53) 0),I 58 (.ext (.s 53) 1),I 13 (.mv (.s 57)),I 8 (.mv (.s 58))])
def Zaa:PC :=
 (.reg [0,2,6,7,8,13,60] [I 59 (.mv (.s 8)),I 60 (.bin .neq (.s 59) (V 0))])
def Zab:PC :=
 (.reg [6,7,8] [I 61 (.build [(.int .u64 0),(.int .i64 0),(.int .i64 0),(.int .i64 0),(.int .i64 0),(.str []),.nils] []),I 62 (.build [(.int .u64 0),(.int .i64 0),(.int .i64 0),(.int .i64 0),(.int .i64 0),(.str []),.nils] []),I 63 (.mv (.s 8)),J (.st 7 (.s 6) (.s 61)),J (.st 7 (.s 7) (.s 62)),I 8 (.mv (.s 63))])
def Zac:PC :=
 (.reg [0,2,6,7,13,14] [I 14 (.mv (V 0))])
def Zad:PC :=
 (.reg [0,2,6,7,13,14,77] [I 64 (.mv (.s 14)),I 65 (.bin .add (.s 64) (V 1)),I 66 (.mv (.s 13)),I 67 (.len 1 (.s 66)),I 68 (.bin .lss (.s 65) (.s 67)),I 69 (.mv (.s 68)),G 70 69 true (.mv (.s 2)),G 71 69 true (.mv (.s 13)),G 72 69 true (.mv (.s 14)),G 73 69 true (.ixS 7 (.s 71) (.s 72)),G 74 69 true (.ld true 7 (.s 73)),G 75 69 true (C QV [(.s 74)]),G 76 69 true (.bin .geq (.s 70) (.s 75)),I 77 (.pick (.s 69) (.s 76) (.v (.bool false)))])
def Zae:PC :=
 (.reg [0,2,6,7,13,14] [I 78 (.mv (.s 2)),I 79 (.mv (.s 13)),I 80 (.mv (.s 14)),I 81 (.ixS 7 (.s 79) (.s 80)),I 82 (.ld true 7 (.s 81)),I 83 (C QV [(.s 82)]),I 84 (.bin .sub (.s 78) (.s 83)),I 2 (.mv (.s 84))])
def Zaf:PC :=
 (.reg [0,2,6,7,13,14] [I 85 (.mv (.s 14)),I 86 (.bin .add (.s 85) (V 1)),I 14 (.mv (.s 86))])
def ZNH:PC :=
 (.seq (.seq Zad
 (.ite (.s 77)
 .skip
 (.exit 0)))
 (.block 1
 (.seq Zae
 Zaf)))
def Zag:PC :=
 (.reg [0,2,6,7,13,14,88] [I 87 (.mv (.s 2)),I 88 (.bin .eql (.s 87) (V 0))])
def Zah:PC :=
 (.reg [6,7,8] [I 89 (.mv (.s 13)),I 90 (.mv (.s 14)),I 91 (.slc 7 (.s 89) none (some (.s 90))),I 92 (.call .pure (.v (.func (.func QO) [] [])) [(.s 91)]),I 93 (.mv (.s 13)),I 94 (.mv (.s 14)),I 95 (.slc 7 (.s 93) (some (.s 94)) none),I 96 (C QO [(.s 95)]),J (.st 7 (.s 6) (.s 92)),J (.st 7 (.s 7) (.s 96)),I 8 (.mv (V 0))])
def Zai:PC :=
 (.reg [0,6,7,8,13,14,15,16] [I 98 (.mv (.s 0)),I 99 (.mv (.s 13)),I 100 (.mv (.s 14)),I 101 (.ixS 7 (.s 99) (.s 100)),I 102 (.ld true 7 (.s 101)),I 103 (.mv (.s 2)),I 104 (C Xy [(.s 98),(.s 102),(.s 103)]),I 97 (.mv (.s 104)),I 105 (.ext (.s 97) 0),I 106 (.ext (.s 97) 1),I 107 (.ext (.s 97) 2),I 15 (.box (.v ZT)),I 16 (.box (.v ZT)),J (.st 7 (.s 15) (.s 105)),J (.st 7 (.s 16) (.s 106)),I 8 (.mv (.s 107))])
def Zaj:PC :=
 (.reg [0,6,7,8,13,14,15,16,109] [I 108 (.mv (.s 8)),I 109 (.bin .neq (.s 108) (V 0))])
def Zak:PC :=
 (.reg [6,7,8] [I 110 (.build [(.int .u64 0),(.int .i64 0),(.int .i64 0),(.int .i64 0),(.int .i64 0),(.str []),.nils] []),I 111 (.build [(.int .u64 0),(.int .i64 0),(.int .i64 0),(.int .i64 0),(.int .i64 0),(.str []),.nils] []),I 112 (.mv (.s 8)),J (.st 7 (.s 6) (.s 110)),J (.st 7 (.s 7) (.s 111)),I 8 (.mv (.s 112))])
def Zal:PC :=
 (.reg [0,6,7,8,13,14,16] [I 114 (.mv (.s 0)),I 115 (.mv (.s 13)),I 116 (.mv (.s 14)),I 117 (.slc 7 (.s 115) none (some (.s 116))),I 118 (.call .pure (.v (.func (.func QO) [] [])) [(.s 117)]),I 119 (.ld true 7 (.s 15)),I 120 (C J9 [(.s 114),(.s 118),(.s 119)]),I 113 (.mv (.s 120)),I 121 (.ext (.s 113) 0),I 122 (.ext (.s 113) 1),J (.st 7 (.s 6) (.s 121)),I 8 (.mv (.s 122))])
def Zam:PC :=
 (.reg [0,6,7,8,13,14,16,124] [I 123 (.mv (.s 8)),I 124 (.bin .neq (.s 123) (V 0))])
def Zan:PC :=
 (.reg [6,7,8] [I 125 (.build [(.int .u64 0),(.int .i64 0),(.int .i64 0),(.int .i64 0),(.int .i64 0),(.str []),.nils] []),I 126 (.build [(.int .u64 0),(.int .i64 0),(.int .i64 0),(.int .i64 0),(.int .i64 0),(.str []),.nils] []),I 127 (.mv (.s 8)),J (.st 7 (.s 6) (.s 125)),J (.st 7 (.s 7) (.s 126)),I 8 (.mv (.s 127))])
def Zao:PC :=
 (.reg [6,7,8] [I 129 (.mv (.s 0)),I 130 (.ld true 7 (.s 16)),I 131 (.mv (.s 13)),I 132 (.mv (.s 14)),I 133 (.bin .add (.s 132) (V 1)),I 134 (.slc 7 (.s 131) (some (.s 133)) none),I 135 (.call .pure (.v (.func (.func QO) [] [])) [(.s 134)]),I 136 (C J9 [(.s 129),(.s 130),(.s 135)]),I 128 (.mv (.s 136)),I 137 (.ext (.s 128) 0),I 138 (.ext (.s 128) 1),J (.st 7 (.s 7) (.s 137)),I 8 (.mv (.s 138))])
def Zap:PC :=
 (.reg [6,7,8,140] [I 139 (.mv (.s 8)),I 140 (.bin .neq (.s 139) (V 0))])
def Zaq:PC :=
 (.reg [6,7,8] [I 141 (.build [(.int .u64 0),(.int .i64 0),(.int .i64 0),(.int .i64 0),(.int .i64 0),(.str []),.nils] []),I 142 (.build [(.int .u64 0),(.int .i64 0),(.int .i64 0),(.int .i64 0),(.int .i64 0),(.str []),.nils] []),I 143 (.mv (.s 8)),J (.st 7 (.s 6) (.s 141)),J (.st 7 (.s 7) (.s 142)),I 8 (.mv (.s 143))])
def Zar:PC :=
 (.reg [6,7,8] [I 144 (.ld true 7 (.s 6)),I 145 (.w (.hide [(.s 6)]) (.ld true 7 (.s 7))),J (.w (.plain (.s 6)) (.st 7 (.s 6) (.s 144))),J (.st 7 (.s 7) (.s 145)),I 8 (.mv (V 0))])
def ZXp:PF:=⟨false,
 (.seq Zdf
 (.seq (.seq Zdg
 (.ite (.s 18)
 (.seq Zdh
 .ret)
 .skip))
 (.seq (.seq Zdi
 (.ite (.s 24)
 (.seq Zdj
 .ret)
 .skip))
 (.seq (.seq Zdk
 (.ite (.s 29)
 (.seq Zdl
 (.seq (.seq Zdm
 (.ite (.s 37)
 (.seq Zdn
 .ret)
 .skip))
 (.seq Zdo
 (.seq ZaY
 .ret))))
 .skip))
 (.seq ZaZ
 (.seq (.seq Zaa
 (.ite (.s 60)
 (.seq Zab
 .ret)
 .skip))
 (.seq Zac
 (.seq (.block 0
 (.loop ZNH))
 (.seq (.seq Zag
 (.ite (.s 88)
 (.seq Zah
 .ret)
 .skip))
 (.seq Zai
 (.seq (.seq Zaj
 (.ite (.s 109)
 (.seq Zak
 .ret)
 .skip))
 (.seq (.seq Zal
 (.seq Zam
 (.ite (.s 124)
 (.seq Zan
 .ret)
 .skip)))
 (.seq (.seq Zao
 (.seq Zap
 (.ite (.s 140)
 (.seq Zaq
 .ret)
 .skip)))
 (.seq Zar
 .ret)))))))))))))),
 [.c 6 true 7,.c 7 true 7,.s 8]⟩
theorem ZhC:Zx Proofs.Tryz.prog false ZhB Proofs.Tryz.f117=some ZXp:=by kernel_rfl
def ZKm:List Hint:=[H [0,1],H [0,1,6,7],H [0,1,6,34],H [4,5],H [0,6,7,8],H [4,5]]
def ZGl:PC :=
 (.reg [0,1] [I 4 (.mv (V 0)),I 5 (.mv (.v (.bool false)))])
def ZGm:PC :=
 (.reg [0,1,6,7] [I 10 (.mv (.s 1)),I 11 (C ZAz [(.s 10)]),I 9 (.mv (.s 11)),I 12 (.ext (.s 9) 0),I 13 (.ext (.s 9) 1),I 6 (.mv (.s 12)),I 7 (.mv (.s 13))])
def ZGn:PC :=
 (.reg [0,1,6,34] [I 14 (.mv (.s 7)),I 15 (.bin .neq (.s 14) (V 0)),I 16 (.mv (.s 15)),G 17 16 false (.mv (.s 6)),G 18 16 false (.mv (.s 0)),G 19 16 false (.nilck (.s 18)),G 20 16 false (.fadr 1 (.s 19)),G 21 16 false (.ld false 1 (.s 20)),G 22 16 false (.len 1 (.s 21)),G 23 16 false (.bin .geq (.s 17) (.s 22)),I 24 (.pick (.s 16) (.v (.bool true)) (.s 23)),I 25 (.mv (.s 24)),G 26 25 false (.mv (.s 0)),G 27 25 false (.nilck (.s 26)),G 28 25 false (.fadr 1 (.s 27)),G 29 25 false (.ld false 1 (.s 28)),G 30 25 false (.mv (.s 6)),G 31 25 false (.ixS 1 (.s 29) (.s 30)),G 32 25 false (.ld false 1 (.s 31)),G 33 25 false (.bin .neq (.s 32) (.v (.int .u8 1))),I 34 (.pick (.s 25) (.v (.bool true)) (.s 33))])
def ZGo:PC :=
 (.reg [4,5] [I 4 (.mv (V 0)),I 5 (.mv (.v (.bool false)))])
def ZGp:PC :=
 (.reg [0,6,7,8] [I 36 (.mv (.s 1)),I 37 (C ZFd [(.s 36)]),I 35 (.mv (.s 37)),I 38 (.ext (.s 35) 0),I 39 (.ext (.s 35) 1),I 8 (.mv (.s 38)),I 7 (.mv (.s 39))])
def ZGq:PC :=
 (.reg [4,5] [I 40 (.mv (.s 6)),I 41 (.mv (.s 7)),I 42 (.bin .eql (.s 41) (V 0)),I 43 (.mv (.s 42)),G 44 43 true (.mv (.s 8)),G 45 43 true (.mv (.s 0)),G 46 43 true (.nilck (.s 45)),G 47 43 true (.fadr 2 (.s 46)),G 48 43 true (.ld false 1 (.s 47)),G 49 43 true (.mv (.s 6)),G 50 43 true (.ixS 1 (.s 48) (.s 49)),G 51 43 true (.ld false 1 (.s 50)),G 52 43 true (.bin .eql (.s 44) (.s 51)),I 53 (.pick (.s 43) (.s 52) (.v (.bool false))),I 4 (.mv (.s 40)),I 5 (.mv (.s 53))])
def ZA9:PF:=⟨false,
 (.seq ZGl
 (.seq ZGm
 (.seq (.seq ZGn
 (.ite (.s 34)
 (.seq ZGo
 .ret)
 .skip))
 (.seq ZGp
 (.seq ZGq
 .ret))))),
 [.s 4,.s 5]⟩
theorem ZKn:Zx Proofs.Tryz.prog false ZKm Proofs.Tryz.f118=some ZA9:=by kernel_rfl
def Zdp:List Hint:=[H [0,2,3,5],H [0,2,3,5,9],H [0,2,5,9,30],H [8],H [0,2,5,32],H [0,2,5,10],H [0,2,5,10,42],H [8],H [0,5,54],H [8],H [0,5,56,57,58],H [0,5,56,57,58,59],H [0,5,12,56,57,58],H [0,5,13,56,57,58],H [0,5,13,56,57,58,69],H [8],H [0,5,56,57,58],H [8]]
def ZXq:PC :=
 (.reg [0,2,3,5] [I 5 (.box (.s 1)),I 8 (.mv (V 0))])
def ZXr:PC :=
 (.reg [0,2,3,5,9] [I 14 (.ld true 7 (.s 5)),I 15 (C QY [(.s 14)]),I 9 (.mv (.s 15))])
def ZXs:PC :=
 (.reg [0,2,5,9,30] [I 16 (.mv (.s 9)),I 17 (.bin .eql (.s 16) (V 0)),I 18 (.mv (.s 17)),G 19 18 false (.mv (.s 9)),G 20 18 false (.bin .eql (.s 19) (V 1)),I 21 (.pick (.s 18) (.v (.bool true)) (.s 20)),I 22 (.mv (.s 21)),G 23 22 false (.mv (.s 2)),G 24 22 false (.mv (.s 23)),G 25 24 true (.fadr 1 (.s 5)),G 26 24 true (.ld false 1 (.s 25)),G 27 24 true (.mv (.s 3)),G 28 24 true (.bin .neq (.s 26) (.s 27)),G 29 22 false (.pick (.s 24) (.s 28) (.v (.bool false))),I 30 (.pick (.s 22) (.v (.bool true)) (.s 29))])
def ZXt:PC :=
 (.reg [8] [I 8 (.mv (V 23))])
def ZXu:PC :=
 (.reg [0,2,5,32] [I 31 (.mv (.s 9)),I 32 (.bin .eql (.s 31) (V 2))])
def ZXv:PC :=
 (.reg [0,2,5,10] [I 33 (.mv (.s 0)),I 34 (.fadr 0 (.s 5)),I 35 (.ld false 1 (.s 34)),I 36 (.fadr 1 (.s 5)),I 37 (.ld false 1 (.s 36)),I 38 (.fadr 2 (.s 5)),I 39 (.ld true 3 (.s 38)),I 40 (C ZDn [(.s 33),(.s 35),(.s 37),(.s 39)]),I 10 (.mv (.s 40))])
def ZXw:PC :=
 (.reg [0,2,5,10,42] [I 41 (.mv (.s 10)),I 42 (.bin .neq (.s 41) (V 0))])
def ZXx:PC :=
 (.reg [8] [I 43 (.mv (.s 10)),I 8 (.mv (.s 43))])
def ZXy:PC :=
 (.reg [0,5,54] [I 44 (.mv (.s 2)),I 45 (.mv (.s 44)),G 46 45 true (.fadr 1 (.s 5)),G 47 45 true (.ld false 1 (.s 46)),G 48 45 true (.bin .eql (.s 47) (V 0)),I 49 (.pick (.s 45) (.s 48) (.v (.bool false))),I 50 (.mv (.s 49)),G 51 50 true (.ld true 7 (.s 5)),G 52 50 true (C QV [(.s 51)]),G 53 50 true (.bin .lss (.s 52) (V 8)),I 54 (.pick (.s 50) (.s 53) (.v (.bool false)))])
def ZXz:PC :=
 (.reg [8] [I 8 (.mv (V 23))])
def ZTo:PC :=
 (.reg [0,5,56,57,58] [I 55 (.fadr 6 (.s 5)),I 56 (.ld false 1 (.s 55)),I 57 (.len 1 (.s 56)),I 58 (.mv (V 0))])
def ZTp:PC :=
 (.reg [0,5,56,57,58,59] [I 59 (.bin .lss (.s 58) (.s 57))])
def ZTq:PC :=
 (.reg [0,5,12,56,57,58] [I 60 (.ixS 7 (.s 56) (.s 58)),I 61 (.ld true 7 (.s 60)),I 12 (.box (.v ZT)),J (.st 7 (.s 12) (.s 61))])
def ZTr:PC :=
 (.reg [0,5,13,56,57,58] [I 62 (.mv (.s 0)),I 63 (.ld true 7 (.s 12)),I 64 (.fadr 1 (.s 5)),I 65 (.ld false 1 (.s 64)),I 66 (.bin .sub (.s 65) (V 1)),I 67 (C ZBe [(.s 62),(.s 63),(.v (.bool true)),(.s 66)]),I 13 (.mv (.s 67))])
def ZTs:PC :=
 (.reg [0,5,13,56,57,58,69] [I 68 (.mv (.s 13)),I 69 (.bin .neq (.s 68) (V 0))])
def ZTt:PC :=
 (.reg [8] [I 70 (.mv (.s 13)),I 8 (.mv (.s 70))])
def ZTu:PC :=
 (.reg [0,5,56,57,58] [I 71 (.bin .add (.s 58) (V 1)),I 58 (.mv (.s 71))])
def ZHR:PC :=
 (.seq ZTp
 (.seq (.ite (.s 59)
 .skip
 (.exit 0))
 (.seq (.block 1
 (.seq ZTq
 (.seq ZTr
 (.seq ZTs
 (.ite (.s 69)
 (.seq ZTt
 .ret)
 .skip)))))
 ZTu)))
def ZTv:PC :=
 (.reg [8] [I 8 (.mv (V 0))])
def ZPj:PF:=⟨false,
 (.seq ZXq
 (.seq ZXr
 (.seq (.seq ZXs
 (.ite (.s 30)
 (.seq ZXt
 .ret)
 .skip))
 (.seq (.seq ZXu
 (.ite (.s 32)
 (.seq ZXv
 (.seq ZXw
 (.ite (.s 42)
 (.seq ZXx
 .ret)
 .skip)))
 .skip))
 (.seq (.seq ZXy
 (.ite (.s 54)
 (.seq ZXz
 .ret)
 .skip))
 (.seq (.seq ZTo
 (.block 0
 (.loop ZHR)))
 (.seq ZTv
 .ret))))))),
 [.s 8]⟩
theorem Zdq:Zx Proofs.Tryz.prog false Zdp Proofs.Tryz.f119=some ZPj:=by kernel_rfl
def Zas:List Hint:=[H [1,2,3,4],H [1,2,3,4,15],H [2,6,7],H [7],H [5],H [3,8,9],H [3,8,9,33],H [5],H [3,35,36,37],H [3,35,36,37,38],H [3,11,35,36,37],H [3,12,35,36,37],H [3,12,35,36,37,45],H [5],H [3,35,36,37],H [5]]
def ZTw:PC :=
 (.reg [1,2,3,4] [I 4 (.box (.s 0)),I 5 (.mv (V 0))])
def ZTx:PC :=
 (.reg [1,2,3,4,15] [I 13 (.fadr 1 (.s 4)),I 14 (.ld false 1 (.s 13)),I 15 (.bin .eql (.s 14) (V 0))])
def ZTy:PC :=
 (.reg [2,6,7] [I 17 (.ld false 1 (.s 1)),I 18 (.ld true 7 (.s 4)),I 19 (C X8 [(.s 17),(.s 18)]),I 16 (.mv (.s 19)),I 20 (.ext (.s 16) 0),I 21 (.ext (.s 16) 1),I 6 (.mv (.s 20)),I 7 (.mv (.s 21))])
def ZTz:PC :=
 (.reg [7] [I 22 (.ld false 1 (.s 2)),I 23 (.mv (.s 6)),I 24 (.app 1 1 (.s 22) (.s 23)),J (.st 1 (.s 2) (.s 24))])
def ZT0:PC :=
 (.reg [5] [I 25 (.mv (.s 7)),I 5 (.mv (.s 25))])
def ZT1:PC :=
 (.reg [3,8,9] [I 27 (.ld false 1 (.s 1)),I 28 (.ld true 7 (.s 4)),I 29 (C Jy [(.s 27),(.s 28)]),I 26 (.mv (.s 29)),I 30 (.ext (.s 26) 0),I 31 (.ext (.s 26) 1),I 8 (.mv (.s 30)),I 9 (.mv (.s 31))])
def ZT2:PC :=
 (.reg [3,8,9,33] [I 32 (.mv (.s 9)),I 33 (.bin .neq (.s 32) (V 0))])
def ZT3:PC :=
 (.reg [5] [I 34 (.mv (.s 9)),I 5 (.mv (.s 34))])
def ZT4:PC :=
 (.reg [3,35,36,37] [I 35 (.mv (.s 8)),I 36 (.len 1 (.s 35)),I 37 (.mv (V 0))])
def ZT5:PC :=
 (.reg [3,35,36,37,38] [I 38 (.bin .lss (.s 37) (.s 36))])
def ZRk:PC :=
 (.reg [3,11,35,36,37] [I 39 (.ixS 7 (.s 35) (.s 37)),I 40 (.ld true 7 (.s 39)),I 11 (.box (.v ZT)),J (.st 7 (.s 11) (.s 40))])
def ZRl:PC :=
 (.reg [3,12,35,36,37] [I 41 (.ld false 1 (.s 3)),I 42 (.ld true 7 (.s 11)),I 43 (.call .norm (.s 41) [(.s 42)]),I 12 (.mv (.s 43))])
def ZRm:PC :=
 (.reg [3,12,35,36,37,45] [I 44 (.mv (.s 12)),I 45 (.bin .neq (.s 44) (V 0))])
def ZRn:PC :=
 (.reg [5] [I 46 (.mv (.s 12)),I 5 (.mv (.s 46))])
def ZRo:PC :=
 (.reg [3,35,36,37] [I 47 (.bin .add (.s 37) (V 1)),I 37 (.mv (.s 47))])
def ZRp:PC :=
 (.seq ZT5
 (.seq (.ite (.s 38)
 .skip
 (.exit 0))
 (.seq (.block 1
 (.seq ZRk
 (.seq ZRl
 (.seq ZRm
 (.ite (.s 45)
 (.seq ZRn
 .ret)
 .skip)))))
 ZRo)))
def ZRq:PC :=
 (.reg [5] [I 5 (.mv (V 0))])
def ZNI:PF:=⟨false,
 (.seq ZTw
 (.seq (.seq ZTx
 (.ite (.s 15)
 (.seq ZTy
 (.seq ZTz
 (.seq ZT0
 .ret)))
 .skip))
 (.seq ZT1
 (.seq (.seq ZT2
 (.ite (.s 33)
 (.seq ZT3
 .ret)
 .skip))
 (.seq (.seq ZT4
 (.block 0
 (.loop ZRp)))
 (.seq ZRq
 .ret)))))),
 [.s 5]⟩
theorem Zat:Zx Proofs.Tryz.prog false Zas Proofs.Tryz.f120=some ZNI:=by kernel_rfl
def Zfc:List Hint:=[H [0,3],H [0,3,10],H [4,5],H [6,7],H [4,5]]
def Zau:PC :=
 (.reg [0,3] [I 3 (.box (.s 1)),I 4 (.mv (.v (.str []))),I 5 (.mv (V 0))])
def Zav:PC :=
 (.reg [0,3,10] [I 8 (.fadr 0 (.s 3)),I 9 (.ld false 1 (.s 8)),I 10 (.bin .eql (.s 9) (.v (.int .u64 0)))])
def Zaw:PC :=
 (.reg [4,5] [I 11 (.fadr 5 (.s 3)),I 12 (.ld false 1 (.s 11)),I 4 (.mv (.s 12)),I 5 (.mv (V 0))])
def Zax:PC :=
 (.reg [6,7] [I 14 (.mv (.s 0)),I 15 (.fadr 0 (.s 3)),I 16 (.ld false 1 (.s 15)),I 17 (C Q7 [(.s 14),(.s 16)]),I 13 (.mv (.s 17)),I 18 (.ext (.s 13) 0),I 19 (.ext (.s 13) 1),I 6 (.box (.v ZN)),J (.st 3 (.s 6) (.s 18)),I 7 (.mv (.s 19))])
def Zay:PC :=
 (.reg [4,5] [I 20 (.fadr 1 (.s 6)),I 21 (.ld false 1 (.s 20)),I 22 (.mv (.s 7)),I 4 (.mv (.s 21)),I 5 (.mv (.s 22))])
def ZSr:PF:=⟨false,
 (.seq Zau
 (.seq (.seq Zav
 (.ite (.s 10)
 (.seq Zaw
 .ret)
 .skip))
 (.seq Zax
 (.seq Zay
 .ret)))),
 [.s 4,.s 5]⟩
theorem Zfd:Zx Proofs.Tryz.prog false Zfc Proofs.Tryz.f121=some ZSr:=by kernel_rfl
def ZT6:List Hint:=[H [0,3],H [0,3,13],H [4,5],H [6,7],H [6,7,24],H [4,5],⟨[6,8],[0],[],[],[],[]⟩,H [6,8,27,28,29],H [6,8,27,28,29,30],H [6,8,10,27,28,29],H [6,8,27,28,29],H [6,8,27,28,29],H [8,47],H [4,5],H [4,5]]
def ZPk:PC :=
 (.reg [0,3] [I 3 (.box (.s 1)),I 4 (.mv (.v .nils)),I 5 (.mv (V 0))])
def ZPl:PC :=
 (.reg [0,3,13] [I 11 (.fadr 0 (.s 3)),I 12 (.ld false 1 (.s 11)),I 13 (.bin .eql (.s 12) (.v (.int .u64 0)))])
def ZPm:PC :=
 (.reg [4,5] [I 14 (.fadr 6 (.s 3)),I 15 (.ld false 1 (.s 14)),I 4 (.mv (.s 15)),I 5 (.mv (V 0))])
def ZPn:PC :=
 (.reg [6,7] [I 17 (.mv (.s 0)),I 18 (.fadr 0 (.s 3)),I 19 (.ld false 1 (.s 18)),I 20 (C Q7 [(.s 17),(.s 19)]),I 16 (.mv (.s 20)),I 21 (.ext (.s 16) 0),I 22 (.ext (.s 16) 1),I 6 (.box (.v ZN)),J (.st 3 (.s 6) (.s 21)),I 7 (.mv (.s 22))])
def ZPo:PC :=
 (.reg [6,7,24] [I 23 (.mv (.s 7)),I 24 (.bin .neq (.s 23) (V 0))])
def ZPp:PC :=
 (.reg [4,5] [I 25 (.mv (.s 7)),I 4 (.mv (.v .nils)),I 5 (.mv (.s 25))])
def ZPq:PC :=
 (.reg [6,8] [I 8 (.onil 7)])
def ZPr:PC :=
 (.reg [6,8,27,28,29] [I 26 (.fadr 2 (.s 6)),I 27 (.ld false 1 (.s 26)),I 28 (.len 1 (.s 27)),I 29 (.mv (V 0))])
def ZPs:PC :=
 (.reg [6,8,27,28,29,30] [I 30 (.bin .lss (.s 29) (.s 28))])
def ZPt:PC :=
 (.reg [6,8,10,27,28,29] [I 31 (.ixS 4 (.s 27) (.s 29)),I 32 (.ld true 4 (.s 31)),I 10 (.box (.v ZK)),J (.st 4 (.s 10) (.s 32))])
def ZNz:PC :=
 (.reg [6,8,27,28,29] [I 33 (.mv (.s 8)),I 34 (.fadr 0 (.s 10)),I 35 (.ld false 1 (.s 34)),I 36 (.fadr 0 (.s 6)),I 37 (.ld false 1 (.s 36)),I 38 (.bin .sub (.s 37) (V 1)),I 39 (.fadr 1 (.s 10)),I 40 (.ld true 3 (.s 39)),I 41 (.build [(.int .u64 0),(.int .i64 0),(.int .i64 0),(.int .i64 0),(.int .i64 0),(.str []),.nils] [(0,1,(.s 35)),(1,1,(.s 38)),(2,3,(.s 40))]),I 42 (.bslice false 7 [ZT] [(0,(.s 41))]),I 43 (.app 7 80 (.s 33) (.s 42)),I 8 (.mv (.s 43))])
def ZN0:PC :=
 (.reg [6,8,27,28,29] [I 44 (.bin .add (.s 29) (V 1)),I 29 (.mv (.s 44))])
def ZC2:PC :=
 (.seq ZPs
 (.seq (.ite (.s 30)
 .skip
 (.exit 0))
 (.seq (.block 1
 (.seq ZPt
 ZNz))
 ZN0)))
def ZN1:PC :=
 (.reg [8,47] [I 45 (.mv (.s 8)),I 46 (.len 1 (.s 45)),I 47 (.bin .eql (.s 46) (V 0))])
def ZN2:PC :=
 (.reg [4,5] [I 4 (.mv (.v .nils)),I 5 (.mv (V 23))])
def ZN3:PC :=
 (.reg [4,5] [I 48 (.mv (.s 8)),I 4 (.mv (.s 48)),I 5 (.mv (V 0))])
def ZHS:PF:=⟨false,
 (.seq ZPk
 (.seq (.seq ZPl
 (.ite (.s 13)
 (.seq ZPm
 .ret)
 .skip))
 (.seq ZPn
 (.seq (.seq ZPo
 (.ite (.s 24)
 (.seq ZPp
 .ret)
 .skip))
 (.seq ZPq
 (.seq (.seq ZPr
 (.block 0
 (.loop ZC2)))
 (.seq (.seq ZN1
 (.ite (.s 47)
 (.seq ZN2
 .ret)
 .skip))
 (.seq ZN3
 .ret)))))))),
 [.s 4,.s 5]⟩
theorem ZT7:Zx Proofs.Tryz.prog false ZT6 Proofs.Tryz.f122=some ZHS:=by kernel_rfl
def ZRr:List Hint:=[H [0],H [2]]
def ZN4:PC :=
 (.reg [0] [I 2 (.mv (.v (.bool false)))])
def ZN5:PC :=
 (.reg [2] [I 3 (.mv (.s 0)),I 4 (.bin .lss (.s 3) (.v (.int .u8 128))),I 5 (.mv (.s 4)),G 6 5 false (.mv (.s 0)),G 7 5 false (.bin .gtr (.s 6) (.v (.int .u8 191))),I 8 (.pick (.s 5) (.v (.bool true)) (.s 7)),I 2 (.mv (.s 8))])
def ZEu:PF:=⟨false,
 (.seq ZN4
 (.seq ZN5
 .ret)),
 [.s 2]⟩
theorem ZRs:Zx Proofs.Tryz.prog false ZRr Proofs.Tryz.f131=some ZEu:=by kernel_rfl
def ZT8:List Hint:=[H [0,1],H [0,1,5],H [0,1,5,8,9],H [0,1,5,8,9,10],H [0,1,5,6,8,9],H [0,1,5,8,9,16],H [0,1,5,8,9],H [0,1,5,8,9],H [4]]
def ZPu:PC :=
 (.reg [0,1] [I 4 (.mv (V 0))])
def ZPv:PC :=
 (.reg [0,1,5] [I 5 (.mv (V 0))])
def ZPw:PC :=
 (.reg [0,1,5,8,9] [I 7 (.mv (.s 0)),I 8 (.len 0 (.s 7)),I 9 (.mv (V 0))])
def ZPx:PC :=
 (.reg [0,1,5,8,9,10] [I 10 (.bin .lss (.s 9) (.s 8))])
def ZPy:PC :=
 (.reg [0,1,5,6,8,9] [I 11 (.mv (.s 9)),I 6 (.mv (.s 11))])
def ZPz:PC :=
 (.reg [0,1,5,8,9,16] [I 12 (.mv (.s 1)),I 13 (.mv (.s 0)),I 14 (.mv (.s 6)),I 15 (.ixStr (.s 13) (.s 14)),I 16 (.call .norm (.s 12) [(.s 15)])])
def ZP0:PC :=
 (.reg [0,1,5,8,9] [I 17 (.mv (.s 5)),I 18 (.bin .add (.s 17) (V 1)),I 5 (.mv (.s 18))])
def ZP1:PC :=
 (.reg [0,1,5,8,9] [I 19 (.bin .add (.s 9) (V 1)),I 9 (.mv (.s 19))])
def ZP2:PC :=
 (.seq ZPx
 (.seq (.ite (.s 10)
 .skip
 (.exit 0))
 (.seq (.block 1
 (.seq ZPy
 (.seq ZPz
 (.ite (.s 16)
 ZP0
 .skip))))
 ZP1)))
def ZP3:PC :=
 (.reg [4] [I 20 (.mv (.s 5)),I 4 (.mv (.s 20))])
def ZHT:PF:=⟨false,
 (.seq ZPu
 (.seq ZPv
 (.seq (.seq ZPw
 (.block 0
 (.loop ZP2)))
 (.seq ZP3
 .ret)))),
 [.s 4]⟩
theorem ZT9:Zx Proofs.Tryz.prog false ZT8 Proofs.Tryz.f132=some ZHT:=by kernel_rfl
def ZUA:List Hint:=[H [0],H [2]]
def ZP4:PC :=
 (.reg [0] [I 2 (.mv (.v (.bool false)))])
def ZP5:PC :=
 (.reg [2] [I 3 (.mv (.s 0)),I 4 (.bin .eql (.s 3) (.v (.int .u8 10))),I 2 (.mv (.s 4))])
def ZHU:PF:=⟨false,
 (.seq ZP4
 (.seq ZP5
 .ret)),
 [.s 2]⟩
theorem ZUB:Zx Proofs.Tryz.prog false ZUA Proofs.Tryz.f138=some ZHU:=by kernel_rfl
def Zaz:List Hint:=[H [0,1],H [0,1,19],H [4,5],H [4,5]]
def ZUC:PC :=
 (.reg [0,1] [I 4 (.mv (.v (.int .u64 0))),I 5 (.mv (V 0))])
def ZUD:PC :=
 (.reg [0,1,19] [I 6 (.mv (.s 0)),I 7 (.bin .lss (.s 6) (V 0)),I 8 (.mv (.s 7)),G 9 8 false (.mv (.s 0)),G 10 8 false (.bin .geq (.s 9) (V 16384)),I 11 (.pick (.s 8) (.v (.bool true)) (.s 10)),I 12 (.mv (.s 11)),G 13 12 false (.mv (.s 1)),G 14 12 false (.bin .lss (.s 13) (.v (.int .u64 1))),I 15 (.pick (.s 12) (.v (.bool true)) (.s 14)),I 16 (.mv (.s 15)),G 17 16 false (.mv (.s 1)),G 18 16 false (.bin .gtr (.s 17) (.v (.int .u64 4294967295))),I 19 (.pick (.s 16) (.v (.bool true)) (.s 18))])
def ZUE:PC :=
 (.reg [4,5] [I 4 (.mv (.v (.int .u64 0))),I 5 (.mv (V 3))])
def ZUF:PC :=
 (.reg [4,5] [I 20 (.mv (.s 1)),I 21 (.bin .shl (.s 20) (.v (.int .u64 16))),I 22 (.mv (.s 0)),I 23 (.cint .u64 (.s 22)),I 24 (.bin .or (.s 21) (.s 23)),I 4 (.mv (.s 24)),I 5 (.mv (V 0))])
def ZNJ:PF:=⟨false,
 (.seq ZUC
 (.seq (.seq ZUD
 (.ite (.s 19)
 (.seq ZUE
 .ret)
 .skip))
 (.seq ZUF
 .ret))),
 [.s 4,.s 5]⟩
theorem Za0:Zx Proofs.Tryz.prog false Zaz Proofs.Tryz.f142=some ZNJ:=by kernel_rfl
def Za1:List Hint:=[H [1,2],H [1,2,10],H [4],H [1,2,5],H [2,5,17],H [2,5],H [5,6],H [5,6,7],H [6,7,23,24],H [6,7,23,24,25],H [6,7,8,23,24],H [6,7,23,24],H [6,7,23,24],H [4]]
def ZUG:PC :=
 (.reg [1,2] [I 2 (.box (.s 0)),I 4 (.mv (.v .nils))])
def ZUH:PC :=
 (.reg [1,2,10] [I 9 (.ld false 1 (.s 2)),I 10 (.bin .eql (.s 9) (V 0))])
def ZUI:PC :=
 (.reg [4] [I 4 (.mv (.v .nils))])
def ZUJ:PC :=
 (.reg [1,2,5] [I 11 (.ld false 1 (.s 2)),I 12 (.mv (.s 1)),I 13 (.bin .quo (.s 11) (.s 12)),I 5 (.box (V 0)),J (.st 1 (.s 5) (.s 13))])
def ZUK:PC :=
 (.reg [2,5,17] [I 14 (.ld false 1 (.s 2)),I 15 (.mv (.s 1)),I 16 (.bin .rem (.s 14) (.s 15)),I 17 (.bin .gtr (.s 16) (V 0))])
def ZUL:PC :=
 (.reg [2,5] [I 18 (.ld false 1 (.s 5)),I 19 (.bin .add (.s 18) (V 1)),J (.st 1 (.s 5) (.s 19))])
def ZUM:PC :=
 (.reg [5,6] [I 20 (.mkf (.func Jz) [] [(.s 2),(.s 5)]),I 6 (.mv (.s 20))])
def ZUN:PC :=
 (.reg [5,6,7] [I 21 (.ld false 1 (.s 5)),I 22 (.mkslice 1 8 (.int .i64 0) (.s 21) (.s 21)),I 7 (.mv (.s 22))])
def ZUO:PC :=
 (.reg [6,7,23,24] [I 23 (.ld false 1 (.s 5)),I 24 (.mv (V 0))])
def ZUP:PC :=
 (.reg [6,7,23,24,25] [I 25 (.bin .lss (.s 24) (.s 23))])
def ZRt:PC :=
 (.reg [6,7,8,23,24] [I 26 (.mv (.s 24)),I 8 (.mv (.s 26))])
def ZRu:PC :=
 (.reg [6,7,23,24] [I 27 (.mv (.s 7)),I 28 (.mv (.s 8)),I 29 (.mv (.s 6)),I 30 (.mv (.s 8)),I 31 (.call .norm (.s 29) [(.s 30)]),I 32 (.ixS 1 (.s 27) (.s 28)),J (.st 1 (.s 32) (.s 31))])
def ZRv:PC :=
 (.reg [6,7,23,24] [I 33 (.bin .add (.s 24) (V 1)),I 24 (.mv (.s 33))])
def ZEv:PC :=
 (.seq ZUP
 (.seq (.ite (.s 25)
 .skip
 (.exit 0))
 (.seq (.block 1
 (.seq ZRt
 ZRu))
 ZRv)))
def ZRw:PC :=
 (.reg [4] [I 34 (.mv (.s 7)),I 4 (.mv (.s 34))])
def ZNK:PF:=⟨false,
 (.seq ZUG
 (.seq (.seq ZUH
 (.ite (.s 10)
 (.seq ZUI
 .ret)
 .skip))
 (.seq ZUJ
 (.seq (.seq ZUK
 (.ite (.s 17)
 ZUL
 .skip))
 (.seq ZUM
 (.seq ZUN
 (.seq (.seq ZUO
 (.block 0
 (.loop ZEv)))
 (.seq ZRw
 .ret)))))))),
 [.s 4]⟩
theorem Za2:Zx Proofs.Tryz.prog false Za1 Proofs.Tryz.f145=some ZNK:=by kernel_rfl
def Za3:List Hint:=[H [1],H [1,9],H [2],H [1,50],H [2],H [1,3,4],H [3,4,59,60,61],H [3,4,59,60,61,62],H [3,4,6,59,60,61],H [3,4,59,60,61,112],H [2],H [3,4,59,60,61],H [2]]
def ZUQ:PC :=
 (.reg [1] [I 1 (.box (.s 0)),I 2 (.mv (.v (.bool false)))])
def ZUR:PC :=
 (.reg [1,9] [I 7 (.fadr 0 (.s 1)),I 8 (.ld false 1 (.s 7)),I 9 (.bin .eql (.s 8) (V 0))])
def ZUS:PC :=
 (.reg [2] [I 10 (.fadr 1 (.s 1)),I 11 (.ld false 1 (.s 10)),I 12 (.len 0 (.s 11)),I 13 (.bin .geq (.s 12) (V 1)),I 14 (.mv (.s 13)),G 15 14 true (.fadr 1 (.s 1)),G 16 14 true (.ld false 1 (.s 15)),G 17 14 true (.len 0 (.s 16)),G 18 14 true (.bin .leq (.s 17) (V 16)),I 19 (.pick (.s 14) (.s 18) (.v (.bool false))),I 20 (.mv (.s 19)),G 21 20 true (.fadr 2 (.s 1)),G 22 20 true (.ld false 1 (.s 21)),G 23 20 true (.len 1 (.s 22)),G 24 20 true (.bin .eql (.s 23) (V 0)),I 25 (.pick (.s 20) (.s 24) (.v (.bool false))),I 2 (.mv (.s 25))])
def ZUT:PC :=
 (.reg [1,50] [I 26 (.fadr 0 (.s 1)),I 27 (.ld false 1 (.s 26)),I 28 (.bin .lss (.s 27) (V 1)),I 29 (.mv (.s 28)),G 30 29 false (.fadr 0 (.s 1)),G 31 29 false (.ld false 1 (.s 30)),G 32 29 false (.bin .gtr (.s 31) (V 16)),I 33 (.pick (.s 29) (.v (.bool true)) (.s 32)),I 34 (.mv (.s 33)),G 35 34 false (.fadr 1 (.s 1)),G 36 34 false (.ld false 1 (.s 35)),G 37 34 false (.bin .neq (.s 36) (.v (.str []))),I 38 (.pick (.s 34) (.v (.bool true)) (.s 37)),I 39 (.mv (.s 38)),G 40 39 false (.fadr 2 (.s 1)),G 41 39 false (.ld false 1 (.s 40)),G 42 39 false (.len 1 (.s 41)),G 43 39 false (.bin .lss (.s 42) (V 2)),I 44 (.pick (.s 39) (.v (.bool true)) (.s 43)),I 45 (.mv (.s 44)),G 46 45 false (.fadr 2 (.s 1)),G 47 45 false (.ld false 1 (.s 46)),G 48 45 false (.len 1 (.s 47)),G 49 45 false (.bin .gtr (.s 48) (V 4)),I 50 (.pick (.s 45) (.v (.bool true)) (.s 49))])
def ZUU:PC :=
 (.reg [2] [I 2 (.mv (.v (.bool false)))])
def ZUV:PC :=
 (.reg [1,3,4] [I 52 (.fadr 0 (.s 1)),I 53 (.ld false 1 (.s 52)),I 54 (.bin .sub (.s 53) (V 1)),I 55 (C ZEA [(.s 54)]),I 51 (.mv (.s 55)),I 56 (.ext (.s 51) 0),I 57 (.ext (.s 51) 1),I 3 (.mv (.s 56)),I 4 (.mv (.s 57))])
def ZUW:PC :=
 (.reg [3,4,59,60,61] [I 58 (.fadr 2 (.s 1)),I 59 (.ld false 1 (.s 58)),I 60 (.len 1 (.s 59)),I 61 (.mv (V 0))])
def ZUX:PC :=
 (.reg [3,4,59,60,61,62] [I 62 (.bin .lss (.s 61) (.s 60))])
def ZUY:PC :=
 (.reg [3,4,6,59,60,61] [I 63 (.ixS 4 (.s 59) (.s 61)),I 64 (.ld true 4 (.s 63)),I 6 (.box (.v ZK)),J (.st 4 (.s 6) (.s 64))])
def ZUZ:PC :=
 (.reg [3,4,59,60,61,112] [I 65 (.fadr 0 (.s 6)),I 66 (.ld false 1 (.s 65)),I 67 (C YJ [(.s 66)]),I 68 (.bin .neq (.s 67) (V 0)),I 69 (.mv (.s 68)),G 70 69 false (.fadr 1 (.s 6)),G 71 69 false (.fadr 0 (.s 70)),G 72 69 false (.ld false 1 (.s 71)),G 73 69 false (.mv (.s 3)),G 74 69 false (.bin .lss (.s 72) (.s 73)),I 75 (.pick (.s 69) (.v (.bool true)) (.s 74)),I 76 (.mv (.s 75)),G 77 76 false (.fadr 1 (.s 6)),G 78 76 false (.fadr 0 (.s 77)),G 79 76 false (.ld false 1 (.s 78)),G 80 76 false (.mv (.s 4)),G 81 76 false (.bin .gtr (.s 79) (.s 80)),I 82 (.pick (.s 76) (.v (.bool true)) (.s 81)),I 83 (.mv (.s 82)),G 84 83 false (.fadr 1 (.s 6)),G 85 83 false (.fadr 1 (.s 84)),G 86 83 false (.ld false 1 (.s 85)),G 87 83 false (.bin .lss (.s 86) (V 0)),I 88 (.pick (.s 83) (.v (.bool true)) (.s 87)),I 89 (.mv (.s 88)),G 90 89 false (.fadr 1 (.s 6)),G 91 89 false (.fadr 1 (.s 90)),G 92 89 false (.ld false 1 (.s 91)),G 93 89 false (.fadr 1 (.s 6)),G 94 89 false (.fadr 0 (.s 93)),G 95 89 false (.ld false 1 (.s 94)),G 96 89 false (.bin .gtr (.s 92) (.s 95)),I 97 (.pick (.s 89) (.v (.bool true)) (.s 96)),I 98 (.mv (.s 97)),G 99 98 false (.fadr 1 (.s 6)),G 100 98 false (.fadr 2 (.s 99)),G 101 98 false (.ld false 1 (.s 100)),G 102 98 false (.bin .lss (.s 101) (V 0)),I 103 (.pick (.s 98) (.v (.bool true)) (.s 102)),I 104 (.mv (.s 103)),G 105 104 false (.fadr 1 (.s 6)),G 106 104 false (.fadr 2 (.s 105)),G 107 104 false (.ld false 1 (.s 106)),G 108 104 false (.fadr 1 (.s 6)),G 109 104 false (.fadr 1 (.s 108)),G 110 104 false (.ld false 1 (.s 109)),G 111 104 false (.bin .gtr (.s 107) (.s 110)),I 112 (.pick (.s 104) (.v (.bool true)) (.s 111))])
def ZRx:PC :=
 (.reg [2] [I 2 (.mv (.v (.bool false)))])
def ZRy:PC :=
 (.reg [3,4,59,60,61] [I 113 (.bin .add (.s 61) (V 1)),I 61 (.mv (.s 113))])
def ZRz:PC :=
 (.seq ZUX
 (.seq (.ite (.s 62)
 .skip
 (.exit 0))
 (.seq (.block 1
 (.seq ZUY
 (.seq ZUZ
 (.ite (.s 112)
 (.seq ZRx
 .ret)
 .skip))))
 ZRy)))
def ZR0:PC :=
 (.reg [2] [I 2 (.mv (.v (.bool true)))])
def ZNL:PF:=⟨false,
 (.seq ZUQ
 (.seq (.seq ZUR
 (.ite (.s 9)
 (.seq ZUS
 .ret)
 .skip))
 (.seq (.seq ZUT
 (.ite (.s 50)
 (.seq ZUU
 .ret)
 .skip))
 (.seq ZUV
 (.seq (.seq ZUW
 (.block 0
 (.loop ZRz)))
 (.seq ZR0
 .ret)))))),
 [.s 2]⟩
theorem Za4:Zx Proofs.Tryz.prog false Za3 Proofs.Tryz.f146=some ZNL:=by kernel_rfl
def ZhD:List Hint:=[H [1,2],H [1,2,8],H [2],⟨[1,2,3],[0],[],[],[],[]⟩,H [2,3,13,14,15],H [2,3,13,14,15,16],H [2,3,5,13,14,15],H [2,3,13,14,15],H [2,3,13,14,15],H [2]]
def Zdr:PC :=
 (.reg [1,2] [I 1 (.box (.s 0)),I 2 (.box (.v ZM))])
def Zds:PC :=
 (.reg [1,2,8] [I 6 (.fadr 0 (.s 1)),I 7 (.ld false 1 (.s 6)),I 8 (.bin .eql (.s 7) (V 0))])
def Zdt:PC :=
 (.reg [2] [I 9 (.fadr 1 (.s 1)),I 10 (.ld false 1 (.s 9)),I 11 (C ZFe [(.s 10)]),J (.st 3 (.s 2) (.s 11))])
def Zdu:PC :=
 (.reg [1,2,3] [I 3 (.onil 3)])
def Zdv:PC :=
 (.reg [2,3,13,14,15] [I 12 (.fadr 2 (.s 1)),I 13 (.ld false 1 (.s 12)),I 14 (.len 1 (.s 13)),I 15 (.mv (V 0))])
def Zdw:PC :=
 (.reg [2,3,13,14,15,16] [I 16 (.bin .lss (.s 15) (.s 14))])
def Zdx:PC :=
 (.reg [2,3,5,13,14,15] [I 17 (.ixS 4 (.s 13) (.s 15)),I 18 (.ld true 4 (.s 17)),I 5 (.box (.v ZK)),J (.st 4 (.s 5) (.s 18))])
def Zdy:PC :=
 (.reg [2,3,13,14,15] [I 19 (.mv (.s 3)),I 20 (.fadr 1 (.s 5)),I 21 (.ld true 3 (.s 20)),I 22 (.bslice false 3 [ZM] [(0,(.s 21))]),I 23 (.app 3 24 (.s 19) (.s 22)),I 3 (.mv (.s 23))])
def Zdz:PC :=
 (.reg [2,3,13,14,15] [I 24 (.bin .add (.s 15) (V 1)),I 15 (.mv (.s 24))])
def Zd0:PC :=
 (.seq Zdw
 (.seq (.ite (.s 16)
 .skip
 (.exit 0))
 (.seq (.block 1
 (.seq Zdx
 Zdy))
 Zdz)))
def Za5:PC :=
 (.reg [2] [I 25 (.mv (.s 3)),I 26 (C ZEB [(.s 25)]),J (.st 3 (.s 2) (.s 26))])
def ZX0:PF:=⟨false,
 (.seq Zdr
 (.seq (.seq Zds
 (.ite (.s 8)
 (.seq Zdt
 .ret)
 .skip))
 (.seq Zdu
 (.seq (.seq Zdv
 (.block 0
 (.loop Zd0)))
 (.seq Za5
 .ret))))),
 [.c 2 true 3]⟩
theorem ZhE:Zx Proofs.Tryz.prog false ZhD Proofs.Tryz.f147=some ZX0:=by kernel_rfl
def ZKo:List Hint:=[H [1],H [1,6],H [2],H [1,47],H [2],H [1,3],H [1,3,52],H [1,3,63],H [2],H [1,3],H [2]]
def ZGr:PC :=
 (.reg [1] [I 1 (.box (.s 0)),I 2 (.mv (.v (.bool false)))])
def ZGs:PC :=
 (.reg [1,6] [I 4 (.fadr 0 (.s 1)),I 5 (.ld false 1 (.s 4)),I 6 (.bin .eql (.s 5) (V 0))])
def ZGt:PC :=
 (.reg [2] [I 7 (.fadr 1 (.s 1)),I 8 (.ld false 1 (.s 7)),I 9 (.len 0 (.s 8)),I 10 (.bin .geq (.s 9) (V 1)),I 11 (.mv (.s 10)),G 12 11 true (.fadr 1 (.s 1)),G 13 11 true (.ld false 1 (.s 12)),G 14 11 true (.len 0 (.s 13)),G 15 11 true (.bin .leq (.s 14) (V 16)),I 16 (.pick (.s 11) (.s 15) (.v (.bool false))),I 17 (.mv (.s 16)),G 18 17 true (.fadr 2 (.s 1)),G 19 17 true (.ld false 1 (.s 18)),G 20 17 true (.len 1 (.s 19)),G 21 17 true (.bin .eql (.s 20) (V 0)),I 22 (.pick (.s 17) (.s 21) (.v (.bool false))),I 2 (.mv (.s 22))])
def ZGu:PC :=
 (.reg [1,47] [I 23 (.fadr 0 (.s 1)),I 24 (.ld false 1 (.s 23)),I 25 (.bin .lss (.s 24) (V 0)),I 26 (.mv (.s 25)),G 27 26 false (.fadr 0 (.s 1)),G 28 26 false (.ld false 1 (.s 27)),G 29 26 false (.bin .gtr (.s 28) (V 16)),I 30 (.pick (.s 26) (.v (.bool true)) (.s 29)),I 31 (.mv (.s 30)),G 32 31 false (.fadr 1 (.s 1)),G 33 31 false (.ld false 1 (.s 32)),G 34 31 false (.bin .neq (.s 33) (.v (.str []))),I 35 (.pick (.s 31) (.v (.bool true)) (.s 34)),I 36 (.mv (.s 35)),G 37 36 false (.fadr 2 (.s 1)),G 38 36 false (.ld false 1 (.s 37)),G 39 36 false (.len 1 (.s 38)),G 40 36 false (.bin .lss (.s 39) (V 2)),I 41 (.pick (.s 36) (.v (.bool true)) (.s 40)),I 42 (.mv (.s 41)),G 43 42 false (.fadr 2 (.s 1)),G 44 42 false (.ld false 1 (.s 43)),G 45 42 false (.len 1 (.s 44)),G 46 42 false (.bin .gtr (.s 45) (V 4)),I 47 (.pick (.s 42) (.v (.bool true)) (.s 46))])
def ZGv:PC :=
 (.reg [2] [I 2 (.mv (.v (.bool false)))])
def ZGw:PC :=
 (.reg [1,3] [I 3 (.mv (V 0))])
def ZGx:PC :=
 (.reg [1,3,52] [I 48 (.mv (.s 3)),I 49 (.fadr 2 (.s 1)),I 50 (.ld false 1 (.s 49)),I 51 (.len 1 (.s 50)),I 52 (.bin .lss (.s 48) (.s 51))])
def ZGy:PC :=
 (.reg [1,3,63] [I 55 (.fadr 0 (.s 1)),I 56 (.ld false 1 (.s 55)),I 57 (.fadr 2 (.s 1)),I 58 (.ld false 1 (.s 57)),I 59 (.mv (.s 3)),I 60 (.ixS 4 (.s 58) (.s 59)),I 61 (.ld true 4 (.s 60)),I 62 (C ZAM [(.s 56),(.s 61)]),I 63 (.un .not (.s 62))])
def ZGz:PC :=
 (.reg [2] [I 2 (.mv (.v (.bool false)))])
def ZG0:PC :=
 (.reg [1,3] [I 53 (.mv (.s 3)),I 54 (.bin .add (.s 53) (V 1)),I 3 (.mv (.s 54))])
def ZEw:PC :=
 (.seq (.seq ZGx
 (.ite (.s 52)
 .skip
 (.exit 0)))
 (.seq (.block 1
 (.seq ZGy
 (.ite (.s 63)
 (.seq ZGz
 .ret)
 .skip)))
 ZG0))
def ZEx:PC :=
 (.reg [2] [I 2 (.mv (.v (.bool true)))])
def ZBA:PF:=⟨false,
 (.seq ZGr
 (.seq (.seq ZGs
 (.ite (.s 6)
 (.seq ZGt
 .ret)
 .skip))
 (.seq (.seq ZGu
 (.ite (.s 47)
 (.seq ZGv
 .ret)
 .skip))
 (.seq (.seq ZGw
 (.block 0
 (.loop ZEw)))
 (.seq ZEx
 .ret))))),
 [.s 2]⟩
theorem ZKp:Zx Proofs.Tryz.prog false ZKo Proofs.Tryz.f148=some ZBA:=by kernel_rfl
def ZP6:List Hint:=[H [1,2,4],H [1,2,4,5],H [1,2,4,5,6],H [1,2,4,5,6,11],H [1,2,4,5,6,7],H [1,2,4,5,6],H [1,2,4,5,6],H [4]]
def ZMo:PC :=
 (.reg [1,2,4] [I 2 (.box (.s 0)),I 4 (.box (.v ZM))])
def ZMp:PC :=
 (.reg [1,2,4,5] [I 8 (.build [(.int .i64 0),(.int .i64 0),(.int .i64 0)] []),I 5 (.box (.v ZM)),J (.st 3 (.s 5) (.s 8))])
def ZMq:PC :=
 (.reg [1,2,4,5,6] [I 6 (.mv (V 0))])
def ZMr:PC :=
 (.reg [1,2,4,5,6,11] [I 9 (.mv (.s 6)),I 10 (.mv (.s 1)),I 11 (.bin .lss (.s 9) (.s 10))])
def ZMs:PC :=
 (.reg [1,2,4,5,6,7] [I 14 (.fadr 2 (.s 2)),I 15 (.ld false 1 (.s 14)),I 16 (.mv (.s 6)),I 17 (.ixS 4 (.s 15) (.s 16)),I 18 (.fadr 1 (.s 17)),I 19 (.ld true 3 (.s 18)),I 7 (.box (.v ZM)),J (.st 3 (.s 7) (.s 19))])
def ZMt:PC :=
 (.reg [1,2,4,5,6] [I 20 (.fadr 0 (.s 5)),I 21 (.ld false 1 (.s 20)),I 22 (.fadr 0 (.s 7)),I 23 (.ld false 1 (.s 22)),I 24 (.bin .add (.s 21) (.s 23)),I 25 (.fadr 1 (.s 5)),I 26 (.ld false 1 (.s 25)),I 27 (.fadr 1 (.s 7)),I 28 (.ld false 1 (.s 27)),I 29 (.bin .add (.s 26) (.s 28)),I 30 (.fadr 2 (.s 5)),I 31 (.ld false 1 (.s 30)),I 32 (.fadr 2 (.s 7)),I 33 (.ld false 1 (.s 32)),I 34 (.bin .add (.s 31) (.s 33)),I 35 (.build [(.int .i64 0),(.int .i64 0),(.int .i64 0)] [(0,1,(.s 24)),(1,1,(.s 29)),(2,1,(.s 34))]),J (.st 3 (.s 5) (.s 35))])
def ZMu:PC :=
 (.reg [1,2,4,5,6] [I 12 (.mv (.s 6)),I 13 (.bin .add (.s 12) (V 1)),I 6 (.mv (.s 13))])
def ZMv:PC :=
 (.seq (.seq ZMr
 (.ite (.s 11)
 .skip
 (.exit 0)))
 (.seq (.block 1
 (.seq ZMs
 ZMt))
 ZMu))
def ZMw:PC :=
 (.reg [4] [I 36 (.ld true 3 (.s 5)),J (.st 3 (.s 4) (.s 36))])
def ZDv:PF:=⟨false,
 (.seq ZMo
 (.seq ZMp
 (.seq (.seq ZMq
 (.block 0
 (.loop ZMv)))
 (.seq ZMw
 .ret)))),
 [.c 4 true 3]⟩
theorem ZP7:Zx Proofs.Tryz.prog false ZP6 Proofs.Tryz.f149=some ZDv:=by kernel_rfl
def ZEK:List Hint:=[H [0,1],H [0,1,5],H [0,1,5,12],H [0,1,5,24],H [4],H [0,1,5],H [4]]
def ZC3:PC :=
 (.reg [0,1] [I 4 (.mv (V 0))])
def ZC4:PC :=
 (.reg [0,1,5] [I 5 (.mv (V 0))])
def ZC5:PC :=
 (.reg [0,1,5,12] [I 6 (.mv (.s 5)),I 7 (.mv (.s 0)),I 8 (.nilck (.s 7)),I 9 (.fadr 1 (.s 8)),I 10 (.ld false 1 (.s 9)),I 11 (.len 1 (.s 10)),I 12 (.bin .lss (.s 6) (.s 11))])
def ZC6:PC :=
 (.reg [0,1,5,24] [I 15 (.mv (.s 0)),I 16 (.nilck (.s 15)),I 17 (.fadr 1 (.s 16)),I 18 (.ld false 1 (.s 17)),I 19 (.mv (.s 5)),I 20 (.ixS 4 (.s 18) (.s 19)),I 21 (.fadr 0 (.s 20)),I 22 (.ld false 1 (.s 21)),I 23 (.mv (.s 1)),I 24 (.bin .eql (.s 22) (.s 23))])
def ZC7:PC :=
 (.reg [4] [I 25 (.mv (.s 5)),I 4 (.mv (.s 25))])
def ZC8:PC :=
 (.reg [0,1,5] [I 13 (.mv (.s 5)),I 14 (.bin .add (.s 13) (V 1)),I 5 (.mv (.s 14))])
def ZC9:PC :=
 (.seq (.seq ZC5
 (.ite (.s 12)
 .skip
 (.exit 0)))
 (.seq (.block 1
 (.seq ZC6
 (.ite (.s 24)
 (.seq ZC7
 .ret)
 .skip)))
 ZC8))
def ZDA:PC :=
 (.reg [4] [I 4 (.mv (.v (.int .i64 (-1))))])
def Xc:PF:=⟨false,
 (.seq ZC3
 (.seq (.seq ZC4
 (.block 0
 (.loop ZC9)))
 (.seq ZDA
 .ret))),
 [.s 4]⟩
theorem ZEL:Zx Proofs.Tryz.prog false ZEK Proofs.Tryz.f150=some Xc:=by kernel_rfl
def ZIh:List Hint:=[H [1,2],H [1,2,4],H [1,2,4,8],H [2,3],H [1,2,13],H [2,3],H [2,3]]
def ZEy:PC :=
 (.reg [1,2] [I 1 (.box (.s 0)),I 2 (.box (.v ZM)),I 3 (.mv (V 0))])
def ZEz:PC :=
 (.reg [1,2,4] [I 5 (.ld true 3 (.s 1)),I 6 (C Jd [(.s 5)]),I 4 (.mv (.s 6))])
def ZE0:PC :=
 (.reg [1,2,4,8] [I 7 (.mv (.s 4)),I 8 (.bin .neq (.s 7) (V 0))])
def ZE1:PC :=
 (.reg [2,3] [I 9 (.build [(.int .i64 0),(.int .i64 0),(.int .i64 0)] []),I 10 (.mv (.s 4)),J (.st 3 (.s 2) (.s 9)),I 3 (.mv (.s 10))])
def ZE2:PC :=
 (.reg [1,2,13] [I 11 (.fadr 0 (.s 1)),I 12 (.ld false 1 (.s 11)),I 13 (.bin .eql (.s 12) (V 0))])
def ZE3:PC :=
 (.reg [2,3] [I 14 (.fadr 1 (.s 1)),I 15 (.ld false 1 (.s 14)),I 16 (C ZAo [(.s 15)]),J (.st 3 (.s 2) (.s 16)),I 3 (.mv (V 0))])
def ZE4:PC :=
 (.reg [2,3] [I 17 (.ld true 3 (.s 1)),I 18 (.fadr 2 (.s 1)),I 19 (.ld false 1 (.s 18)),I 20 (.len 1 (.s 19)),I 21 (C JX [(.s 17),(.s 20)]),J (.st 3 (.s 2) (.s 21)),I 3 (.mv (V 0))])
def ZAb:PF:=⟨false,
 (.seq ZEy
 (.seq (.seq ZEz
 (.seq ZE0
 (.ite (.s 8)
 (.seq ZE1
 .ret)
 .skip)))
 (.seq (.seq ZE2
 (.ite (.s 13)
 (.seq ZE3
 .ret)
 .skip))
 (.seq ZE4
 .ret)))),
 [.c 2 true 3,.s 3]⟩
theorem ZIi:Zx Proofs.Tryz.prog false ZIh Proofs.Tryz.f151=some ZAb:=by kernel_rfl
def ZN6:List Hint:=[H [0,1],H [0,1,11],H [4,5],H [0,1,17],H [4,5],H [4,5]]
def ZKq:PC :=
 (.reg [0,1] [I 4 (.mv (.v (.int .u64 0))),I 5 (.mv (V 0))])
def ZKr:PC :=
 (.reg [0,1,11] [I 6 (.mv (.s 0)),I 7 (.bin .lss (.s 6) (V 0)),I 8 (.mv (.s 7)),G 9 8 false (.mv (.s 0)),G 10 8 false (.bin .geq (.s 9) (V 16384)),I 11 (.pick (.s 8) (.v (.bool true)) (.s 10))])
def ZKs:PC :=
 (.reg [4,5] [I 4 (.mv (.v (.int .u64 0))),I 5 (.mv (V 3))])
def ZKt:PC :=
 (.reg [0,1,17] [I 12 (.mv (.s 1)),I 13 (.bin .lss (.s 12) (.v (.int .u64 1))),I 14 (.mv (.s 13)),G 15 14 false (.mv (.s 1)),G 16 14 false (.bin .gtr (.s 15) (.v (.int .u64 4294967295))),I 17 (.pick (.s 14) (.v (.bool true)) (.s 16))])
def ZKu:PC :=
 (.reg [4,5] [I 4 (.mv (.v (.int .u64 0))),I 5 (.mv (V 3))])
def ZKv:PC :=
 (.reg [4,5] [I 18 (.mv (.s 1)),I 19 (.bin .mul (.s 18) (.v (.int .u64 65536))),I 20 (.mv (.s 0)),I 21 (.cint .u64 (.s 20)),I 22 (.bin .add (.s 19) (.s 21)),I 4 (.mv (.s 22)),I 5 (.mv (V 0))])
def ZDB:PF:=⟨false,
 (.seq ZKq
 (.seq (.seq ZKr
 (.ite (.s 11)
 (.seq ZKs
 .ret)
 .skip))
 (.seq (.seq ZKt
 (.ite (.s 17)
 (.seq ZKu
 .ret)
 .skip))
 (.seq ZKv
 .ret)))),
 [.s 4,.s 5]⟩
theorem ZN7:Zx Proofs.Tryz.prog false ZN6 Proofs.Tryz.f152=some ZDB:=by kernel_rfl
def ZKw:List Hint:=[H [0],⟨[0,3],[0],[],[],[],[]⟩,H [0,3,4],H [0,3,4,8],H [0,3,4],H [0,3,4],H [2]]
def ZG1:PC :=
 (.reg [0] [I 2 (.mv (.v .nils))])
def ZG2:PC :=
 (.reg [0,3] [I 3 (.onil 4)])
def ZG3:PC :=
 (.reg [0,3,4] [I 4 (.mv (V 0))])
def ZG4:PC :=
 (.reg [0,3,4,8] [I 5 (.mv (.s 4)),I 6 (.mv (.s 0)),I 7 (.len 1 (.s 6)),I 8 (.bin .lss (.s 5) (.s 7))])
def ZG5:PC :=
 (.reg [0,3,4] [I 11 (.mv (.s 3)),I 12 (.mv (.s 0)),I 13 (.mv (.s 4)),I 14 (.ixS 4 (.s 12) (.s 13)),I 15 (.ld true 4 (.s 14)),I 16 (.bslice false 4 [ZK] [(0,(.s 15))]),I 17 (.app 4 32 (.s 11) (.s 16)),I 3 (.mv (.s 17))])
def ZG6:PC :=
 (.reg [0,3,4] [I 9 (.mv (.s 4)),I 10 (.bin .add (.s 9) (V 1)),I 4 (.mv (.s 10))])
def ZG7:PC :=
 (.seq (.seq ZG4
 (.ite (.s 8)
 .skip
 (.exit 0)))
 (.seq (.block 1
 ZG5)
 ZG6))
def ZG8:PC :=
 (.reg [2] [I 18 (.mv (.s 3)),I 2 (.mv (.s 18))])
def ZBB:PF:=⟨false,
 (.seq ZG1
 (.seq ZG2
 (.seq (.seq ZG3
 (.block 0
 (.loop ZG7)))
 (.seq ZG8
 .ret)))),
 [.s 2]⟩
theorem ZKx:Zx Proofs.Tryz.prog false ZKw Proofs.Tryz.f153=some ZBB:=by kernel_rfl
def Zd1:List Hint:=[H [0,4,5],H [0,4,5,22],H [6,7],H [0,4,5,8,9],H [0,4,5,8,9],H [0,4,5,8,9,33],H [0,4,5,8,9,10],H [0,4,5,8,9,10,41],H [6,7],H [0,4,5,8,9,47],H [0,4,5,8,9,10],H [0,4,5,8,9,10,55],H [6,7],H [0,4,5,8,9,57],H [6,7],H [0,4,5,8,9,78],H [6,7],H [0,4,5,8,9,87],H [0,5,8,11],H [8,11,12,13],H [8,11,12,13,107],H [6,7],H [6,7],H [9,10,14],H [9,10,14,127],H [6,7],⟨[6,7],[],[],[],[(4,.blind),(2,.app0),(0,.imm)],[]⟩]
def ZX1:PC :=
 (.reg [0,4,5] [I 4 (.box (.s 1)),I 5 (.box (.s 2)),I 6 (.mv (.v .nils)),I 7 (.mv (V 0))])
def ZX2:PC :=
 (.reg [0,4,5,22] [I 15 (.fadr 1 (.s 4)),I 16 (.ld false 1 (.s 15)),I 17 (.bin .eql (.s 16) (V 0)),I 18 (.mv (.s 17)),G 19 18 true (.fadr 1 (.s 5)),G 20 18 true (.ld false 1 (.s 19)),G 21 18 true (.bin .eql (.s 20) (V 0)),I 22 (.pick (.s 18) (.s 21) (.v (.bool false)))])
def ZX3:PC :=
 (.reg [6,7] [I 23 (.mv (.s 0)),I 24 (.ld true 7 (.s 4)),I 25 (.ld true 7 (.s 5)),I 26 (C ZEC [(.s 23),(.s 24),(.s 25)]),I 27 (.ext (.s 26) 0),I 28 (.ext (.s 26) 1),I 6 (.mv (.s 27)),I 7 (.mv (.s 28))])
def ZX4:PC :=
 (.reg [0,4,5,8,9] [I 8 (.mv (.v .nils)),I 9 (.mv (.v .nils))])
def ZX5:PC :=
 (.reg [0,4,5,8,9] [I 10 (.mv (V 0))])
def ZX6:PC :=
 (.reg [0,4,5,8,9,33] [I 29 (.fadr 1 (.s 4)),I 30 (.ld false 1 (.s 29)),I 31 (.fadr 1 (.s 5)),I 32 (.ld false 1 (.s 31)),I 33 (.bin .geq (.s 30) (.s 32))])
def ZX7:PC :=
 (.reg [0,4,5,8,9,10] [I 35 (.mv (.s 0)),I 36 (.ld true 7 (.s 4)),I 37 (C Jy [(.s 35),(.s 36)]),I 34 (.mv (.s 37)),I 38 (.ext (.s 34) 0),I 39 (.ext (.s 34) 1),I 8 (.mv (.s 38)),I 10 (.mv (.s 39))])
def ZX8:PC :=
 (.reg [0,4,5,8,9,10,41] [I 40 (.mv (.s 10)),I 41 (.bin .neq (.s 40) (V 0))])
def ZX9:PC :=
 (.reg [6,7] [I 42 (.mv (.s 10)),I 6 (.mv (.v .nils)),I 7 (.mv (.s 42))])
def ZYA:PC :=
 (.reg [0,4,5,8,9,47] [I 43 (.fadr 1 (.s 5)),I 44 (.ld false 1 (.s 43)),I 45 (.fadr 1 (.s 4)),I 46 (.ld false 1 (.s 45)),I 47 (.bin .geq (.s 44) (.s 46))])
def ZUa:PC :=
 (.reg [0,4,5,8,9,10] [I 49 (.mv (.s 0)),I 50 (.ld true 7 (.s 5)),I 51 (C Jy [(.s 49),(.s 50)]),I 48 (.mv (.s 51)),I 52 (.ext (.s 48) 0),I 53 (.ext (.s 48) 1),I 9 (.mv (.s 52)),I 10 (.mv (.s 53))])
def ZUb:PC :=
 (.reg [0,4,5,8,9,10,55] [I 54 (.mv (.s 10)),I 55 (.bin .neq (.s 54) (V 0))])
def ZUc:PC :=
 (.reg [6,7] [I 56 (.mv (.s 10)),I 6 (.mv (.v .nils)),I 7 (.mv (.s 56))])
def ZUd:PC :=
 (.reg [0,4,5,8,9,57] [I 58 (.fadr 1 (.s 4)),I 59 (.ld false 1 (.s 58)),I 60 (.fadr 1 (.s 5)),I 61 (.ld false 1 (.s 60)),I 62 (.bin .eql (.s 59) (.s 61)),I 63 (.mv (.s 62)),G 64 63 true (.mv (.s 8)),G 65 63 true (.len 1 (.s 64)),G 66 63 true (.mv (.s 9)),G 67 63 true (.len 1 (.s 66)),G 68 63 true (.bin .add (.s 65) (.s 67)),G 69 63 true (.bin .leq (.s 68) (V 4)),I 70 (.pick (.s 63) (.s 69) (.v (.bool false))),I 57 (.mv (.s 70))])
def ZUe:PC :=
 (.reg [6,7] [I 71 (.bslice false 7 [] []),I 72 (.mv (.s 8)),I 73 (.app 7 80 (.s 71) (.s 72)),I 74 (.mv (.s 9)),I 75 (.app 7 80 (.s 73) (.s 74)),I 76 (C QO [(.s 75)]),I 77 (.bslice false 7 [ZT] [(0,(.s 76))]),I 6 (.mv (.s 77)),I 7 (.mv (V 0))])
def ZUf:PC :=
 (.reg [0,4,5,8,9,78] [I 79 (.fadr 1 (.s 4)),I 80 (.ld false 1 (.s 79)),I 81 (.fadr 1 (.s 5)),I 82 (.ld false 1 (.s 81)),I 83 (.bin .eql (.s 80) (.s 82)),I 78 (.mv (.s 83))])
def ZUg:PC :=
 (.reg [6,7] [I 84 (.ld true 7 (.s 4)),I 85 (.ld true 7 (.s 5)),I 86 (.bslice false 7 [ZT,ZT] [(0,(.s 84)),(1,(.s 85))]),I 6 (.mv (.s 86)),I 7 (.mv (V 0))])
def ZUh:PC :=
 (.reg [0,4,5,8,9,87] [I 88 (.fadr 1 (.s 4)),I 89 (.ld false 1 (.s 88)),I 90 (.fadr 1 (.s 5)),I 91 (.ld false 1 (.s 90)),I 92 (.bin .gtr (.s 89) (.s 91)),I 87 (.mv (.s 92))])
def ZUi:PC :=
 (.reg [0,5,8,11] [I 93 (.mv (.s 8)),I 94 (.len 1 (.s 93)),I 95 (.bin .sub (.s 94) (V 1)),I 11 (.mv (.s 95))])
def ZUj:PC :=
 (.reg [8,11,12,13] [I 97 (.mv (.s 0)),I 98 (.mv (.s 8)),I 99 (.mv (.s 11)),I 100 (.ixS 7 (.s 98) (.s 99)),I 101 (.ld true 7 (.s 100)),I 102 (.ld true 7 (.s 5)),I 103 (C ZAL [(.s 97),(.s 101),(.s 102)]),I 96 (.mv (.s 103)),I 104 (.ext (.s 96) 0),I 105 (.ext (.s 96) 1),I 12 (.mv (.s 104)),I 13 (.mv (.s 105))])
def ZUk:PC :=
 (.reg [8,11,12,13,107] [I 106 (.mv (.s 13)),I 107 (.bin .neq (.s 106) (V 0))])
def ZUl:PC :=
 (.reg [6,7] [I 108 (.mv (.s 13)),I 6 (.mv (.v .nils)),I 7 (.mv (.s 108))])
def ZUm:PC :=
 (.reg [6,7] [I 109 (.bslice false 7 [] []),I 110 (.mv (.s 8)),I 111 (.mv (.s 11)),I 112 (.slc 7 (.s 110) none (some (.s 111))),I 113 (.app 7 80 (.s 109) (.s 112)),I 114 (.mv (.s 12)),I 115 (.app 7 80 (.s 113) (.s 114)),I 116 (C ZDo [(.s 115)]),I 6 (.mv (.s 116)),I 7 (.mv (V 0))])
def ZUn:PC :=
 (.reg [9,10,14] [I 118 (.mv (.s 0)),I 119 (.ld true 7 (.s 4)),I 120 (.mv (.s 9)),I 121 (.ixS 7 (.s 120) (V 0)),I 122 (.ld true 7 (.s 121)),I 123 (C ZAL [(.s 118),(.s 119),(.s 122)]),I 117 (.mv (.s 123)),I 124 (.ext (.s 117) 0),I 125 (.ext (.s 117) 1),I 14 (.mv (.s 124)),I 10 (.mv (.s 125))])
def ZUo:PC :=
 (.reg [9,10,14,127] [I 126 (.mv (.s 10)),I 127 (.bin .neq (.s 126) (V 0))])
def ZUp:PC :=
 (.reg [6,7] [I 128 (.mv (.s 10)),I 6 (.mv (.v .nils)),I 7 (.mv (.s 128))])
def ZUq:PC :=
 (.reg [6,7] [I 129 (.w .imm (.bslice false 7 [] [])),I 130 (.mv (.s 14)),I 131 (.w .app0 (.app 7 80 (.s 129) (.s 130))),I 132 (.mv (.s 9)),I 133 (.w .blind (.slc 7 (.s 132) (some (V 1)) none)),I 134 (.app 7 80 (.s 131) (.s 133)),I 135 (C ZDo [(.s 134)]),I 6 (.mv (.s 135)),I 7 (.mv (V 0))])
def ZP8:PF:=⟨false,
 (.seq ZX1
 (.seq (.seq ZX2
 (.ite (.s 22)
 (.seq ZX3
 .ret)
 .skip))
 (.seq ZX4
 (.seq ZX5
 (.seq (.seq ZX6
 (.ite (.s 33)
 (.seq ZX7
 (.seq ZX8
 (.ite (.s 41)
 (.seq ZX9
 .ret)
 .skip)))
 .skip))
 (.seq (.seq ZYA
 (.ite (.s 47)
 (.seq ZUa
 (.seq ZUb
 (.ite (.s 55)
 (.seq ZUc
 .ret)
 .skip)))
 .skip))
 (.seq (.block 0
 (.seq ZUd
 (.ite (.s 57)
 (.seq ZUe
 .ret)
 (.seq ZUf
 (.ite (.s 78)
 (.seq ZUg
 .ret)
 (.seq ZUh
 (.ite (.s 87)
 (.seq ZUi
 (.seq ZUj
 (.seq (.seq ZUk
 (.ite (.s 107)
 (.seq ZUl
 .ret)
 .skip))
 (.seq ZUm
 .ret))))
 .skip)))))))
 (.seq ZUn
 (.seq (.seq ZUo
 (.ite (.s 127)
 (.seq ZUp
 .ret)
 .skip))
 (.seq ZUq
 .ret)))))))))),
 [.s 6,.s 7]⟩
theorem Zd2:Zx Proofs.Tryz.prog false Zd1 Proofs.Tryz.f154=some ZP8:=by kernel_rfl
def Zfe:List Hint:=[H [0,1],H [0,1,9],H [4,5,6],H [0,1,17],H [4,5,6],H [4,5,6]]
def Za6:PC :=
 (.reg [0,1] [I 4 (.mv (.v (.str []))),I 5 (.mv (.v (.str []))),I 6 (.mv (V 0))])
def Za7:PC :=
 (.reg [0,1,9] [I 7 (.mv (.s 0)),I 8 (C ZAN [(.s 7)]),I 9 (.un .not (.s 8))])
def Za8:PC :=
 (.reg [4,5,6] [I 4 (.mv (.v (.str []))),I 5 (.mv (.v (.str []))),I 6 (.mv (V 2))])
def Za9:PC :=
 (.reg [0,1,17] [I 10 (.mv (.s 1)),I 11 (.bin .lss (.s 10) (V 0)),I 12 (.mv (.s 11)),G 13 12 false (.mv (.s 1)),G 14 12 false (.mv (.s 0)),G 15 12 false (.len 0 (.s 14)),G 16 12 false (.bin .gtr (.s 13) (.s 15)),I 17 (.pick (.s 12) (.v (.bool true)) (.s 16))])
def ZbA:PC :=
 (.reg [4,5,6] [I 4 (.mv (.v (.str []))),I 5 (.mv (.v (.str []))),I 6 (.mv (V 3))])
def ZbB:PC :=
 (.reg [4,5,6] [I 18 (.mv (.s 0)),I 19 (.mv (.s 1)),I 20 (.slcS (.s 18) none (some (.s 19))),I 21 (.mv (.s 0)),I 22 (.mv (.s 1)),I 23 (.slcS (.s 21) (some (.s 22)) none),I 4 (.mv (.s 20)),I 5 (.mv (.s 23)),I 6 (.mv (V 0))])
def ZSs:PF:=⟨false,
 (.seq Za6
 (.seq (.seq Za7
 (.ite (.s 9)
 (.seq Za8
 .ret)
 .skip))
 (.seq (.seq Za9
 (.ite (.s 17)
 (.seq ZbA
 .ret)
 .skip))
 (.seq ZbB
 .ret)))),
 [.s 4,.s 5,.s 6]⟩
theorem Zff:Zx Proofs.Tryz.prog false Zfe Proofs.Tryz.f155=some ZSs:=by kernel_rfl
def ZbC:List Hint:=[H [0],H [0,4],H [0,4,10],H [2,3],H [5],H [2,3]]
def ZUr:PC :=
 (.reg [0] [I 2 (.mv (V 0)),I 3 (.mv (V 0))])
def ZUs:PC :=
 (.reg [0,4] [I 7 (.mv (.s 0)),I 8 (C YJ [(.s 7)]),I 4 (.mv (.s 8))])
def ZUt:PC :=
 (.reg [0,4,10] [I 9 (.mv (.s 4)),I 10 (.bin .neq (.s 9) (V 0))])
def ZUu:PC :=
 (.reg [2,3] [I 11 (.mv (.s 4)),I 2 (.mv (V 0)),I 3 (.mv (.s 11))])
def ZUv:PC :=
 (.reg [5] [I 13 (.mv (.s 0)),I 14 (C XC [(.s 13)]),I 12 (.mv (.s 14)),I 15 (.ext (.s 12) 0),I 16 (.ext (.s 12) 1),I 5 (.mv (.s 15)),I 6 (.mv (.s 16))])
def ZUw:PC :=
 (.reg [2,3] [I 17 (.mv (.s 5)),I 2 (.mv (.s 17)),I 3 (.mv (V 0))])
def ZNM:PF:=⟨false,
 (.seq ZUr
 (.seq (.seq ZUs
 (.seq ZUt
 (.ite (.s 10)
 (.seq ZUu
 .ret)
 .skip)))
 (.seq ZUv
 (.seq ZUw
 .ret)))),
 [.s 2,.s 3]⟩
theorem ZbD:Zx Proofs.Tryz.prog false ZbC Proofs.Tryz.f156=some ZNM:=by kernel_rfl
def Zd3:List Hint:=[H [0],H [0,4],H [0,4,10],H [2,3],H [6],H [2,3]]
def ZYB:PC :=
 (.reg [0] [I 2 (.mv (.v (.int .u64 0))),I 3 (.mv (V 0))])
def ZYC:PC :=
 (.reg [0,4] [I 7 (.mv (.s 0)),I 8 (C YJ [(.s 7)]),I 4 (.mv (.s 8))])
def ZYD:PC :=
 (.reg [0,4,10] [I 9 (.mv (.s 4)),I 10 (.bin .neq (.s 9) (V 0))])
def ZYE:PC :=
 (.reg [2,3] [I 11 (.mv (.s 4)),I 2 (.mv (.v (.int .u64 0))),I 3 (.mv (.s 11))])
def ZYF:PC :=
 (.reg [6] [I 13 (.mv (.s 0)),I 14 (C XC [(.s 13)]),I 12 (.mv (.s 14)),I 15 (.ext (.s 12) 0),I 16 (.ext (.s 12) 1),I 5 (.mv (.s 15)),I 6 (.mv (.s 16))])
def ZYG:PC :=
 (.reg [2,3] [I 17 (.mv (.s 6)),I 2 (.mv (.s 17)),I 3 (.mv (V 0))])
def ZP9:PF:=⟨false,
 (.seq ZYB
 (.seq (.seq ZYC
 (.seq ZYD
 (.ite (.s 10)
 (.seq ZYE
 .ret)
 .skip)))
 (.seq ZYF
 (.seq ZYG
 .ret)))),
 [.s 2,.s 3]⟩
theorem Zd4:Zx Proofs.Tryz.prog false Zd3 Proofs.Tryz.f157=some ZP9:=by kernel_rfl
def ZUx:List Hint:=[H [0,1,2],H [1,2,9],H [4],H [4]]
def ZQA:PC :=
 (.reg [0,1,2] [I 4 (.mv (V 0))])
def ZQB:PC :=
 (.reg [1,2,9] [I 5 (.mv (.s 0)),I 6 (.ld false 1 (.s 1)),I 7 (.ld false 1 (.s 2)),I 8 (.bin .rem (.s 6) (.s 7)),I 9 (.bin .lss (.s 5) (.s 8))])
def ZQC:PC :=
 (.reg [4] [I 10 (.ld false 1 (.s 1)),I 11 (.ld false 1 (.s 2)),I 12 (.bin .quo (.s 10) (.s 11)),I 13 (.bin .add (.s 12) (V 1)),I 4 (.mv (.s 13))])
def ZQD:PC :=
 (.reg [4] [I 14 (.ld false 1 (.s 1)),I 15 (.ld false 1 (.s 2)),I 16 (.bin .quo (.s 14) (.s 15)),I 4 (.mv (.s 16))])
def ZHV:PF:=⟨false,
 (.seq ZQA
 (.seq (.seq ZQB
 (.ite (.s 9)
 (.seq ZQC
 .ret)
 .skip))
 (.seq ZQD
 .ret))),
 [.s 4]⟩
theorem ZUy:Zx Proofs.Tryz.prog false ZUx Proofs.Tryz.f163=some ZHV:=by kernel_rfl
def ZbE:List Hint:=[H [0],H [0,2,3],H [2,3,4,5],H [2,3,4,5,6],H [2,3,4,5],H [2,3,4,5],H [2,3,4,5],H [2,3]]
def ZUz:PC :=
 (.reg [0] [I 2 (.mv (V 0)),I 3 (.mv (V 0))])
def ZU0:PC :=
 (.reg [0,2,3] [I 2 (.mv (V 8)),I 3 (.mv (V 16))])
def ZU1:PC :=
 (.reg [2,3,4,5] [I 4 (.mv (.s 0)),I 5 (.mv (V 0))])
def ZU2:PC :=
 (.reg [2,3,4,5,6] [I 6 (.bin .lss (.s 5) (.s 4))])
def ZU3:PC :=
 (.reg [2,3,4,5] [I 7 (.mv (.s 2)),I 8 (.bin .mul (.s 7) (V 2)),I 2 (.mv (.s 8))])
def ZU4:PC :=
 (.reg [2,3,4,5] [I 9 (.mv (.s 3)),I 10 (.bin .mul (.s 9) (V 4)),I 11 (.mnx false (.s 10) (V 65536)),I 3 (.mv (.s 11))])
def ZU5:PC :=
 (.reg [2,3,4,5] [I 12 (.bin .add (.s 5) (V 1)),I 5 (.mv (.s 12))])
def ZU6:PC :=
 (.seq ZU2
 (.seq (.ite (.s 6)
 .skip
 (.exit 0))
 (.seq (.block 1
 (.seq ZU3
 ZU4))
 ZU5)))
def ZU7:PC :=
 (.reg [2,3] [I 13 (.mv (.s 2)),I 14 (.mv (.s 3)),I 15 (.mnx false (.s 14) (V 65536)),I 2 (.mv (.s 13)),I 3 (.mv (.s 15))])
def ZNN:PF:=⟨false,
 (.seq ZUz
 (.seq ZU0
 (.seq (.seq ZU1
 (.block 0
 (.loop ZU6)))
 (.seq ZU7
 .ret)))),
 [.s 2,.s 3]⟩
theorem ZbF:Zx Proofs.Tryz.prog false ZbE Proofs.Tryz.f164=some ZNN:=by kernel_rfl
def ZYH:List Hint:=[H [0],H [3,4],H [19],H [2],H [2]]
def ZR1:PC :=
 (.reg [0] [I 2 (.mv (V 0))])
def ZR2:PC :=
 (.reg [3,4] [I 6 (.mv (.s 0)),I 7 (C XC [(.s 6)]),I 5 (.mv (.s 7)),I 8 (.ext (.s 5) 0),I 9 (.ext (.s 5) 1),I 3 (.mv (.s 8)),I 4 (.mv (.s 9))])
def ZR3:PC :=
 (.reg [19] [I 10 (.mv (.s 3)),I 11 (.bin .geq (.s 10) (V 16384)),I 12 (.mv (.s 11)),G 13 12 false (.mv (.s 4)),G 14 12 false (.bin .lss (.s 13) (.v (.int .u64 1))),I 15 (.pick (.s 12) (.v (.bool true)) (.s 14)),I 16 (.mv (.s 15)),G 17 16 false (.mv (.s 4)),G 18 16 false (.bin .gtr (.s 17) (.v (.int .u64 4294967295))),I 19 (.pick (.s 16) (.v (.bool true)) (.s 18))])
def ZR4:PC :=
 (.reg [2] [I 2 (.mv (V 2))])
def ZR5:PC :=
 (.reg [2] [I 2 (.mv (V 0))])
def ZKy:PF:=⟨false,
 (.seq ZR1
 (.seq (.seq ZR2
 (.seq ZR3
 (.ite (.s 19)
 (.seq ZR4
 .ret)
 .skip)))
 (.seq ZR5
 .ret))),
 [.s 2]⟩
theorem ZYI:Zx Proofs.Tryz.prog false ZYH Proofs.Tryz.f165=some ZKy:=by kernel_rfl
def Zd5:List Hint:=[H [0,2],H [0,2,3],H [0,2,3,6,7],H [0,2,3,6,7,8],H [0,2,3,4,5,6,7],H [0,2,3,6,7],H [0,2,3,6,7],H [2]]
def ZYJ:PC :=
 (.reg [0,2] [I 2 (.box (.v ZM))])
def ZYK:PC :=
 (.reg [0,2,3] [I 3 (.box (.v ZM))])
def ZYL:PC :=
 (.reg [0,2,3,6,7] [I 6 (.build [.nilfunc,.nilfunc,.nilfunc] [(0,1,(.v (.func (.func Xm) [] []))),(1,1,(.v (.func (.func XJ) [] []))),(2,1,(.v (.func (.func Xl) [] [])))]),I 7 (.mv (V 0))])
def ZYM:PC :=
 (.reg [0,2,3,6,7,8] [I 8 (.bin .lss (.s 7) (V 3))])
def ZYN:PC :=
 (.reg [0,2,3,4,5,6,7] [I 9 (.mv (.s 7)),I 10 (.ixArr false 3 1 (.s 6) (.s 7)),I 4 (.mv (.s 9)),I 5 (.mv (.s 10))])
def ZYO:PC :=
 (.reg [0,2,3,6,7] [I 11 (.mv (.s 4)),I 12 (.mv (.s 0)),I 13 (.mv (.s 5)),I 14 (C ZBI [(.s 12),(.s 13)]),I 15 (.ixA 3 1 (.s 3) (.s 11)),J (.st 1 (.s 15) (.s 14))])
def ZYP:PC :=
 (.reg [0,2,3,6,7] [I 16 (.bin .add (.s 7) (V 1)),I 7 (.mv (.s 16))])
def ZYQ:PC :=
 (.seq ZYM
 (.seq (.ite (.s 8)
 .skip
 (.exit 0))
 (.seq (.block 1
 (.seq ZYN
 ZYO))
 ZYP)))
def ZYR:PC :=
 (.reg [2] [I 17 (.ld true 3 (.s 3)),I 18 (C YS [(.s 17)]),J (.st 3 (.s 2) (.s 18))])
def ZQE:PF:=⟨false,
 (.seq ZYJ
 (.seq ZYK
 (.seq (.seq ZYL
 (.block 0
 (.loop ZYQ)))
 (.seq ZYR
 .ret)))),
 [.c 2 true 3]⟩
theorem Zd6:Zx Proofs.Tryz.prog false Zd5 Proofs.Tryz.f166=some ZQE:=by kernel_rfl
def ZbG:List Hint:=[H [0,2],H [0,2,3],H [2,3,8,9,10],H [2,3,8,9,10,11],H [2,3,5,8,9,10],H [2,3,8,9,10,20,21],H [2,3,8,9,10,20,21,22],H [2,3,6,7,8,9,10,20,21],H [2,3,8,9,10,20,21],H [2,3,8,9,10,20,21],H [2,3,8,9,10],H [2]]
def ZU8:PC :=
 (.reg [0,2] [I 2 (.box (.v ZM))])
def ZU9:PC :=
 (.reg [0,2,3] [I 3 (.box (.v ZM))])
def ZVA:PC :=
 (.reg [2,3,8,9,10] [I 8 (.mv (.s 0)),I 9 (.len 1 (.s 8)),I 10 (.mv (V 0))])
def ZVB:PC :=
 (.reg [2,3,8,9,10,11] [I 11 (.bin .lss (.s 10) (.s 9))])
def ZVC:PC :=
 (.reg [2,3,5,8,9,10] [I 12 (.ixS 3 (.s 8) (.s 10)),I 13 (.ld true 3 (.s 12)),I 5 (.box (.v ZM)),J (.st 3 (.s 5) (.s 13))])
def ZVD:PC :=
 (.reg [2,3,8,9,10,20,21] [I 14 (.fadr 0 (.s 5)),I 15 (.ld false 1 (.s 14)),I 16 (.fadr 1 (.s 5)),I 17 (.ld false 1 (.s 16)),I 18 (.fadr 2 (.s 5)),I 19 (.ld false 1 (.s 18)),I 20 (.build [(.int .i64 0),(.int .i64 0),(.int .i64 0)] [(0,1,(.s 15)),(1,1,(.s 17)),(2,1,(.s 19))]),I 21 (.mv (V 0))])
def ZVE:PC :=
 (.reg [2,3,8,9,10,20,21,22] [I 22 (.bin .lss (.s 21) (V 3))])
def ZVF:PC :=
 (.reg [2,3,6,7,8,9,10,20,21] [I 23 (.mv (.s 21)),I 24 (.ixArr false 3 1 (.s 20) (.s 21)),I 6 (.mv (.s 23)),I 7 (.mv (.s 24))])
def ZVG:PC :=
 (.reg [2,3,8,9,10,20,21] [I 25 (.mv (.s 6)),I 26 (.ixA 3 1 (.s 3) (.s 25)),I 27 (.ld false 1 (.s 26)),I 28 (.mv (.s 7)),I 29 (.bin .add (.s 27) (.s 28)),I 30 (.ixA 3 1 (.s 3) (.s 25)),J (.st 1 (.s 30) (.s 29))])
def ZVH:PC :=
 (.reg [2,3,8,9,10,20,21] [I 31 (.bin .add (.s 21) (V 1)),I 21 (.mv (.s 31))])
def ZR6:PC :=
 (.seq ZVE
 (.seq (.ite (.s 22)
 .skip
 (.exit 2))
 (.seq (.block 3
 (.seq ZVF
 ZVG))
 ZVH)))
def ZR7:PC :=
 (.reg [2,3,8,9,10] [I 32 (.bin .add (.s 10) (V 1)),I 10 (.mv (.s 32))])
def ZR8:PC :=
 (.seq ZVB
 (.seq (.ite (.s 11)
 .skip
 (.exit 0))
 (.seq (.block 1
 (.seq ZVC
 (.seq ZVD
 (.block 2
 (.loop ZR6)))))
 ZR7)))
def ZR9:PC :=
 (.reg [2] [I 33 (.ld true 3 (.s 3)),I 34 (C YS [(.s 33)]),J (.st 3 (.s 2) (.s 34))])
def ZNO:PF:=⟨false,
 (.seq ZU8
 (.seq ZU9
 (.seq (.seq ZVA
 (.block 0
 (.loop ZR8)))
 (.seq ZR9
 .ret)))),
 [.c 2 true 3]⟩
theorem ZbH:Zx Proofs.Tryz.prog false ZbG Proofs.Tryz.f167=some ZNO:=by kernel_rfl
def ZQF:List Hint:=[H [0,3],H [0,3,5,6],H [0,3,5,6,7],H [0,3,5,6,7,11],H [0,3,5,6,7],H [0,3,5,6,7],H [0,3,5,6,7],H [3,5,6,8],H [4]]
def ZMx:PC :=
 (.reg [0,3] [I 3 (.box (.s 1)),I 4 (.mv (.v (.bool false)))])
def ZMy:PC :=
 (.reg [0,3,5,6] [I 5 (.mv (V 8)),I 6 (.mv (V 16))])
def ZMz:PC :=
 (.reg [0,3,5,6,7] [I 7 (.mv (V 1))])
def ZM0:PC :=
 (.reg [0,3,5,6,7,11] [I 9 (.mv (.s 7)),I 10 (.mv (.s 0)),I 11 (.bin .lss (.s 9) (.s 10))])
def ZM1:PC :=
 (.reg [0,3,5,6,7] [I 14 (.mv (.s 5)),I 15 (.bin .mul (.s 14) (V 2)),I 5 (.mv (.s 15))])
def ZM2:PC :=
 (.reg [0,3,5,6,7] [I 16 (.mv (.s 6)),I 17 (.bin .mul (.s 16) (V 4)),I 18 (.mnx false (.s 17) (V 65536)),I 6 (.mv (.s 18))])
def ZM3:PC :=
 (.reg [0,3,5,6,7] [I 12 (.mv (.s 7)),I 13 (.bin .add (.s 12) (V 1)),I 7 (.mv (.s 13))])
def ZM4:PC :=
 (.seq (.seq ZM0
 (.ite (.s 11)
 .skip
 (.exit 0)))
 (.seq (.block 1
 (.seq ZM1
 ZM2))
 ZM3))
def ZM5:PC :=
 (.reg [3,5,6,8] [I 19 (.fadr 1 (.s 3)),I 20 (.ld true 3 (.s 19)),I 8 (.box (.v ZM)),J (.st 3 (.s 8) (.s 20))])
def ZM6:PC :=
 (.reg [4] [I 21 (.fadr 0 (.s 3)),I 22 (.ld false 1 (.s 21)),I 23 (C XT [(.s 22)]),I 24 (.bin .eql (.s 23) (V 0)),I 25 (.mv (.s 24)),G 26 25 true (.fadr 0 (.s 8)),G 27 25 true (.ld false 1 (.s 26)),G 28 25 true (.mv (.s 5)),G 29 25 true (.bin .geq (.s 27) (.s 28)),I 30 (.pick (.s 25) (.s 29) (.v (.bool false))),I 31 (.mv (.s 30)),G 32 31 true (.fadr 0 (.s 8)),G 33 31 true (.ld false 1 (.s 32)),G 34 31 true (.mv (.s 6)),G 35 31 true (.bin .leq (.s 33) (.s 34)),I 36 (.pick (.s 31) (.s 35) (.v (.bool false))),I 37 (.mv (.s 36)),G 38 37 true (.fadr 1 (.s 8)),G 39 37 true (.ld false 1 (.s 38)),G 40 37 true (.bin .geq (.s 39) (V 0)),I 41 (.pick (.s 37) (.s 40) (.v (.bool false))),I 42 (.mv (.s 41)),G 43 42 true (.fadr 1 (.s 8)),G 44 42 true (.ld false 1 (.s 43)),G 45 42 true (.fadr 0 (.s 8)),G 46 42 true (.ld false 1 (.s 45)),G 47 42 true (.bin .leq (.s 44) (.s 46)),I 48 (.pick (.s 42) (.s 47) (.v (.bool false))),I 49 (.mv (.s 48)),G 50 49 true (.fadr 2 (.s 8)),G 51 49 true (.ld false 1 (.s 50)),G 52 49 true (.bin .geq (.s 51) (V 0)),I 53 (.pick (.s 49) (.s 52) (.v (.bool false))),I 54 (.mv (.s 53)),G 55 54 true (.fadr 2 (.s 8)),G 56 54 true (.ld false 1 (.s 55)),G 57 54 true (.fadr 1 (.s 8)),G 58 54 true (.ld false 1 (.s 57)),G 59 54 true (.bin .leq (.s 56) (.s 58)),I 60 (.pick (.s 54) (.s 59) (.v (.bool false))),I 4 (.mv (.s 60))])
def ZDw:PF:=⟨false,
 (.seq ZMx
 (.seq ZMy
 (.seq (.seq ZMz
 (.block 0
 (.loop ZM4)))
 (.seq ZM5
 (.seq ZM6
 .ret))))),
 [.s 4]⟩
theorem ZQG:Zx Proofs.Tryz.prog false ZQF Proofs.Tryz.f168=some ZDw:=by kernel_rfl
def ZSA:List Hint:=[H [0,2],H [0,2,3],H [0,2,3,4],H [0,2,3,4,13],H [0,2,3,4,19],H [0,2,3,4],H [0,2,3,4],H [2]]
def ZN8:PC :=
 (.reg [0,2] [I 2 (.box (.v ZM))])
def ZN9:PC :=
 (.reg [0,2,3] [I 5 (.mv (.s 0)),I 6 (.len 0 (.s 5)),I 7 (.mv (.s 0)),I 8 (C XU [(.s 7)]),I 9 (.build [(.int .i64 0),(.int .i64 0),(.int .i64 0)] [(0,1,(.s 6)),(1,1,(.s 8))]),I 3 (.box (.v ZM)),J (.st 3 (.s 3) (.s 9))])
def ZOA:PC :=
 (.reg [0,2,3,4] [I 4 (.mv (V 0))])
def ZOB:PC :=
 (.reg [0,2,3,4,13] [I 10 (.mv (.s 4)),I 11 (.mv (.s 0)),I 12 (.len 0 (.s 11)),I 13 (.bin .lss (.s 10) (.s 12))])
def ZOC:PC :=
 (.reg [0,2,3,4,19] [I 16 (.mv (.s 0)),I 17 (.mv (.s 4)),I 18 (.ixStr (.s 16) (.s 17)),I 19 (.bin .eql (.s 18) (.v (.int .u8 10)))])
def ZOD:PC :=
 (.reg [0,2,3,4] [I 20 (.fadr 2 (.s 3)),I 21 (.ld false 1 (.s 20)),I 22 (.bin .add (.s 21) (V 1)),I 23 (.fadr 2 (.s 3)),J (.st 1 (.s 23) (.s 22))])
def ZOE:PC :=
 (.reg [0,2,3,4] [I 14 (.mv (.s 4)),I 15 (.bin .add (.s 14) (V 1)),I 4 (.mv (.s 15))])
def ZOF:PC :=
 (.seq (.seq ZOB
 (.ite (.s 13)
 .skip
 (.exit 0)))
 (.seq (.block 1
 (.seq ZOC
 (.ite (.s 19)
 ZOD
 .skip)))
 ZOE))
def ZOG:PC :=
 (.reg [2] [I 24 (.ld true 3 (.s 3)),J (.st 3 (.s 2) (.s 24))])
def ZE5:PF:=⟨false,
 (.seq ZN8
 (.seq ZN9
 (.seq (.seq ZOA
 (.block 0
 (.loop ZOF)))
 (.seq ZOG
 .ret)))),
 [.c 2 true 3]⟩
theorem ZSB:Zx Proofs.Tryz.prog false ZSA Proofs.Tryz.f169=some ZE5:=by kernel_rfl
def ZbI:List Hint:=[H [0,4,5],⟨[0,4,5,8,9],[],[(1,.pure)],[],[],[]⟩,H [0,4,5,32],H [6,7],H [0,5,10,11],H [0,5,10,11,43],H [6,7],H [10,11,12],H [10,11,12,52],H [6,7],H [11,13],H [11,13,61],H [6,7],⟨[13,14],[0],[],[],[],[]⟩,H [14,63,64,65],H [14,63,64,65,66],H [14,16,63,64,65],H [14,63,64,65],H [14,63,64,65],H [6,7]]
def ZVI:PC :=
 (.reg [0,4,5] [I 4 (.box (.s 1)),I 5 (.box (.s 2)),I 6 (.mv (.v .nils)),I 7 (.mv (V 0))])
def ZVJ:PC :=
 (.reg [0,4,5,8,9] [I 17 (.ld true 7 (.s 4)),I 18 (.call .pure (.v (.func (.func QV) [] [])) [(.s 17)]),I 19 (.ld true 7 (.s 5)),I 20 (C QV [(.s 19)]),I 8 (.mv (.s 18)),I 9 (.mv (.s 20))])
def ZVK:PC :=
 (.reg [0,4,5,32] [I 21 (.mv (.s 8)),I 22 (.mv (.s 9)),I 23 (.bin .add (.s 21) (.s 22)),I 24 (.bin .gtr (.s 23) (V 16)),I 25 (.mv (.s 24)),G 26 25 true (.mv (.s 8)),G 27 25 true (.bin .geq (.s 26) (V 8)),I 28 (.pick (.s 25) (.s 27) (.v (.bool false))),I 29 (.mv (.s 28)),G 30 29 true (.mv (.s 9)),G 31 29 true (.bin .geq (.s 30) (V 8)),I 32 (.pick (.s 29) (.s 31) (.v (.bool false)))])
def ZVL:PC :=
 (.reg [6,7] [I 33 (.ld true 7 (.s 4)),I 34 (.ld true 7 (.s 5)),I 35 (.bslice false 7 [ZT,ZT] [(0,(.s 33)),(1,(.s 34))]),I 6 (.mv (.s 35)),I 7 (.mv (V 0))])
def ZVM:PC :=
 (.reg [0,5,10,11] [I 37 (.mv (.s 0)),I 38 (.ld true 7 (.s 4)),I 39 (C X8 [(.s 37),(.s 38)]),I 36 (.mv (.s 39)),I 40 (.ext (.s 36) 0),I 41 (.ext (.s 36) 1),I 10 (.mv (.s 40)),I 11 (.mv (.s 41))])
def ZVN:PC :=
 (.reg [0,5,10,11,43] [I 42 (.mv (.s 11)),I 43 (.bin .neq (.s 42) (V 0))])
def ZVO:PC :=
 (.reg [6,7] [I 44 (.mv (.s 11)),I 6 (.mv (.v .nils)),I 7 (.mv (.s 44))])
def ZVP:PC :=
 (.reg [10,11,12] [I 46 (.mv (.s 0)),I 47 (.ld true 7 (.s 5)),I 48 (C X8 [(.s 46),(.s 47)]),I 45 (.mv (.s 48)),I 49 (.ext (.s 45) 0),I 50 (.ext (.s 45) 1),I 12 (.mv (.s 49)),I 11 (.mv (.s 50))])
def ZVQ:PC :=
 (.reg [10,11,12,52] [I 51 (.mv (.s 11)),I 52 (.bin .neq (.s 51) (V 0))])
def ZVR:PC :=
 (.reg [6,7] [I 53 (.mv (.s 11)),I 6 (.mv (.v .nils)),I 7 (.mv (.s 53))])
def ZSC:PC :=
 (.reg [11,13] [I 55 (.mv (.s 10)),I 56 (.mv (.s 12)),I 57 (C ZFf [(.s 55),(.s 56)]),I 54 (.mv (.s 57)),I 58 (.ext (.s 54) 0),I 59 (.ext (.s 54) 1),I 13 (.mv (.s 58)),I 11 (.mv (.s 59))])
def ZSD:PC :=
 (.reg [11,13,61] [I 60 (.mv (.s 11)),I 61 (.bin .neq (.s 60) (V 0))])
def ZSE:PC :=
 (.reg [6,7] [I 62 (.mv (.s 11)),I 6 (.mv (.v .nils)),I 7 (.mv (.s 62))])
def ZSF:PC :=
 (.reg [13,14] [I 14 (.onil 7)])
def ZSG:PC :=
 (.reg [14,63,64,65] [I 63 (.mv (.s 13)),I 64 (.len 1 (.s 63)),I 65 (.mv (V 0))])
def ZSH:PC :=
 (.reg [14,63,64,65,66] [I 66 (.bin .lss (.s 65) (.s 64))])
def ZSI:PC :=
 (.reg [14,16,63,64,65] [I 67 (.ixS 1 (.s 63) (.s 65)),I 68 (.ld false 1 (.s 67)),I 16 (.mv (.s 68))])
def ZSJ:PC :=
 (.reg [14,63,64,65] [I 69 (.mv (.s 14)),I 70 (.mv (.s 16)),I 71 (.build [(.int .u64 0),(.int .i64 0),(.int .i64 0),(.int .i64 0),(.int .i64 0),(.str []),.nils] [(5,1,(.s 70))]),I 72 (.bslice false 7 [ZT] [(0,(.s 71))]),I 73 (.app 7 80 (.s 69) (.s 72)),I 14 (.mv (.s 73))])
def ZSK:PC :=
 (.reg [14,63,64,65] [I 74 (.bin .add (.s 65) (V 1)),I 65 (.mv (.s 74))])
def ZE6:PC :=
 (.seq ZSH
 (.seq (.ite (.s 66)
 .skip
 (.exit 0))
 (.seq (.block 1
 (.seq ZSI
 ZSJ))
 ZSK)))
def ZSL:PC :=
 (.reg [6,7] [I 75 (.mv (.s 14)),I 6 (.mv (.s 75)),I 7 (.mv (V 0))])
def ZNP:PF:=⟨false,
 (.seq ZVI
 (.seq ZVJ
 (.seq (.seq ZVK
 (.ite (.s 32)
 (.seq ZVL
 .ret)
 .skip))
 (.seq ZVM
 (.seq (.seq ZVN
 (.ite (.s 43)
 (.seq ZVO
 .ret)
 .skip))
 (.seq ZVP
 (.seq (.seq ZVQ
 (.ite (.s 52)
 (.seq ZVR
 .ret)
 .skip))
 (.seq ZSC
 (.seq (.seq ZSD
 (.ite (.s 61)
 (.seq ZSE
 .ret)
 .skip))
 (.seq ZSF
 (.seq (.seq ZSG
 (.block 0
 (.loop ZE6)))
 (.seq ZSL
 .ret)))))))))))),
 [.s 6,.s 7]⟩
theorem ZbJ:Zx Proofs.Tryz.prog false ZbI Proofs.Tryz.f170=some ZNP:=by kernel_rfl
def Zfg:List Hint:=[H [0],H [0,6],H [2],H [0,3],⟨[2],[],[(3,.pure)],[],[],[]⟩]
def ZbK:PC :=
 (.reg [0] [I 2 (.mv (.v .nils))])
def ZbL:PC :=
 (.reg [0,6] [I 4 (.mv (.s 0)),I 5 (.len 1 (.s 4)),I 6 (.bin .leq (.s 5) (V 4))])
def ZbM:PC :=
 (.reg [2] [I 7 (.mv (.s 0)),I 8 (C QO [(.s 7)]),I 9 (.bslice false 7 [ZT] [(0,(.s 8))]),I 2 (.mv (.s 9))])
def ZbN:PC :=
 (.reg [0,3] [I 10 (.mv (.s 0)),I 11 (.len 1 (.s 10)),I 12 (.bin .add (.s 11) (V 1)),I 13 (.bin .quo (.s 12) (V 2)),I 3 (.mv (.s 13))])
def ZbO:PC :=
 (.reg [2] [I 14 (.mv (.s 0)),I 15 (.mv (.s 3)),I 16 (.slc 7 (.s 14) none (some (.s 15))),I 17 (.call .pure (.v (.func (.func QO) [] [])) [(.s 16)]),I 18 (.mv (.s 0)),I 19 (.mv (.s 3)),I 20 (.slc 7 (.s 18) (some (.s 19)) none),I 21 (C QO [(.s 20)]),I 22 (.bslice false 7 [ZT,ZT] [(0,(.s 17)),(1,(.s 21))]),I 2 (.mv (.s 22))])
def ZSt:PF:=⟨false,
 (.seq ZbK
 (.seq (.seq ZbL
 (.ite (.s 6)
 (.seq ZbM
 .ret)
 .skip))
 (.seq ZbN
 (.seq ZbO
 .ret)))),
 [.s 2]⟩
theorem Zfh:Zx Proofs.Tryz.prog false Zfg Proofs.Tryz.f171=some ZSt:=by kernel_rfl
def Zd7:List Hint:=[H [0],H [2]]
def ZYS:PC :=
 (.reg [0] [I 2 (.mv (.v (.bool false)))])
def ZYT:PC :=
 (.reg [2] [I 3 (.mv (.s 0)),I 4 (.len 0 (.s 3)),I 5 (.bin .geq (.s 4) (V 1)),I 6 (.mv (.s 5)),G 7 6 true (.mv (.s 0)),G 8 6 true (.len 0 (.s 7)),G 9 6 true (.bin .leq (.s 8) (V 16)),I 10 (.pick (.s 6) (.s 9) (.v (.bool false))),I 2 (.mv (.s 10))])
def ZQH:PF:=⟨false,
 (.seq ZYS
 (.seq ZYT
 .ret)),
 [.s 2]⟩
theorem Zd8:Zx Proofs.Tryz.prog false Zd7 Proofs.Tryz.f172=some ZQH:=by kernel_rfl
def ZYU:List Hint:=[H [0],H [2,3]]
def ZSM:PC :=
 (.reg [0] [I 2 (.mv (V 0)),I 3 (.mv (.v (.int .u64 0)))])
def ZSN:PC :=
 (.reg [2,3] [I 4 (.mv (.s 0)),I 5 (.bin .and (.s 4) (.v (.int .u64 65535))),I 6 (.cint .i64 (.s 5)),I 7 (.mv (.s 0)),I 8 (.bin .shr (.s 7) (.v (.int .u64 16))),I 2 (.mv (.s 6)),I 3 (.mv (.s 8))])
def ZKz:PF:=⟨false,
 (.seq ZSM
 (.seq ZSN
 .ret)),
 [.s 2,.s 3]⟩
theorem ZYV:Zx Proofs.Tryz.prog false ZYU Proofs.Tryz.f173=some ZKz:=by kernel_rfl
def ZVS:List Hint:=[H [],H [2]]
def ZQI:PC :=
 (.reg [] [I 2 (.mv (.v (.bool false)))])
def ZQJ:PC :=
 (.reg [2] [I 2 (.mv (.v (.bool true)))])
def ZHW:PF:=⟨false,
 (.seq ZQI
 (.seq ZQJ
 .ret)),
 [.s 2]⟩
theorem ZVT:Zx Proofs.Tryz.prog false ZVS Proofs.Tryz.f179=some ZHW:=by kernel_rfl
def ZOH:List Hint:=[H [1,2],H [1,2,5],H [2],H [2]]
def ZK0:PC :=
 (.reg [1,2] [I 1 (.box (.s 0)),I 2 (.box (.v ZM))])
def ZK1:PC :=
 (.reg [1,2,5] [I 3 (.ld true 3 (.s 1)),I 4 (.build [(.int .i64 0),(.int .i64 0),(.int .i64 0)] []),I 5 (.eqs false 0 [(0,0),(1,0),(2,0)] (.s 3) (.s 4))])
def ZK2:PC :=
 (.reg [2] [I 6 (.build [(.int .i64 0),(.int .i64 0),(.int .i64 0)] []),J (.st 3 (.s 2) (.s 6))])
def ZK3:PC :=
 (.reg [2] [I 7 (.ixA 3 1 (.s 1) (V 0)),I 8 (.ld false 1 (.s 7)),I 9 (.ixA 3 1 (.s 1) (V 1)),I 10 (.ld false 1 (.s 9)),I 11 (.ixA 3 1 (.s 1) (V 2)),I 12 (.ld false 1 (.s 11)),I 13 (.build [(.int .i64 0),(.int .i64 0),(.int .i64 0)] [(0,1,(.s 8)),(1,1,(.s 10)),(2,1,(.s 12))]),J (.st 3 (.s 2) (.s 13))])
def ZDC:PF:=⟨false,
 (.seq ZK0
 (.seq (.seq ZK1
 (.ite (.s 5)
 (.seq ZK2
 .ret)
 .skip))
 (.seq ZK3
 .ret))),
 [.c 2 true 3]⟩
theorem ZOI:Zx Proofs.Tryz.prog false ZOH Proofs.Tryz.f180=some ZDC:=by kernel_rfl
def ZM7:List Hint:=[H [0],H [0,3],H [16],H [2],H [2]]
def ZIj:PC :=
 (.reg [0] [I 2 (.mv (V 0))])
def ZIk:PC :=
 (.reg [0,3] [I 4 (.mv (.s 0)),I 5 (.bin .quo (.s 4) (.v (.int .u64 65536))),I 3 (.mv (.s 5))])
def ZIl:PC :=
 (.reg [16] [I 6 (.mv (.s 0)),I 7 (.bin .rem (.s 6) (.v (.int .u64 65536))),I 8 (.bin .geq (.s 7) (.v (.int .u64 16384))),I 9 (.mv (.s 8)),G 10 9 false (.mv (.s 3)),G 11 9 false (.bin .lss (.s 10) (.v (.int .u64 1))),I 12 (.pick (.s 9) (.v (.bool true)) (.s 11)),I 13 (.mv (.s 12)),G 14 13 false (.mv (.s 3)),G 15 13 false (.bin .gtr (.s 14) (.v (.int .u64 4294967295))),I 16 (.pick (.s 13) (.v (.bool true)) (.s 15))])
def ZIm:PC :=
 (.reg [2] [I 2 (.mv (V 2))])
def ZIn:PC :=
 (.reg [2] [I 2 (.mv (V 0))])
def ZBV:PF:=⟨false,
 (.seq ZIj
 (.seq ZIk
 (.seq (.seq ZIl
 (.ite (.s 16)
 (.seq ZIm
 .ret)
 .skip))
 (.seq ZIn
 .ret)))),
 [.s 2]⟩
theorem ZM8:Zx Proofs.Tryz.prog false ZM7 Proofs.Tryz.f181=some ZBV:=by kernel_rfl
def ZM9:List Hint:=[H [0],H [0,3],H [0,3,4],H [0,3,4,8],H [0,3,4,15],H [0,3,4],H [0,3,4],H [2]]
def ZIo:PC :=
 (.reg [0] [I 2 (.mv (V 0))])
def ZIp:PC :=
 (.reg [0,3] [I 3 (.mv (V 0))])
def ZIq:PC :=
 (.reg [0,3,4] [I 4 (.mv (V 0))])
def ZIr:PC :=
 (.reg [0,3,4,8] [I 5 (.mv (.s 4)),I 6 (.mv (.s 0)),I 7 (.len 0 (.s 6)),I 8 (.bin .lss (.s 5) (.s 7))])
def ZIs:PC :=
 (.reg [0,3,4,15] [I 11 (.mv (.s 0)),I 12 (.mv (.s 4)),I 13 (.ixStr (.s 11) (.s 12)),I 14 (C X3 [(.s 13)]),I 15 (.un .not (.s 14))])
def ZIt:PC :=
 (.reg [0,3,4] [I 16 (.mv (.s 3)),I 17 (.bin .add (.s 16) (V 1)),I 3 (.mv (.s 17))])
def ZIu:PC :=
 (.reg [0,3,4] [I 9 (.mv (.s 4)),I 10 (.bin .add (.s 9) (V 1)),I 4 (.mv (.s 10))])
def ZIv:PC :=
 (.seq (.seq ZIr
 (.ite (.s 8)
 .skip
 (.exit 0)))
 (.seq (.block 1
 (.seq ZIs
 (.ite (.s 15)
 ZIt
 .skip)))
 ZIu))
def ZIw:PC :=
 (.reg [2] [I 18 (.mv (.s 3)),I 2 (.mv (.s 18))])
def ZBW:PF:=⟨false,
 (.seq ZIo
 (.seq ZIp
 (.seq (.seq ZIq
 (.block 0
 (.loop ZIv)))
 (.seq ZIw
 .ret)))),
 [.s 2]⟩
theorem ZNA:Zx Proofs.Tryz.prog false ZM9 Proofs.Tryz.f182=some ZBW:=by kernel_rfl
def Zd9:List Hint:=[H [0,1],H [0,1,15],H [4,5],H [0,1,6],H [0,1,6,21],H [4,5],H [0,1,6,31],H [4,5],H [6,7],H [4,5]]
def ZYW:PC :=
 (.reg [0,1] [I 4 (.mv (.v .nils)),I 5 (.mv (V 0))])
def ZYX:PC :=
 (.reg [0,1,15] [I 8 (.mv (.s 0)),I 9 (C ZAN [(.s 8)]),I 10 (.un .not (.s 9)),I 11 (.mv (.s 10)),G 12 11 false (.mv (.s 1)),G 13 11 false (C ZAN [(.s 12)]),G 14 11 false (.un .not (.s 13)),I 15 (.pick (.s 11) (.v (.bool true)) (.s 14))])
def ZYY:PC :=
 (.reg [4,5] [I 4 (.mv (.v .nils)),I 5 (.mv (V 2))])
def ZYZ:PC :=
 (.reg [0,1,6] [I 16 (.mv (.s 0)),I 17 (.mv (.s 1)),I 18 (.bin .add (.s 16) (.s 17)),I 6 (.mv (.s 18))])
def ZYa:PC :=
 (.reg [0,1,6,21] [I 19 (.mv (.s 6)),I 20 (.len 0 (.s 19)),I 21 (.bin .leq (.s 20) (V 16))])
def ZYb:PC :=
 (.reg [4,5] [I 22 (.mv (.s 6)),I 23 (.bslice false 1 [(.str [])] [(0,(.s 22))]),I 4 (.mv (.s 23)),I 5 (.mv (V 0))])
def ZYc:PC :=
 (.reg [0,1,6,31] [I 24 (.mv (.s 0)),I 25 (.len 0 (.s 24)),I 26 (.bin .geq (.s 25) (V 8)),I 27 (.mv (.s 26)),G 28 27 true (.mv (.s 1)),G 29 27 true (.len 0 (.s 28)),G 30 27 true (.bin .geq (.s 29) (V 8)),I 31 (.pick (.s 27) (.s 30) (.v (.bool false)))])
def ZYd:PC :=
 (.reg [4,5] [I 32 (.mv (.s 0)),I 33 (.mv (.s 1)),I 34 (.bslice false 1 [(.str []),(.str [])] [(0,(.s 32)),(1,(.s 33))]),I 4 (.mv (.s 34)),I 5 (.mv (V 0))])
def ZYe:PC :=
 (.reg [6,7] [I 35 (.mv (.s 6)),I 36 (.len 0 (.s 35)),I 37 (.bin .add (.s 36) (V 1)),I 38 (.bin .quo (.s 37) (V 2)),I 7 (.mv (.s 38))])
def ZYf:PC :=
 (.reg [4,5] [I 39 (.mv (.s 6)),I 40 (.mv (.s 7)),I 41 (.slcS (.s 39) none (some (.s 40))),I 42 (.mv (.s 6)),I 43 (.mv (.s 7)),I 44 (.slcS (.s 42) (some (.s 43)) none),I 45 (.bslice false 1 [(.str []),(.str [])] [(0,(.s 41)),(1,(.s 44))]),I 4 (.mv (.s 45)),I 5 (.mv (V 0))])
def ZQK:PF:=⟨false,
 (.seq ZYW
 (.seq (.seq ZYX
 (.ite (.s 15)
 (.seq ZYY
 .ret)
 .skip))
 (.seq ZYZ
 (.seq (.seq ZYa
 (.ite (.s 21)
 (.seq ZYb
 .ret)
 .skip))
 (.seq (.seq ZYc
 (.ite (.s 31)
 (.seq ZYd
 .ret)
 .skip))
 (.seq ZYe
 (.seq ZYf
 .ret))))))),
 [.s 4,.s 5]⟩
theorem ZeA:Zx Proofs.Tryz.prog false Zd9 Proofs.Tryz.f183=some ZQK:=by kernel_rfl
def ZOJ:List Hint:=[H [0],H [2]]
def ZK4:PC :=
 (.reg [0] [I 2 (.mv (.v (.bool false)))])
def ZK5:PC :=
 (.reg [2] [I 3 (.mv (.s 0)),I 4 (.bin .geq (.s 3) (.v (.int .u8 128))),I 5 (.mv (.s 4)),G 6 5 true (.mv (.s 0)),G 7 5 true (.bin .lss (.s 6) (.v (.int .u8 192))),I 8 (.pick (.s 5) (.s 7) (.v (.bool false))),I 2 (.mv (.s 8))])
def ZDD:PF:=⟨false,
 (.seq ZK4
 (.seq ZK5
 .ret)),
 [.s 2]⟩
theorem ZOK:Zx Proofs.Tryz.prog false ZOJ Proofs.Tryz.f185=some ZDD:=by kernel_rfl
end Go.Q15
