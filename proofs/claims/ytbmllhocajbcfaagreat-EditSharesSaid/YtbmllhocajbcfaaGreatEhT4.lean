/- Resolved code, printed by program. No condition. -/
import Derived.Test.YtbmllhocajbcfaaGreatProg
import Derived.KernelRfl
import Derived.Test.YtbmllhocajbcfaaGreatEhT3
set_option linter.unusedVariables false
set_option linter.unusedSimpArgs false
namespace Go.Q15
open Go Go.QAbs
set_option maxRecDepth 100000
abbrev JV:FuncId:=6
abbrev Xs:FuncId:=7
abbrev ZHU:FuncId:=13
abbrev QS:FuncId:=14
abbrev Ys:FuncId:=16
abbrev ZCA:FuncId:=17
abbrev Qs:FuncId:=18
abbrev Y5:FuncId:=19
abbrev Ya:FuncId:=21
abbrev JQ:FuncId:=22
abbrev ZDB:FuncId:=29
abbrev ZCB:FuncId:=30
abbrev QX:FuncId:=33
abbrev Jy:FuncId:=34
abbrev Y6:FuncId:=35
abbrev JZ:FuncId:=36
abbrev Jd:FuncId:=37
abbrev ZAt:FuncId:=38
abbrev ZAC:FuncId:=39
abbrev ZAi:FuncId:=40
abbrev Jk:FuncId:=44
abbrev Jr:FuncId:=46
abbrev ZDS:FuncId:=49
abbrev ZAD:FuncId:=51
abbrev Qq:FuncId:=53
abbrev Yo:FuncId:=54
abbrev Jx:FuncId:=56
abbrev Jp:FuncId:=57
abbrev JW:FuncId:=58
abbrev YH:FuncId:=59
abbrev YI:FuncId:=60
abbrev Xt:FuncId:=61
abbrev Yb:FuncId:=63
abbrev XU:FuncId:=64
abbrev ZHV:FuncId:=65
abbrev XI:FuncId:=66
abbrev JR:FuncId:=67
abbrev ZCC:FuncId:=80
abbrev YG:FuncId:=83
abbrev ZAu:FuncId:=84
abbrev ZA6:FuncId:=85
abbrev YJ:FuncId:=86
abbrev XZ:FuncId:=87
abbrev YK:FuncId:=88
abbrev ZHW:FuncId:=89
abbrev ZAE:FuncId:=90
abbrev Yk:FuncId:=91
abbrev ZCD:FuncId:=92
abbrev ZE5:FuncId:=93
abbrev QP:FuncId:=94
abbrev QY:FuncId:=95
abbrev ZBb:FuncId:=104
abbrev Y7:FuncId:=105
abbrev Y8:FuncId:=106
abbrev QA:FuncId:=107
abbrev ZDC:FuncId:=112
abbrev ZHX:FuncId:=113
abbrev YB:FuncId:=114
abbrev ZAj:FuncId:=115
abbrev Qa:FuncId:=116
abbrev ZAk:FuncId:=117
abbrev ZBc:FuncId:=119
abbrev Yp:FuncId:=120
abbrev X6:FuncId:=121
abbrev J5:FuncId:=122
abbrev XJ:FuncId:=123
abbrev Xh:FuncId:=124
abbrev ZBN:FuncId:=125
abbrev XK:FuncId:=131
abbrev ZBO:FuncId:=132
abbrev Xi:FuncId:=138
abbrev ZDT:FuncId:=140
abbrev Jz:FuncId:=141
abbrev ZAv:FuncId:=142
abbrev ZAF:FuncId:=143
abbrev ZAG:FuncId:=144
abbrev ZAw:FuncId:=145
abbrev ZAx:FuncId:=146
abbrev ZCE:FuncId:=147
abbrev ZAH:FuncId:=154
abbrev ZHY:FuncId:=155
abbrev XV:FuncId:=158
abbrev Qt:FuncId:=159
abbrev Qu:FuncId:=161
abbrev YL:FuncId:=162
abbrev J6:FuncId:=163
abbrev ZDU:FuncId:=164
abbrev ZCF:FuncId:=165
abbrev ZE6:FuncId:=166
abbrev ZDV:FuncId:=167
abbrev ZDW:FuncId:=170
abbrev ZDD:FuncId:=171
abbrev ZAI:FuncId:=172
abbrev ZCG:FuncId:=173
abbrev Y9:FuncId:=174
abbrev J3:FuncId:=175
abbrev ZAJ:FuncId:=176
abbrev Jv:FuncId:=177
abbrev JS:FuncId:=178
abbrev Xj:FuncId:=179
abbrev Yc:FuncId:=180
abbrev ZE7:FuncId:=183
abbrev XL:FuncId:=184
abbrev I (d:Nat) (o:PO):PI:=⟨some d,none,false,o⟩
abbrev G (d g:Nat) (b:Bool) (o:PO):PI:=⟨some d,some (g,b),false,o⟩
abbrev J (o:PO):PI:=⟨none,none,false,o⟩
abbrev C (f:FuncId) (a:List Opd):PO:=.call .norm (.v (.func (.func f) [] [])) a
abbrev H (k:List Nat):Hint:=⟨k,[],[],[],[],[]⟩
abbrev V (i:Int):Opd:=.v (.int .i64 i)
abbrev ZT:AV:=.agg [(.int .u64 0),(.int .i64 0),(.int .i64 0),(.int .i64 0),(.int .i64 0),(.str []),.nils]
abbrev ZR:AV:=.agg [(.int .u64 0),(.int .i64 0),(.int .i64 0),(.int .i64 0),(.int .i64 0)]
abbrev ZM:AV:=.agg [(.int .i64 0),(.int .i64 0),(.int .i64 0)]
abbrev ZN:AV:=.agg [(.int .i64 0),(.str []),.nils]
abbrev ZK:AV:=.agg [(.int .u64 0),(.int .i64 0),(.int .i64 0),(.int .i64 0)]
def ZDX:List Hint:=[H [0,1,3,4,7],H [0,1,3,4,7,30],H [10],H [3,4,7,11,12,13,14],H [3,4,7,11,12,13,41],H [10],H [3,4,7,11,12,13,44],H [10],H [7,11,12,13,15,16],H [7,11,12,13,15,16,17],H [7,11,12,15,16,17,18],H [7,11,12,15,16,17,18,19],⟨[7,11,12,15,16,18,19,20,21],[],[(9,.inner)],[],[(13,(.here 13))],[13]⟩,H [7,11,12,15,16,18,19,20,21,90],H [10],⟨[7,11,12,15,16,18,20,105],[],[],[],[(10,.imm)],[]⟩,H [10],H [11,12,15,16,20,122],H [10],H [11,12,15,16,19,20],H [11,12,15,16,19,20,21],H [11,12,15,16,19,20,21,139],H [10],⟨[10],[],[],[],[(14,.imm)],[]⟩]
def ZCH:PC :=
 (.reg [0,1,3,4,7] [I 7 (.box (.s 2)),I 10 (.mv (.v (.bool false)))])
def ZCI:PC :=
 (.reg [0,1,3,4,7,30] [I 22 (.mv (.s 0)),I 23 (.mv (.s 1)),I 24 (C Y5 [(.s 22),(.s 23)]),I 25 (.mv (.s 24)),G 26 25 false (.fadr 2 (.s 7)),G 27 25 false (.ld false 1 (.s 26)),G 28 25 false (.len 0 (.s 27)),G 29 25 false (.bin .gtr (.s 28) (V 300)),I 30 (.pick (.s 25) (.v (.bool true)) (.s 29))])
def ZCJ:PC :=
 (.reg [10] [I 31 (C QX []),I 10 (.mv (.s 31))])
def ZCK:PC :=
 (.reg [3,4,7,11,12,13,14] [I 33 (.mv (.s 0)),I 34 (.mv (.s 1)),I 35 (C Ya [(.s 33),(.s 34)]),I 32 (.mv (.s 35)),I 36 (.ext (.s 32) 0),I 37 (.ext (.s 32) 1),I 38 (.ext (.s 32) 2),I 39 (.ext (.s 32) 3),I 11 (.mv (.s 36)),I 12 (.mv (.s 37)),I 13 (.mv (.s 38)),I 14 (.mv (.s 39))])
def ZCL:PC :=
 (.reg [3,4,7,11,12,13,41] [I 40 (.mv (.s 14)),I 41 (.un .not (.s 40))])
def ZCM:PC :=
 (.reg [10] [I 10 (.mv (.v (.bool false)))])
def ZCN:PC :=
 (.reg [3,4,7,11,12,13,44] [I 42 (.mv (.s 12)),I 43 (.len 1 (.s 42)),I 44 (.bin .eql (.s 43) (V 0))])
def ZCO:PC :=
 (.reg [10] [I 45 (C QX []),I 10 (.mv (.s 45))])
def ZCP:PC :=
 (.reg [7,11,12,13,15,16] [I 46 (.mv (.s 3)),I 47 (.mv (.s 12)),I 48 (.len 1 (.s 47)),I 49 (.bin .sub (.s 48) (V 1)),I 50 (C JQ [(.s 46),(.s 49)]),I 51 (.mv (.s 4)),I 52 (.mv (.s 12)),I 53 (.len 1 (.s 52)),I 54 (.bin .sub (.s 53) (V 1)),I 55 (C JQ [(.s 51),(.s 54)]),I 15 (.mv (.s 50)),I 16 (.mv (.s 55))])
def ZCQ:PC :=
 (.reg [7,11,12,13,15,16,17] [I 56 (.fadr 0 (.s 7)),I 57 (.ld false 1 (.s 56)),I 58 (.mv (.s 13)),I 59 (.mv (.s 15)),I 60 (.ixS 1 (.s 58) (.s 59)),I 61 (.ld false 1 (.s 60)),I 62 (.len 0 (.s 61)),I 63 (C JQ [(.s 57),(.s 62)]),I 17 (.mv (.s 63))])
def ZBd:PC :=
 (.reg [7,11,12,15,16,17,18] [I 64 (.fadr 1 (.s 7)),I 65 (.ld false 1 (.s 64)),I 66 (.mv (.s 13)),I 67 (.mv (.s 15)),I 68 (.ixS 1 (.s 66) (.s 67)),I 69 (.ld false 1 (.s 68)),I 70 (.len 0 (.s 69)),I 71 (.mv (.s 17)),I 72 (.bin .sub (.s 70) (.s 71)),I 73 (C JQ [(.s 65),(.s 72)]),I 18 (.mv (.s 73))])
def ZBe:PC :=
 (.reg [7,11,12,15,16,17,18,19] [I 74 (.mv (.s 11)),I 75 (C Jy [(.s 74)]),I 19 (.mv (.s 75))])
def ZBf:PC :=
 (.regH [13] [7,11,12,15,16,18,19,20,21] [I 77 (.mv (.s 11)),I 78 (.mv (.s 12)),I 79 (.mv (.s 15)),I 80 (.ixS 5 (.s 78) (.s 79)),I 81 (.ld true 5 (.s 80)),I 82 (.mv (.s 17)),I 83 (.mv (.s 18)),I 84 (.fadr 2 (.s 7)),I 85 (.ld false 1 (.s 84)),I 86 (.call .inner (.v (.func (.func Y6) [] [])) [(.s 77),(.s 81),(.s 82),(.s 83),(.s 85)]),I 76 (.mv (.s 86)),I 87 (.ext (.s 76) 0),I 88 (.ext (.s 76) 1),I 20 (.w (.here 13) (.box (.v (.agg [(.int .u64 0),(.int .i64 0),(.int .i64 0),(.int .i64 0),(.int .i64 0),.nils,.nils])))),J (.st 7 (.s 20) (.s 87)),I 21 (.mv (.s 88))])
def ZBg:PC :=
 (.reg [7,11,12,15,16,18,19,20,21,90] [I 89 (.mv (.s 21)),I 90 (.bin .eql (.s 89) (V 6))])
def ZBh:PC :=
 (.reg [10] [I 91 (C QX []),I 10 (.mv (.s 91))])
def ZBi:PC :=
 (.reg [7,11,12,15,16,18,20,105] [I 92 (.mv (.s 21)),I 93 (.bin .neq (.s 92) (V 0)),I 94 (.mv (.s 93)),G 95 94 false (.mv (.s 11)),G 96 94 false (.mv (.s 19)),G 97 94 false (.ld true 7 (.s 20)),G 98 94 false (.mv (.s 12)),G 99 94 false (.mv (.s 15)),G 100 94 false (.ixS 5 (.s 98) (.s 99)),G 101 94 false (.ld true 5 (.s 100)),G 102 94 false (.w .imm (.bslice false 5 [ZR] [(0,(.s 101))])),G 103 94 false (C JZ [(.s 95),(.s 96),(.s 97),(.s 102)]),G 104 94 false (.un .not (.s 103)),I 105 (.pick (.s 94) (.v (.bool true)) (.s 104))])
def ZBj:PC :=
 (.reg [10] [I 10 (.mv (.v (.bool false)))])
def ZBk:PC :=
 (.reg [11,12,15,16,20,122] [I 106 (.mv (.s 18)),I 107 (.bin .eql (.s 106) (V 0)),I 108 (.mv (.s 107)),G 109 108 true (.fadr 2 (.s 7)),G 110 108 true (.ld false 1 (.s 109)),G 111 108 true (.bin .eql (.s 110) (.v (.str []))),I 112 (.pick (.s 108) (.s 111) (.v (.bool false))),I 113 (.mv (.s 112)),G 114 113 true (.ld true 7 (.s 20)),G 115 113 true (.mv (.s 12)),G 116 113 true (.mv (.s 15)),G 117 113 true (.ixS 5 (.s 115) (.s 116)),G 118 113 true (.ld true 5 (.s 117)),G 119 113 true (.build [(.int .u64 0),(.int .i64 0),(.int .i64 0),(.int .i64 0),(.int .i64 0),.nils,.nils] [(0,5,(.s 118))]),G 120 113 true (C Jd [(.s 114),(.s 119)]),G 121 113 true (.un .not (.s 120)),I 122 (.pick (.s 113) (.s 121) (.v (.bool false)))])
def ZBl:PC :=
 (.reg [10] [I 10 (.mv (.v (.bool false)))])
def p_quartolaw19_EditShares_19:PC :=
 (.reg [11,12,15,16,19,20] [I 123 (.mv (.s 11)),I 124 (C Jy [(.s 123)]),I 19 (.mv (.s 124))])
def p_quartolaw19_EditShares_20:PC :=
 (.reg [11,12,15,16,19,20,21] [I 126 (.mv (.s 11)),I 127 (.mv (.s 12)),I 128 (.mv (.s 15)),I 129 (.ixS 5 (.s 127) (.s 128)),I 130 (.ld true 5 (.s 129)),I 131 (.mv (.s 12)),I 132 (.mv (.s 16)),I 133 (.ixS 5 (.s 131) (.s 132)),I 134 (.ld true 5 (.s 133)),I 135 (C ZAt [(.s 126),(.s 130),(.s 134)]),I 125 (.mv (.s 135)),I 136 (.ext (.s 125) 0),I 137 (.ext (.s 125) 1),J (.st 7 (.s 20) (.s 136)),I 21 (.mv (.s 137))])
def p_quartolaw19_EditShares_21:PC :=
 (.reg [11,12,15,16,19,20,21,139] [I 138 (.mv (.s 21)),I 139 (.bin .eql (.s 138) (V 6))])
def p_quartolaw19_EditShares_22:PC :=
 (.reg [10] [I 140 (C QX []),I 10 (.mv (.s 140))])
def p_quartolaw19_EditShares_23:PC :=
 (.reg [10] [I 141 (.mv (.s 21)),I 142 (.bin .eql (.s 141) (V 0)),I 143 (.mv (.s 142)),G 144 143 true (.mv (.s 11)),G 145 143 true (.mv (.s 19)),G 146 143 true (.ld true 7 (.s 20)),G 147 143 true (.mv (.s 12)),G 148 143 true (.mv (.s 15)),G 149 143 true (.ixS 5 (.s 147) (.s 148)),G 150 143 true (.ld true 5 (.s 149)),G 151 143 true (.mv (.s 12)),G 152 143 true (.mv (.s 16)),G 153 143 true (.ixS 5 (.s 151) (.s 152)),G 154 143 true (.ld true 5 (.s 153)),G 155 143 true (.w .imm (.bslice false 5 [ZR,ZR] [(0,(.s 150)),(1,(.s 154))])),G 156 143 true (C JZ [(.s 144),(.s 145),(.s 146),(.s 155)]),I 157 (.pick (.s 143) (.s 156) (.v (.bool false))),I 158 (.mv (.s 157)),G 159 158 true (C QX []),I 160 (.pick (.s 158) (.s 159) (.v (.bool false))),I 10 (.mv (.s 160))])
def YC:PF:=⟨false,
 (.seq ZCH
 (.seq (.seq ZCI
 (.ite (.s 30)
 (.seq ZCJ
 .ret)
 .skip))
 (.seq ZCK
 (.seq (.seq ZCL
 (.ite (.s 41)
 (.seq ZCM
 .ret)
 .skip))
 (.seq (.seq ZCN
 (.ite (.s 44)
 (.seq ZCO
 .ret)
 .skip))
 (.seq ZCP
 (.seq ZCQ
 (.seq ZBd
 (.seq ZBe
 (.seq ZBf
 (.seq (.seq ZBg
 (.ite (.s 90)
 (.seq ZBh
 .ret)
 .skip))
 (.seq (.seq ZBi
 (.ite (.s 105)
 (.seq ZBj
 .ret)
 .skip))
 (.seq (.seq ZBk
 (.ite (.s 122)
 (.seq ZBl
 .ret)
 .skip))
 (.seq p_quartolaw19_EditShares_19
 (.seq p_quartolaw19_EditShares_20
 (.seq (.seq p_quartolaw19_EditShares_21
 (.ite (.s 139)
 (.seq p_quartolaw19_EditShares_22
 .ret)
 .skip))
 (.seq p_quartolaw19_EditShares_23
 .ret))))))))))))))))),
 [.s 10]⟩
theorem ZDY:Zv Proofs.Tryz.prog false ZDX Proofs.Tryz.f6=some YC:=by kernel_rfl
def ZKV:List Hint:=[H [0],H [0,3],H [0,3,4],H [0,3,4,12],H [0,3,4],H [0,3,4],H [2]]
def ZHZ:PC :=
 (.reg [0] [I 2 (.mv (.v (.bool false)))])
def ZHa:PC :=
 (.reg [0,3] [I 3 (.mv (V 0))])
def ZHb:PC :=
 (.reg [0,3,4] [I 4 (.mv (V 0))])
def ZHc:PC :=
 (.reg [0,3,4,12] [I 5 (.mv (.s 4)),I 6 (.mv (.s 0)),I 7 (.len 1 (.s 6)),I 8 (.bin .lss (.s 5) (.s 7)),I 9 (.mv (.s 8)),G 10 9 true (.mv (.s 3)),G 11 9 true (.bin .leq (.s 10) (V 900)),I 12 (.pick (.s 9) (.s 11) (.v (.bool false)))])
def ZHd:PC :=
 (.reg [0,3,4] [I 15 (.mv (.s 3)),I 16 (.mv (.s 0)),I 17 (.mv (.s 4)),I 18 (.ixS 1 (.s 16) (.s 17)),I 19 (.ld false 1 (.s 18)),I 20 (.len 0 (.s 19)),I 21 (.mnx false (.s 20) (V 1000)),I 22 (.bin .add (.s 15) (.s 21)),I 3 (.mv (.s 22))])
def ZHe:PC :=
 (.reg [0,3,4] [I 13 (.mv (.s 4)),I 14 (.bin .add (.s 13) (V 1)),I 4 (.mv (.s 14))])
def ZHf:PC :=
 (.seq (.seq ZHc
 (.ite (.s 12)
 .skip
 (.exit 0)))
 (.seq (.block 1
 ZHd)
 ZHe))
def ZHg:PC :=
 (.reg [2] [I 23 (.mv (.s 0)),I 24 (.len 1 (.s 23)),I 25 (.bin .gtr (.s 24) (V 4)),I 26 (.mv (.s 25)),G 27 26 false (.mv (.s 3)),G 28 26 false (.bin .gtr (.s 27) (V 900)),I 29 (.pick (.s 26) (.v (.bool true)) (.s 28)),I 2 (.mv (.s 29))])
def ZCR:PF:=⟨false,
 (.seq ZHZ
 (.seq ZHa
 (.seq (.seq ZHb
 (.block 0
 (.loop ZHf)))
 (.seq ZHg
 .ret)))),
 [.s 2]⟩
theorem ZKW:Zv Proofs.Tryz.prog false ZKV Proofs.Tryz.f7=some ZCR:=by kernel_rfl
def ZfS:List Hint:=[H [1],⟨[1,3],[0],[],[],[],[]⟩,H [1,3,4],H [1,3,4,5],H [1,3,5],H [3],H [2]]
def ZYq:PC :=
 (.reg [1] [I 1 (.box (.s 0)),I 2 (.mv (.v .nils))])
def ZYr:PC :=
 (.reg [1,3] [I 3 (.boxnil 1)])
def ZYs:PC :=
 (.reg [1,3,4] [I 6 (.mkmap),I 4 (.box (.v .nilmap)),J (.st 1 (.s 4) (.s 6))])
def ZYt:PC :=
 (.reg [1,3,4,5] [I 5 (.box (.v .nilfunc))])
def ZYu:PC :=
 (.reg [1,3,5] [I 7 (.mkf (.func Yo) [] [(.s 4),(.s 3),(.s 5)]),J (.st 1 (.s 5) (.s 7))])
def ZYv:PC :=
 (.reg [3] [I 8 (.ld false 1 (.s 5)),I 9 (.ld true 7 (.s 1)),I 10 (.call .norm (.s 8) [(.s 9)])])
def ZYw:PC :=
 (.reg [2] [I 11 (.ld false 1 (.s 3)),I 2 (.mv (.s 11))])
def ZQ0:PF:=⟨false,
 (.seq ZYq
 (.seq ZYr
 (.seq ZYs
 (.seq ZYt
 (.seq ZYu
 (.seq ZYv
 (.seq ZYw
 .ret))))))),
 [.s 2]⟩
theorem ZfT:Zv Proofs.Tryz.prog false ZfS Proofs.Tryz.f13=some ZQ0:=by kernel_rfl
def ZLz:List Hint:=[H [0,1],H [0,1,5],H [0,1,5,9],H [0,1,5,17],H [4],H [0,1,5],H [4]]
def ZJO:PC :=
 (.reg [0,1] [I 4 (.mv (.v (.bool false)))])
def ZJP:PC :=
 (.reg [0,1,5] [I 5 (.mv (V 0))])
def ZJQ:PC :=
 (.reg [0,1,5,9] [I 6 (.mv (.s 5)),I 7 (.mv (.s 0)),I 8 (.len 1 (.s 7)),I 9 (.bin .lss (.s 6) (.s 8))])
def ZJR:PC :=
 (.reg [0,1,5,17] [I 12 (.mv (.s 0)),I 13 (.mv (.s 5)),I 14 (.ixS 1 (.s 12) (.s 13)),I 15 (.ld false 1 (.s 14)),I 16 (.mv (.s 1)),I 17 (.bin .eql (.s 15) (.s 16))])
def ZJS:PC :=
 (.reg [4] [I 4 (.mv (.v (.bool true)))])
def ZJT:PC :=
 (.reg [0,1,5] [I 10 (.mv (.s 5)),I 11 (.bin .add (.s 10) (V 1)),I 5 (.mv (.s 11))])
def ZJU:PC :=
 (.seq (.seq ZJQ
 (.ite (.s 9)
 .skip
 (.exit 0)))
 (.seq (.block 1
 (.seq ZJR
 (.ite (.s 17)
 (.seq ZJS
 .ret)
 .skip)))
 ZJT))
def ZJV:PC :=
 (.reg [4] [I 4 (.mv (.v (.bool false)))])
def ZDE:PF:=⟨false,
 (.seq ZJO
 (.seq (.seq ZJP
 (.block 0
 (.loop ZJU)))
 (.seq ZJV
 .ret))),
 [.s 4]⟩
theorem ZL0:Zv Proofs.Tryz.prog false ZLz Proofs.Tryz.f14=some ZDE:=by kernel_rfl
def ZGP:List Hint:=[H [0,1],⟨[0,1,5],[0],[],[],[],[]⟩,H [0,1,5,6],H [0,1,5,6,10],H [0,1,5,6,19],H [0,1,5,6],H [0,1,5,6],H [4]]
def ZDp:PC :=
 (.reg [0,1] [I 4 (.mv (.v .nils))])
def ZDq:PC :=
 (.reg [0,1,5] [I 5 (.onil 1)])
def ZDr:PC :=
 (.reg [0,1,5,6] [I 6 (.mv (V 0))])
def ZDs:PC :=
 (.reg [0,1,5,6,10] [I 7 (.mv (.s 6)),I 8 (.mv (.s 0)),I 9 (.len 1 (.s 8)),I 10 (.bin .lss (.s 7) (.s 9))])
def ZDt:PC :=
 (.reg [0,1,5,6,19] [I 13 (.mv (.s 1)),I 14 (.mv (.s 0)),I 15 (.mv (.s 6)),I 16 (.ixS 1 (.s 14) (.s 15)),I 17 (.ld false 1 (.s 16)),I 18 (C QS [(.s 13),(.s 17)]),I 19 (.un .not (.s 18))])
def ZDu:PC :=
 (.reg [0,1,5,6] [I 20 (.mv (.s 5)),I 21 (.mv (.s 0)),I 22 (.mv (.s 6)),I 23 (.ixS 1 (.s 21) (.s 22)),I 24 (.ld false 1 (.s 23)),I 25 (.bslice false 1 [(.int .u64 0)] [(0,(.s 24))]),I 26 (.app 1 8 (.s 20) (.s 25)),I 5 (.mv (.s 26))])
def ZDv:PC :=
 (.reg [0,1,5,6] [I 11 (.mv (.s 6)),I 12 (.bin .add (.s 11) (V 1)),I 6 (.mv (.s 12))])
def ZDw:PC :=
 (.seq (.seq ZDs
 (.ite (.s 10)
 .skip
 (.exit 0)))
 (.seq (.block 1
 (.seq ZDt
 (.ite (.s 19)
 ZDu
 .skip)))
 ZDv))
def ZDx:PC :=
 (.reg [4] [I 27 (.mv (.s 5)),I 28 (C Jx [(.s 27)]),I 4 (.mv (.s 28))])
def ZAW:PF:=⟨false,
 (.seq ZDp
 (.seq ZDq
 (.seq (.seq ZDr
 (.block 0
 (.loop ZDw)))
 (.seq ZDx
 .ret)))),
 [.s 4]⟩
theorem ZGQ:Zv Proofs.Tryz.prog false ZGP Proofs.Tryz.f16=some ZAW:=by kernel_rfl
def ZVJ:List Hint:=[H [0,4,5],H [0,4,5,9],H [0,4,5,9,24],H [6,7],H [0,4,5,10],H [0,4,5,10,30],H [6,7],H [0,4,5,11],H [0,4,11,34,35,36],H [0,4,11,34,35,36,37],H [0,4,11,13,34,35,36],H [0,4,11,14,34,35,36],H [0,4,11,14,34,35,36,45],H [6,7],H [0,4,11,34,35,36],⟨[0,4,11,15],[0],[],[],[],[]⟩,H [0,4,11,15,50],H [6,7],H [15,16],H [15,16,58],H [6,7],H [6,7]]
def ZOY:PC :=
 (.reg [0,4,5] [I 4 (.box (.s 1)),I 5 (.box (.s 2)),I 6 (.mv (.v .nils)),I 7 (.mv (V 0))])
def ZOZ:PC :=
 (.reg [0,4,5,9] [I 18 (.mv (.s 0)),I 19 (.ld true 5 (.s 4)),I 20 (C Jr [(.s 18),(.s 19)]),I 17 (.mv (.s 20)),I 21 (.ext (.s 17) 0),I 22 (.ext (.s 17) 1),I 8 (.box (.v ZT)),J (.st 7 (.s 8) (.s 21)),I 9 (.mv (.s 22))])
def ZOa:PC :=
 (.reg [0,4,5,9,24] [I 23 (.mv (.s 9)),I 24 (.bin .neq (.s 23) (V 0))])
def ZOb:PC :=
 (.reg [6,7] [I 25 (.mv (.s 9)),I 6 (.mv (.v .nils)),I 7 (.mv (.s 25))])
def ZOc:PC :=
 (.reg [0,4,5,10] [I 26 (.mv (.s 0)),I 27 (.ld true 7 (.s 5)),I 28 (C Jp [(.s 26),(.s 27)]),I 10 (.mv (.s 28))])
def ZOd:PC :=
 (.reg [0,4,5,10,30] [I 29 (.mv (.s 10)),I 30 (.bin .neq (.s 29) (V 0))])
def ZOe:PC :=
 (.reg [6,7] [I 31 (.mv (.s 10)),I 6 (.mv (.v .nils)),I 7 (.mv (.s 31))])
def ZOf:PC :=
 (.reg [0,4,5,11] [I 32 (.mkmap),I 11 (.box (.v .nilmap)),J (.st 1 (.s 11) (.s 32))])
def ZOg:PC :=
 (.reg [0,4,11,34,35,36] [I 33 (.ld true 7 (.s 5)),I 34 (C ZHU [(.s 33)]),I 35 (.len 1 (.s 34)),I 36 (.mv (V 0))])
def ZOh:PC :=
 (.reg [0,4,11,34,35,36,37] [I 37 (.bin .lss (.s 36) (.s 35))])
def ZL1:PC :=
 (.reg [0,4,11,13,34,35,36] [I 38 (.ixS 1 (.s 34) (.s 36)),I 39 (.ld false 1 (.s 38)),I 13 (.mv (.s 39))])
def ZL2:PC :=
 (.reg [0,4,11,14,34,35,36] [I 40 (.mv (.s 0)),I 41 (.mv (.s 13)),I 42 (.ld false 1 (.s 11)),I 43 (C JW [(.s 40),(.s 41),(.s 42),(.v (.func (.func YH) [] []))]),I 14 (.mv (.s 43))])
def ZL3:PC :=
 (.reg [0,4,11,14,34,35,36,45] [I 44 (.mv (.s 14)),I 45 (.bin .neq (.s 44) (V 0))])
def ZL4:PC :=
 (.reg [6,7] [I 46 (.mv (.s 14)),I 6 (.mv (.v .nils)),I 7 (.mv (.s 46))])
def ZL5:PC :=
 (.reg [0,4,11,34,35,36] [I 47 (.bin .add (.s 36) (V 1)),I 36 (.mv (.s 47))])
def ZL6:PC :=
 (.seq ZOh
 (.seq (.ite (.s 37)
 .skip
 (.exit 0))
 (.seq (.block 1
 (.seq ZL1
 (.seq ZL2
 (.seq ZL3
 (.ite (.s 45)
 (.seq ZL4
 .ret)
 .skip)))))
 ZL5)))
def ZL7:PC :=
 (.reg [0,4,11,15] [I 15 (.boxnil 1)])
def ZL8:PC :=
 (.reg [0,4,11,15,50] [I 48 (.fadr 0 (.s 4)),I 49 (.ld false 1 (.s 48)),I 50 (.bin .eql (.s 49) (.v (.int .u64 0)))])
def ZL9:PC :=
 (.reg [6,7] [I 6 (.mv (.v .nils)),I 7 (.mv (V 0))])
def ZMA:PC :=
 (.reg [15,16] [I 51 (.mv (.s 0)),I 52 (.fadr 0 (.s 4)),I 53 (.ld false 1 (.s 52)),I 54 (.mkmap),I 55 (.mkf (.func YI) [] [(.s 11),(.s 15)]),I 56 (C JW [(.s 51),(.s 53),(.s 54),(.s 55)]),I 16 (.mv (.s 56))])
def ZMB:PC :=
 (.reg [15,16,58] [I 57 (.mv (.s 16)),I 58 (.bin .neq (.s 57) (V 0))])
def ZMC:PC :=
 (.reg [6,7] [I 59 (.mv (.s 16)),I 6 (.mv (.v .nils)),I 7 (.mv (.s 59))])
def ZMD:PC :=
 (.reg [6,7] [I 60 (.ld false 1 (.s 15)),I 6 (.mv (.s 60)),I 7 (.mv (V 0))])
def ZHh:PF:=⟨false,
 (.seq ZOY
 (.seq (.seq ZOZ
 (.seq ZOa
 (.ite (.s 24)
 (.seq ZOb
 .ret)
 .skip)))
 (.seq (.seq ZOc
 (.seq ZOd
 (.ite (.s 30)
 (.seq ZOe
 .ret)
 .skip)))
 (.seq ZOf
 (.seq (.seq ZOg
 (.block 0
 (.loop ZL6)))
 (.seq ZL7
 (.seq (.seq ZL8
 (.ite (.s 50)
 (.seq ZL9
 .ret)
 .skip))
 (.seq ZMA
 (.seq (.seq ZMB
 (.ite (.s 58)
 (.seq ZMC
 .ret)
 .skip))
 (.seq ZMD
 .ret)))))))))),
 [.s 6,.s 7]⟩
theorem ZVK:Zv Proofs.Tryz.prog false ZVJ Proofs.Tryz.f17=some ZHh:=by kernel_rfl
def ZDZ:List Hint:=[H [0,1],H [0,1,10],H [4],H [0,1,5],H [0,1,5,14],H [0,1,5,25],H [4],H [0,1,5],H [4]]
def ZCS:PC :=
 (.reg [0,1] [I 4 (.mv (.v (.bool false)))])
def ZCT:PC :=
 (.reg [0,1,10] [I 6 (.mv (.s 0)),I 7 (.len 1 (.s 6)),I 8 (.mv (.s 1)),I 9 (.len 1 (.s 8)),I 10 (.bin .neq (.s 7) (.s 9))])
def ZCU:PC :=
 (.reg [4] [I 4 (.mv (.v (.bool false)))])
def ZCV:PC :=
 (.reg [0,1,5] [I 5 (.mv (V 0))])
def ZCW:PC :=
 (.reg [0,1,5,14] [I 11 (.mv (.s 5)),I 12 (.mv (.s 0)),I 13 (.len 1 (.s 12)),I 14 (.bin .lss (.s 11) (.s 13))])
def ZCX:PC :=
 (.reg [0,1,5,25] [I 17 (.mv (.s 0)),I 18 (.mv (.s 5)),I 19 (.ixS 1 (.s 17) (.s 18)),I 20 (.ld false 1 (.s 19)),I 21 (.mv (.s 1)),I 22 (.mv (.s 5)),I 23 (.ixS 1 (.s 21) (.s 22)),I 24 (.ld false 1 (.s 23)),I 25 (.bin .neq (.s 20) (.s 24))])
def ZCY:PC :=
 (.reg [4] [I 4 (.mv (.v (.bool false)))])
def ZCZ:PC :=
 (.reg [0,1,5] [I 15 (.mv (.s 5)),I 16 (.bin .add (.s 15) (V 1)),I 5 (.mv (.s 16))])
def ZCa:PC :=
 (.seq (.seq ZCW
 (.ite (.s 14)
 .skip
 (.exit 0)))
 (.seq (.block 1
 (.seq ZCX
 (.ite (.s 25)
 (.seq ZCY
 .ret)
 .skip)))
 ZCZ))
def ZCb:PC :=
 (.reg [4] [I 4 (.mv (.v (.bool true)))])
def Xa:PF:=⟨false,
 (.seq ZCS
 (.seq (.seq ZCT
 (.ite (.s 10)
 (.seq ZCU
 .ret)
 .skip))
 (.seq (.seq ZCV
 (.block 0
 (.loop ZCa)))
 (.seq ZCb
 .ret)))),
 [.s 4]⟩
theorem ZDa:Zv Proofs.Tryz.prog false ZDZ Proofs.Tryz.f18=some Xa:=by kernel_rfl
def ZHi:List Hint:=[H [0,1],H [4]]
def ZE8:PC :=
 (.reg [0,1] [I 4 (.mv (.v (.bool false)))])
def ZE9:PC :=
 (.reg [4] [I 5 (.mv (.s 0)),I 6 (C Xs [(.s 5)]),I 7 (.mv (.s 6)),G 8 7 false (.mv (.s 1)),G 9 7 false (C Xt [(.s 8)]),I 10 (.pick (.s 7) (.v (.bool true)) (.s 9)),I 11 (.mv (.s 10)),G 12 11 false (.mv (.s 1)),G 13 11 false (.len 1 (.s 12)),G 14 11 false (.bin .gtr (.s 13) (V 12)),I 15 (.pick (.s 11) (.v (.bool true)) (.s 14)),I 4 (.mv (.s 15))])
def ZA7:PF:=⟨false,
 (.seq ZE8
 (.seq ZE9
 .ret)),
 [.s 4]⟩
theorem ZHj:Zv Proofs.Tryz.prog false ZHi Proofs.Tryz.f19=some ZA7:=by kernel_rfl
def ZKX:List Hint:=[H [0,1],H [0,1,8,9,10],H [0,1,8,9,26],H [4,5,6,7],H [1,8,9,11],H [1,8,9,11,12],H [1,8,9,11,12,33],H [1,8,9,11,12,13,14],H [1,8,9,11,12,13,48],H [4,5,6,7],H [1,8,9,11,12,13,15,16],H [1,8,9,11,12,13,15,58],H [4,5,6,7],H [1,8,9,11,12,15,16,17],H [1,8,9,11,12,15,16,17,69],H [1,8,9,11,12,15,17,71],H [4,5,6,7],H [1,8,9,11,12,15],H [1,8,9,11,12],H [1,8,9,11,12],H [4,5,6,7]]
def ZHk:PC :=
 (.reg [0,1] [I 4 (.mv (.v .nilptr)),I 5 (.mv (.v .nils)),I 6 (.mv (.v .nils)),I 7 (.mv (.v (.bool false)))])
def ZHl:PC :=
 (.reg [0,1,8,9,10] [I 20 (.mv (.s 0)),I 21 (C Yb [(.s 20)]),I 19 (.mv (.s 21)),I 22 (.ext (.s 19) 0),I 23 (.ext (.s 19) 1),I 24 (.ext (.s 19) 2),I 8 (.mv (.s 22)),I 9 (.mv (.s 23)),I 10 (.mv (.s 24))])
def ZHm:PC :=
 (.reg [0,1,8,9,26] [I 25 (.mv (.s 10)),I 26 (.un .not (.s 25))])
def ZHn:PC :=
 (.reg [4,5,6,7] [I 4 (.mv (.v .nilptr)),I 5 (.mv (.v .nils)),I 6 (.mv (.v .nils)),I 7 (.mv (.v (.bool false)))])
def ZHo:PC :=
 (.reg [1,8,9,11] [I 27 (.bslice false 1 [] []),I 28 (.mv (.s 0)),I 29 (.app 1 16 (.s 27) (.s 28)),I 11 (.mv (.s 29))])
def ZHp:PC :=
 (.reg [1,8,9,11,12] [I 12 (.mv (V 0))])
def ZHq:PC :=
 (.reg [1,8,9,11,12,33] [I 30 (.mv (.s 12)),I 31 (.mv (.s 1)),I 32 (.len 1 (.s 31)),I 33 (.bin .lss (.s 30) (.s 32))])
def ZHr:PC :=
 (.reg [1,8,9,11,12,13,14] [I 37 (.mv (.s 8)),I 38 (.mv (.s 9)),I 39 (.mv (.s 1)),I 40 (.mv (.s 12)),I 41 (.mv (.s 12)),I 42 (.bin .add (.s 41) (V 1)),I 43 (.slc 5 (.s 39) (some (.s 40)) (some (.s 42))),I 44 (C XU [(.s 37),(.s 38),(.s 43)]),I 36 (.mv (.s 44)),I 45 (.ext (.s 36) 0),I 46 (.ext (.s 36) 1),I 13 (.mv (.s 45)),I 14 (.mv (.s 46))])
def ZHs:PC :=
 (.reg [1,8,9,11,12,13,48] [I 47 (.mv (.s 14)),I 48 (.un .not (.s 47))])
def ZHt:PC :=
 (.reg [4,5,6,7] [I 4 (.mv (.v .nilptr)),I 5 (.mv (.v .nils)),I 6 (.mv (.v .nils)),I 7 (.mv (.v (.bool false)))])
def ZGR:PC :=
 (.reg [1,8,9,11,12,13,15,16] [I 50 (.mv (.s 8)),I 51 (.mv (.s 13)),I 52 (.ixS 7 (.s 51) (V 0)),I 53 (.ld true 7 (.s 52)),I 54 (C ZHV [(.s 50),(.s 53)]),I 49 (.mv (.s 54)),I 55 (.ext (.s 49) 0),I 56 (.ext (.s 49) 1),I 15 (.mv (.s 55)),I 16 (.mv (.s 56))])
def ZGS:PC :=
 (.reg [1,8,9,11,12,13,15,58] [I 57 (.mv (.s 16)),I 58 (.bin .neq (.s 57) (V 0))])
def ZGT:PC :=
 (.reg [4,5,6,7] [I 4 (.mv (.v .nilptr)),I 5 (.mv (.v .nils)),I 6 (.mv (.v .nils)),I 7 (.mv (.v (.bool false)))])
def ZGU:PC :=
 (.reg [1,8,9,11,12,15,16,17] [I 60 (.mv (.s 8)),I 61 (.mv (.s 13)),I 62 (.ixS 7 (.s 61) (V 0)),I 63 (.ld true 7 (.s 62)),I 64 (C XI [(.s 60),(.s 63)]),I 59 (.mv (.s 64)),I 65 (.ext (.s 59) 0),I 66 (.ext (.s 59) 1),I 67 (.ext (.s 59) 2),I 17 (.box (.v ZR)),J (.st 5 (.s 17) (.s 65)),I 18 (.mv (.s 66)),I 16 (.mv (.s 67))])
def ZGV:PC :=
 (.reg [1,8,9,11,12,15,16,17,69] [I 68 (.mv (.s 16)),I 69 (.bin .eql (.s 68) (V 6))])
def ZGW:PC :=
 (.reg [1,8,9,11,12,15,17,71] [I 70 (.mv (.s 16)),I 71 (.bin .neq (.s 70) (V 0))])
def ZGX:PC :=
 (.reg [4,5,6,7] [I 4 (.mv (.v .nilptr)),I 5 (.mv (.v .nils)),I 6 (.mv (.v .nils)),I 7 (.mv (.v (.bool false)))])
def ZGY:PC :=
 (.reg [1,8,9,11,12,15] [I 72 (.mv (.s 9)),I 73 (.ld true 5 (.s 17)),I 74 (.bslice false 5 [ZR] [(0,(.s 73))]),I 75 (.app 5 40 (.s 72) (.s 74)),I 9 (.mv (.s 75))])
def ZGZ:PC :=
 (.reg [1,8,9,11,12] [I 76 (.mv (.s 11)),I 77 (.mv (.s 15)),I 78 (.bslice false 1 [(.str [])] [(0,(.s 77))]),I 79 (.app 1 16 (.s 76) (.s 78)),I 11 (.mv (.s 79))])
def ZGa:PC :=
 (.reg [1,8,9,11,12] [I 34 (.mv (.s 12)),I 35 (.bin .add (.s 34) (V 1)),I 12 (.mv (.s 35))])
def ZGb:PC :=
 (.seq (.seq ZHq
 (.ite (.s 33)
 .skip
 (.exit 0)))
 (.seq (.block 1
 (.seq ZHr
 (.seq (.seq ZHs
 (.ite (.s 48)
 (.seq ZHt
 .ret)
 .skip))
 (.seq ZGR
 (.seq (.seq ZGS
 (.ite (.s 58)
 (.seq ZGT
 .ret)
 .skip))
 (.seq ZGU
 (.seq (.seq ZGV
 (.ite (.s 69)
 (.exit 1)
 .skip))
 (.seq (.seq ZGW
 (.ite (.s 71)
 (.seq ZGX
 .ret)
 .skip))
 (.seq ZGY
 ZGZ)))))))))
 ZGa))
def ZGc:PC :=
 (.reg [4,5,6,7] [I 80 (.mv (.s 8)),I 81 (.mv (.s 9)),I 82 (.mv (.s 11)),I 4 (.mv (.s 80)),I 5 (.mv (.s 81)),I 6 (.mv (.s 82)),I 7 (.mv (.v (.bool true)))])
def Xu:PF:=⟨true,
 (.seq ZHk
 (.seq ZHl
 (.seq (.seq ZHm
 (.ite (.s 26)
 (.seq ZHn
 .ret)
 .skip))
 (.seq ZHo
 (.seq (.seq ZHp
 (.block 0
 (.loop ZGb)))
 (.seq ZGc
 .ret)))))),
 [.s 4,.s 5,.s 6,.s 7]⟩
theorem ZKY:Zv Proofs.Tryz.prog true ZKX Proofs.Tryz.f21=some Xu:=by kernel_rfl
def ZKZ:List Hint:=[H [0,1],H [4]]
def ZHu:PC :=
 (.reg [0,1] [I 4 (.mv (V 0))])
def ZHv:PC :=
 (.reg [4] [I 5 (.mv (.s 0)),I 6 (.mv (.s 1)),I 7 (C JR [(.s 5),(.s 6)]),I 4 (.mv (.s 7))])
def ZCc:PF:=⟨false,
 (.seq ZHu
 (.seq ZHv
 .ret)),
 [.s 4]⟩
theorem ZKa:Zv Proofs.Tryz.prog false ZKZ Proofs.Tryz.f22=some ZCc:=by kernel_rfl
def ZfU:List Hint:=[H [0,1],H [0,6,7],H [0,6,7,15],H [4,5],H [4,5]]
def ZYx:PC :=
 (.reg [0,1] [I 4 (.mv (.v .nilptr)),I 5 (.mv (V 0))])
def ZYy:PC :=
 (.reg [0,6,7] [I 9 (.mv (.s 0)),I 10 (.mv (.s 1)),I 11 (C ZCC [(.s 9),(.s 10)]),I 8 (.mv (.s 11)),I 12 (.ext (.s 8) 0),I 13 (.ext (.s 8) 1),I 6 (.mv (.s 12)),I 7 (.mv (.s 13))])
def ZYz:PC :=
 (.reg [0,6,7,15] [I 14 (.mv (.s 7)),I 15 (.bin .neq (.s 14) (V 0))])
def ZY0:PC :=
 (.reg [4,5] [I 16 (.mv (.s 7)),I 4 (.mv (.v .nilptr)),I 5 (.mv (.s 16))])
def ZY1:PC :=
 (.reg [4,5] [I 17 (.mv (.s 0)),I 18 (.mv (.s 6)),I 19 (.mkmap),I 20 (.build [(.int .i64 0),.nilptr,.nilmap,(.int .i64 0),(.int .i64 0),(.int .i64 0)] [(0,1,(.s 17)),(1,1,(.s 18)),(2,1,(.s 19))]),I 21 (.box (.s 20)),I 4 (.mv (.s 21)),I 5 (.mv (V 0))])
def ZQ1:PF:=⟨true,
 (.seq ZYx
 (.seq ZYy
 (.seq (.seq ZYz
 (.ite (.s 15)
 (.seq ZY0
 .ret)
 .skip))
 (.seq ZY1
 .ret)))),
 [.s 4,.s 5]⟩
theorem ZfV:Zv Proofs.Tryz.prog true ZfU Proofs.Tryz.f29=some ZQ1:=by kernel_rfl
def ZhR:List Hint:=[H [0,1,4],H [0,1,4,11],H [4,5],H [0,4,6,7],H [0,4,6,7,19],H [4,5],H [4,7,8],H [4,5]]
def Zci:PC :=
 (.reg [0,1,4] [I 4 (.box (.v ZR)),I 5 (.mv (V 0))])
def Zcj:PC :=
 (.reg [0,1,4,11] [I 10 (.mv (.s 0)),I 11 (.eqs false 3 [] (.s 10) (.v .nilptr))])
def Zck:PC :=
 (.reg [4,5] [I 12 (.build [(.int .u64 0),(.int .i64 0),(.int .i64 0),(.int .i64 0),(.int .i64 0)] []),J (.st 5 (.s 4) (.s 12)),I 5 (.mv (V 1))])
def Zcl:PC :=
 (.reg [0,4,6,7] [I 14 (.mv (.s 1)),I 15 (C ZAC [(.s 14)]),I 13 (.mv (.s 15)),I 16 (.ext (.s 13) 0),I 17 (.ext (.s 13) 1),I 6 (.box (.v ZT)),J (.st 7 (.s 6) (.s 16)),I 7 (.mv (.s 17))])
def Zcm:PC :=
 (.reg [0,4,6,7,19] [I 18 (.mv (.s 7)),I 19 (.bin .neq (.s 18) (V 0))])
def Zcn:PC :=
 (.reg [4,5] [I 20 (.build [(.int .u64 0),(.int .i64 0),(.int .i64 0),(.int .i64 0),(.int .i64 0)] []),I 21 (.mv (.s 7)),J (.st 5 (.s 4) (.s 20)),I 5 (.mv (.s 21))])
def Zco:PC :=
 (.reg [4,7,8] [I 23 (.mv (.s 0)),I 24 (.ld true 7 (.s 6)),I 25 (C XI [(.s 23),(.s 24)]),I 22 (.mv (.s 25)),I 26 (.ext (.s 22) 0),I 27 (.ext (.s 22) 1),I 28 (.ext (.s 22) 2),I 8 (.box (.v ZR)),J (.st 5 (.s 8) (.s 26)),I 9 (.mv (.s 27)),I 7 (.mv (.s 28))])
def Zcp:PC :=
 (.reg [4,5] [I 29 (.ld true 5 (.s 8)),I 30 (.mv (.s 7)),J (.st 5 (.s 4) (.s 29)),I 5 (.mv (.s 30))])
def ZVL:PF:=⟨false,
 (.seq Zci
 (.seq (.seq Zcj
 (.ite (.s 11)
 (.seq Zck
 .ret)
 .skip))
 (.seq Zcl
 (.seq (.seq Zcm
 (.ite (.s 19)
 (.seq Zcn
 .ret)
 .skip))
 (.seq Zco
 (.seq Zcp
 .ret)))))),
 [.c 4 true 5,.s 5]⟩
theorem ZhS:Zv Proofs.Tryz.prog false ZhR Proofs.Tryz.f30=some ZVL:=by kernel_rfl
def ZJW:List Hint:=[H [],H [1,2,3],H [1,2,14],H [0],H [1,4,5],H [5,6,7],H [0]]
def ZGd:PC :=
 (.reg [] [I 0 (.mv (.v (.bool false)))])
def ZGe:PC :=
 (.reg [1,2,3] [I 9 (C YG []),I 8 (.mv (.s 9)),I 10 (.ext (.s 8) 0),I 11 (.ext (.s 8) 1),I 12 (.ext (.s 8) 2),I 2 (.box (.v ZR)),I 1 (.mv (.s 10)),J (.st 5 (.s 2) (.s 11)),I 3 (.mv (.s 12))])
def ZGf:PC :=
 (.reg [1,2,14] [I 13 (.mv (.s 3)),I 14 (.un .not (.s 13))])
def ZGg:PC :=
 (.reg [0] [I 0 (.mv (.v (.bool false)))])
def ZGh:PC :=
 (.reg [1,4,5] [I 16 (.mv (.s 1)),I 17 (.ld true 5 (.s 2)),I 18 (C ZAu [(.s 16),(.s 17),(V 9),(.v (.str [120,121,122]))]),I 15 (.mv (.s 18)),I 19 (.ext (.s 15) 0),I 20 (.ext (.s 15) 1),I 4 (.box (.v (.agg [(.int .u64 0),(.int .i64 0),(.int .i64 0),(.int .i64 0),(.int .i64 0),.nils,.nils]))),J (.st 7 (.s 4) (.s 19)),I 5 (.mv (.s 20))])
def ZGi:PC :=
 (.reg [5,6,7] [I 22 (.mv (.s 1)),I 23 (.fadr 0 (.s 4)),I 24 (.ld true 5 (.s 23)),I 25 (C ZA6 [(.s 22),(.s 24)]),I 21 (.mv (.s 25)),I 26 (.ext (.s 21) 0),I 27 (.ext (.s 21) 1),I 6 (.mv (.s 26)),I 7 (.mv (.s 27))])
def ZGj:PC :=
 (.reg [0] [I 28 (.mv (.s 5)),I 29 (.bin .eql (.s 28) (V 0)),I 30 (.mv (.s 29)),G 31 30 true (.mv (.s 7)),G 32 30 true (.bin .eql (.s 31) (V 0)),I 33 (.pick (.s 30) (.s 32) (.v (.bool false))),I 34 (.mv (.s 33)),G 35 34 true (.mv (.s 6)),G 36 34 true (.bin .eql (.s 35) (.v (.str [97,98,99,100,101,102,103,104,105,120,121,122,106,107,108,109,110,111,112,113]))),I 37 (.pick (.s 34) (.s 36) (.v (.bool false))),I 0 (.mv (.s 37))])
def XW:PF:=⟨false,
 (.seq ZGd
 (.seq ZGe
 (.seq (.seq ZGf
 (.ite (.s 14)
 (.seq ZGg
 .ret)
 .skip))
 (.seq ZGh
 (.seq ZGi
 (.seq ZGj
 .ret)))))),
 [.s 0]⟩
theorem ZJX:Zv Proofs.Tryz.prog false ZJW Proofs.Tryz.f33=some XW:=by kernel_rfl
def ZGk:List Hint:=[H [0],H [0,4],H [2],H [2]]
def ZDy:PC :=
 (.reg [0] [I 2 (.mv (.v .nils))])
def ZDz:PC :=
 (.reg [0,4] [I 3 (.mv (.s 0)),I 4 (.eqs false 3 [] (.s 3) (.v .nilptr))])
def ZD0:PC :=
 (.reg [2] [I 2 (.mv (.v .nils))])
def ZD1:PC :=
 (.reg [2] [I 5 (.mv (.s 0)),I 6 (.nilck (.s 5)),I 7 (.fadr 1 (.s 6)),I 8 (.ld false 1 (.s 7)),I 9 (C YJ [(.s 8)]),I 2 (.mv (.s 9))])
def ZAX:PF:=⟨false,
 (.seq ZDy
 (.seq (.seq ZDz
 (.ite (.s 4)
 (.seq ZD0
 .ret)
 .skip))
 (.seq ZD1
 .ret))),
 [.s 2]⟩
theorem ZGl:Zv Proofs.Tryz.prog false ZGk Proofs.Tryz.f34=some ZAX:=by kernel_rfl
def ZVM:List Hint:=[H [5,6,7,8,9,10],H [10,11]]
def ZOi:PC :=
 (.reg [5,6,7,8,9,10] [I 5 (.box (.s 0)),I 6 (.box (.s 1)),I 7 (.box (.s 2)),I 8 (.box (.s 3)),I 9 (.box (.s 4)),I 10 (.box (.v (.agg [(.int .u64 0),(.int .i64 0),(.int .i64 0),(.int .i64 0),(.int .i64 0),.nils,.nils]))),I 11 (.mv (V 0))])
def ZOj:PC :=
 (.reg [10,11] [I 12 (.ld false 1 (.s 5)),I 13 (.mkf (.func YK) [] [(.s 5),(.s 6),(.s 7),(.s 8),(.s 9)]),I 14 (.ld true 5 (.s 6)),I 15 (.bslice false 5 [ZR] [(0,(.s 14))]),I 16 (C XZ [(.s 12),(.s 13),(.s 15)]),I 17 (.ext (.s 16) 0),I 18 (.ext (.s 16) 1),J (.st 7 (.s 10) (.s 17)),I 11 (.mv (.s 18))])
def ZHw:PF:=⟨false,
 (.seq ZOi
 (.seq ZOj
 .ret)),
 [.c 10 true 7,.s 11]⟩
theorem ZVN:Zv Proofs.Tryz.prog false ZVM Proofs.Tryz.f35=some ZHw:=by kernel_rfl
def ZHx:List Hint:=[H [0,1,3,6],⟨[0,1,3,6,9],[0],[],[],[],[]⟩,H [0,1,3,6,9,10],H [0,1,3,6,9,10,20],H [0,1,3,6,9,10,11,12],H [0,1,3,6,9,10,11,33],H [8],H [0,1,3,6,9,10],H [0,1,3,6,9,10],H [1,6,9,13,14],⟨[1,6,9,13,64],[],[(7,.pure),(14,.pure)],[],[],[]⟩,H [8],H [1,6,9,13,15],H [1,6,9,13,15,69],H [1,6,9,13,15,88],H [8],H [1,6,9,13,15],H [6,9,13,16],H [6,9,13,16,92],⟨[6,9,13,16,117],[],[(5,.pure)],[],[],[]⟩,H [8],H [6,9,13,16],H [8]]
def ZFA:PC :=
 (.reg [0,1,3,6] [I 6 (.box (.s 2)),I 8 (.mv (.v (.bool false)))])
def ZFB:PC :=
 (.reg [0,1,3,6,9] [I 9 (.onil 1)])
def ZFC:PC :=
 (.reg [0,1,3,6,9,10] [I 10 (.mv (V 0))])
def ZFD:PC :=
 (.reg [0,1,3,6,9,10,20] [I 17 (.mv (.s 10)),I 18 (.mv (.s 3)),I 19 (.len 1 (.s 18)),I 20 (.bin .lss (.s 17) (.s 19))])
def ZFE:PC :=
 (.reg [0,1,3,6,9,10,11,12] [I 24 (.mv (.s 0)),I 25 (.mv (.s 3)),I 26 (.mv (.s 10)),I 27 (.ixS 5 (.s 25) (.s 26)),I 28 (.ld true 5 (.s 27)),I 29 (C ZAE [(.s 24),(.s 28)]),I 23 (.mv (.s 29)),I 30 (.ext (.s 23) 0),I 31 (.ext (.s 23) 1),I 11 (.mv (.s 30)),I 12 (.mv (.s 31))])
def ZFF:PC :=
 (.reg [0,1,3,6,9,10,11,33] [I 32 (.mv (.s 12)),I 33 (.bin .neq (.s 32) (V 0))])
def ZFG:PC :=
 (.reg [8] [I 8 (.mv (.v (.bool false)))])
def ZFH:PC :=
 (.reg [0,1,3,6,9,10] [I 34 (.mv (.s 9)),I 35 (.mv (.s 11)),I 36 (.app 1 8 (.s 34) (.s 35)),I 9 (.mv (.s 36))])
def ZFI:PC :=
 (.reg [0,1,3,6,9,10] [I 21 (.mv (.s 10)),I 22 (.bin .add (.s 21) (V 1)),I 10 (.mv (.s 22))])
def p_quartolaw19_shares_9:PC :=
 (.seq (.seq ZFD
 (.ite (.s 20)
 .skip
 (.exit 0)))
 (.seq (.block 1
 (.seq ZFE
 (.seq (.seq ZFF
 (.ite (.s 33)
 (.seq ZFG
 .ret)
 .skip))
 ZFH)))
 ZFI))
def ZD2:PC :=
 (.reg [1,6,9,13,14] [I 38 (.mv (.s 0)),I 39 (.fadr 0 (.s 6)),I 40 (.ld true 5 (.s 39)),I 41 (C ZAE [(.s 38),(.s 40)]),I 37 (.mv (.s 41)),I 42 (.ext (.s 37) 0),I 43 (.ext (.s 37) 1),I 13 (.mv (.s 42)),I 14 (.mv (.s 43))])
def ZD3:PC :=
 (.reg [1,6,9,13,64] [I 44 (.mv (.s 14)),I 45 (.bin .neq (.s 44) (V 0)),I 46 (.mv (.s 45)),G 47 46 false (.fadr 6 (.s 6)),G 48 46 false (.ld false 1 (.s 47)),G 49 46 false (.mv (.s 9)),G 50 46 false (.mv (.s 13)),G 51 46 false (.call .pure (.v (.func (.func Ys) [] [])) [(.s 49),(.s 50)]),G 52 46 false (C Qs [(.s 48),(.s 51)]),G 53 46 false (.un .not (.s 52)),I 54 (.pick (.s 46) (.v (.bool true)) (.s 53)),I 55 (.mv (.s 54)),G 56 55 false (.fadr 5 (.s 6)),G 57 55 false (.ld false 1 (.s 56)),G 58 55 false (.call .pure (.v (.func (.func Jx) [] [])) [(.s 57)]),G 59 55 false (.len 1 (.s 58)),G 60 55 false (.fadr 5 (.s 6)),G 61 55 false (.ld false 1 (.s 60)),G 62 55 false (.len 1 (.s 61)),G 63 55 false (.bin .neq (.s 59) (.s 62)),I 64 (.pick (.s 55) (.v (.bool true)) (.s 63))])
def ZD4:PC :=
 (.reg [8] [I 8 (.mv (.v (.bool false)))])
def ZD5:PC :=
 (.reg [1,6,9,13,15] [I 15 (.mv (V 0))])
def ZD6:PC :=
 (.reg [1,6,9,13,15,69] [I 65 (.mv (.s 15)),I 66 (.fadr 5 (.s 6)),I 67 (.ld false 1 (.s 66)),I 68 (.len 1 (.s 67)),I 69 (.bin .lss (.s 65) (.s 68))])
def ZD7:PC :=
 (.reg [1,6,9,13,15,88] [I 72 (.mv (.s 1)),I 73 (.fadr 5 (.s 6)),I 74 (.ld false 1 (.s 73)),I 75 (.mv (.s 15)),I 76 (.ixS 1 (.s 74) (.s 75)),I 77 (.ld false 1 (.s 76)),I 78 (C QS [(.s 72),(.s 77)]),I 79 (.mv (.s 78)),G 80 79 false (.mv (.s 13)),G 81 79 false (.fadr 5 (.s 6)),G 82 79 false (.ld false 1 (.s 81)),G 83 79 false (.mv (.s 15)),G 84 79 false (.ixS 1 (.s 82) (.s 83)),G 85 79 false (.ld false 1 (.s 84)),G 86 79 false (C QS [(.s 80),(.s 85)]),G 87 79 false (.un .not (.s 86)),I 88 (.pick (.s 79) (.v (.bool true)) (.s 87))])
def ZD8:PC :=
 (.reg [8] [I 8 (.mv (.v (.bool false)))])
def ZD9:PC :=
 (.reg [1,6,9,13,15] [I 70 (.mv (.s 15)),I 71 (.bin .add (.s 70) (V 1)),I 15 (.mv (.s 71))])
def p_quartolaw19_shares_18:PC :=
 (.seq (.seq ZD6
 (.ite (.s 69)
 .skip
 (.exit 2)))
 (.seq (.block 3
 (.seq ZD7
 (.ite (.s 88)
 (.seq ZD8
 .ret)
 .skip)))
 ZD9))
def ZEA:PC :=
 (.reg [6,9,13,16] [I 16 (.mv (V 0))])
def ZEB:PC :=
 (.reg [6,9,13,16,92] [I 89 (.mv (.s 16)),I 90 (.mv (.s 13)),I 91 (.len 1 (.s 90)),I 92 (.bin .lss (.s 89) (.s 91))])
def ZEC:PC :=
 (.reg [6,9,13,16,117] [I 95 (.mv (.s 9)),I 96 (.mv (.s 13)),I 97 (.mv (.s 16)),I 98 (.ixS 1 (.s 96) (.s 97)),I 99 (.ld false 1 (.s 98)),I 100 (.call .pure (.v (.func (.func QS) [] [])) [(.s 95),(.s 99)]),I 101 (.fadr 5 (.s 6)),I 102 (.ld false 1 (.s 101)),I 103 (.mv (.s 13)),I 104 (.mv (.s 16)),I 105 (.ixS 1 (.s 103) (.s 104)),I 106 (.ld false 1 (.s 105)),I 107 (C QS [(.s 102),(.s 106)]),I 108 (.eqs false 6 [] (.s 100) (.s 107)),I 109 (.mv (.s 108)),G 110 109 false (.fadr 6 (.s 6)),G 111 109 false (.ld false 1 (.s 110)),G 112 109 false (.mv (.s 13)),G 113 109 false (.mv (.s 16)),G 114 109 false (.ixS 1 (.s 112) (.s 113)),G 115 109 false (.ld false 1 (.s 114)),G 116 109 false (C QS [(.s 111),(.s 115)]),I 117 (.pick (.s 109) (.v (.bool true)) (.s 116))])
def ZED:PC :=
 (.reg [8] [I 8 (.mv (.v (.bool false)))])
def ZEE:PC :=
 (.reg [6,9,13,16] [I 93 (.mv (.s 16)),I 94 (.bin .add (.s 93) (V 1)),I 16 (.mv (.s 94))])
def p_quartolaw19_shares_24:PC :=
 (.seq (.seq ZEB
 (.ite (.s 92)
 .skip
 (.exit 4)))
 (.seq (.block 5
 (.seq ZEC
 (.ite (.s 117)
 (.seq ZED
 .ret)
 .skip)))
 ZEE))
def ZEF:PC :=
 (.reg [8] [I 8 (.mv (.v (.bool true)))])
def ZA8:PF:=⟨false,
 (.seq ZFA
 (.seq ZFB
 (.seq (.seq ZFC
 (.block 0
 (.loop p_quartolaw19_shares_9)))
 (.seq ZD2
 (.seq (.seq ZD3
 (.ite (.s 64)
 (.seq ZD4
 .ret)
 .skip))
 (.seq (.seq ZD5
 (.block 2
 (.loop p_quartolaw19_shares_18)))
 (.seq (.seq ZEA
 (.block 4
 (.loop p_quartolaw19_shares_24)))
 (.seq ZEF
 .ret)))))))),
 [.s 8]⟩
theorem ZHy:Zv Proofs.Tryz.prog false ZHx Proofs.Tryz.f36=some ZA8:=by kernel_rfl
def ZEG:List Hint:=[H [2,3],H [4]]
def ZCs:PC :=
 (.reg [2,3] [I 2 (.box (.s 0)),I 3 (.box (.s 1)),I 4 (.mv (.v (.bool false)))])
def ZCt:PC :=
 (.reg [4] [I 5 (.fadr 0 (.s 2)),I 6 (.ld true 5 (.s 5)),I 7 (.fadr 0 (.s 3)),I 8 (.ld true 5 (.s 7)),I 9 (.eqs false 0 [(0,0),(1,0),(2,0),(3,0),(4,0)] (.s 6) (.s 8)),I 10 (.mv (.s 9)),G 11 10 true (.fadr 5 (.s 2)),G 12 10 true (.ld false 1 (.s 11)),G 13 10 true (.fadr 5 (.s 3)),G 14 10 true (.ld false 1 (.s 13)),G 15 10 true (C Qs [(.s 12),(.s 14)]),I 16 (.pick (.s 10) (.s 15) (.v (.bool false))),I 17 (.mv (.s 16)),G 18 17 true (.fadr 6 (.s 2)),G 19 17 true (.ld false 1 (.s 18)),G 20 17 true (.fadr 6 (.s 3)),G 21 17 true (.ld false 1 (.s 20)),G 22 17 true (C Qs [(.s 19),(.s 21)]),I 23 (.pick (.s 17) (.s 22) (.v (.bool false))),I 4 (.mv (.s 23))])
def X7:PF:=⟨false,
 (.seq ZCs
 (.seq ZCt
 .ret)),
 [.s 4]⟩
theorem ZEH:Zv Proofs.Tryz.prog false ZEG Proofs.Tryz.f37=some X7:=by kernel_rfl
def ZY2:List Hint:=[H [3,4,5,6],H [6,7]]
def ZRR:PC :=
 (.reg [3,4,5,6] [I 3 (.box (.s 0)),I 4 (.box (.s 1)),I 5 (.box (.s 2)),I 6 (.box (.v (.agg [(.int .u64 0),(.int .i64 0),(.int .i64 0),(.int .i64 0),(.int .i64 0),.nils,.nils]))),I 7 (.mv (V 0))])
def ZRS:PC :=
 (.reg [6,7] [I 8 (.ld false 1 (.s 3)),I 9 (.mkf (.func Yk) [] [(.s 3),(.s 4),(.s 5)]),I 10 (.ld true 5 (.s 4)),I 11 (.ld true 5 (.s 5)),I 12 (.bslice false 5 [ZR,ZR] [(0,(.s 10)),(1,(.s 11))]),I 13 (C XZ [(.s 8),(.s 9),(.s 12)]),I 14 (.ext (.s 13) 0),I 15 (.ext (.s 13) 1),J (.st 7 (.s 6) (.s 14)),I 7 (.mv (.s 15))])
def ZJw:PF:=⟨false,
 (.seq ZRR
 (.seq ZRS
 .ret)),
 [.c 6 true 7,.s 7]⟩
theorem ZY3:Zv Proofs.Tryz.prog false ZY2 Proofs.Tryz.f38=some ZJw:=by kernel_rfl
def Zcq:List Hint:=[H [0,2],H [0,2,14],H [2,3],⟨[0,2,4],[0],[],[],[],[]⟩,H [2,4,17,18,19],H [2,4,17,18,19,20],H [2,4,6,17,18,19],H [2,4,17,18,19],H [2,4,17,18,19],H [2,4,31],H [2,4,7,8],H [2,4,7,8,39],H [2,3],⟨[2,4,7,9],[0],[],[],[],[]⟩,H [2,4,9,42,43,44],H [2,4,9,42,43,44,45],H [2,4,9,11,42,43,44],H [2,4,9,11,42,43,44],H [2,4,9,42,43,44],H [2,4,9,42,43,44],H [2,4],H [2,3]]
def ZVO:PC :=
 (.reg [0,2] [I 2 (.box (.v ZT)),I 3 (.mv (V 0))])
def ZVP:PC :=
 (.reg [0,2,14] [I 12 (.mv (.s 0)),I 13 (.len 0 (.s 12)),I 14 (.bin .gtr (.s 13) (V 65536))])
def ZVQ:PC :=
 (.reg [2,3] [I 15 (.build [(.int .u64 0),(.int .i64 0),(.int .i64 0),(.int .i64 0),(.int .i64 0),(.str []),.nils] []),J (.st 7 (.s 2) (.s 15)),I 3 (.mv (V 5))])
def ZVR:PC :=
 (.reg [0,2,4] [I 4 (.onil 7)])
def ZVS:PC :=
 (.reg [2,4,17,18,19] [I 16 (.mv (.s 0)),I 17 (C ZCD [(.s 16)]),I 18 (.len 1 (.s 17)),I 19 (.mv (V 0))])
def ZVT:PC :=
 (.reg [2,4,17,18,19,20] [I 20 (.bin .lss (.s 19) (.s 18))])
def ZVU:PC :=
 (.reg [2,4,6,17,18,19] [I 21 (.ixS 1 (.s 17) (.s 19)),I 22 (.ld false 1 (.s 21)),I 6 (.mv (.s 22))])
def ZVV:PC :=
 (.reg [2,4,17,18,19] [I 23 (.mv (.s 4)),I 24 (.mv (.s 6)),I 25 (.build [(.int .u64 0),(.int .i64 0),(.int .i64 0),(.int .i64 0),(.int .i64 0),(.str []),.nils] [(5,1,(.s 24))]),I 26 (.bslice false 7 [ZT] [(0,(.s 25))]),I 27 (.app 7 80 (.s 23) (.s 26)),I 4 (.mv (.s 27))])
def ZVW:PC :=
 (.reg [2,4,17,18,19] [I 28 (.bin .add (.s 19) (V 1)),I 19 (.mv (.s 28))])
def ZVX:PC :=
 (.seq ZVT
 (.seq (.ite (.s 20)
 .skip
 (.exit 0))
 (.seq (.block 1
 (.seq ZVU
 ZVV))
 ZVW)))
def ZRT:PC :=
 (.reg [2,4,31] [I 29 (.mv (.s 4)),I 30 (.len 1 (.s 29)),I 31 (.bin .gtr (.s 30) (V 1))])
def ZRU:PC :=
 (.reg [2,4,7,8] [I 33 (.mv (.s 4)),I 34 (.len 1 (.s 33)),I 35 (C ZE5 [(.s 34),(V 4)]),I 32 (.mv (.s 35)),I 36 (.ext (.s 32) 0),I 37 (.ext (.s 32) 1),I 7 (.mv (.s 36)),I 8 (.mv (.s 37))])
def ZRV:PC :=
 (.reg [2,4,7,8,39] [I 38 (.mv (.s 8)),I 39 (.bin .neq (.s 38) (V 0))])
def ZRW:PC :=
 (.reg [2,3] [I 40 (.build [(.int .u64 0),(.int .i64 0),(.int .i64 0),(.int .i64 0),(.int .i64 0),(.str []),.nils] []),I 41 (.mv (.s 8)),J (.st 7 (.s 2) (.s 40)),I 3 (.mv (.s 41))])
def ZRX:PC :=
 (.reg [2,4,7,9] [I 9 (.onil 7)])
def ZRY:PC :=
 (.reg [2,4,9,42,43,44] [I 42 (.mv (.s 7)),I 43 (.len 1 (.s 42)),I 44 (.mv (V 0))])
def ZRZ:PC :=
 (.reg [2,4,9,42,43,44,45] [I 45 (.bin .lss (.s 44) (.s 43))])
def ZRa:PC :=
 (.reg [2,4,9,11,42,43,44] [I 46 (.ixS 1 (.s 42) (.s 44)),I 47 (.ld false 1 (.s 46)),I 11 (.mv (.s 47))])
def ZRb:PC :=
 (.reg [2,4,9,11,42,43,44] [I 48 (.mv (.s 9)),I 49 (.mv (.s 4)),I 50 (.mv (.s 11)),I 51 (.slc 7 (.s 49) none (some (.s 50))),I 52 (C QP [(.s 51)]),I 53 (.bslice false 7 [ZT] [(0,(.s 52))]),I 54 (.app 7 80 (.s 48) (.s 53)),I 9 (.mv (.s 54))])
def ZRc:PC :=
 (.reg [2,4,9,42,43,44] [I 55 (.mv (.s 4)),I 56 (.mv (.s 11)),I 57 (.slc 7 (.s 55) (some (.s 56)) none),I 4 (.mv (.s 57))])
def ZRd:PC :=
 (.reg [2,4,9,42,43,44] [I 58 (.bin .add (.s 44) (V 1)),I 44 (.mv (.s 58))])
def ZRe:PC :=
 (.seq ZRZ
 (.seq (.ite (.s 45)
 .skip
 (.exit 4))
 (.seq (.block 5
 (.seq ZRa
 (.seq ZRb
 ZRc)))
 ZRd)))
def ZRf:PC :=
 (.reg [2,4] [I 59 (.mv (.s 9)),I 4 (.mv (.s 59))])
def ZGC:PC :=
 (.seq (.seq ZRT
 (.ite (.s 31)
 .skip
 (.exit 2)))
 (.block 3
 (.seq ZRU
 (.seq (.seq ZRV
 (.ite (.s 39)
 (.seq ZRW
 .ret)
 .skip))
 (.seq ZRX
 (.seq (.seq ZRY
 (.block 4
 (.loop ZRe)))
 ZRf))))))
def ZGD:PC :=
 (.reg [2,3] [I 60 (.mv (.s 4)),I 61 (C QP [(.s 60)]),J (.st 7 (.s 2) (.s 61)),I 3 (.mv (V 0))])
def ZME:PF:=⟨false,
 (.seq ZVO
 (.seq (.seq ZVP
 (.ite (.s 14)
 (.seq ZVQ
 .ret)
 .skip))
 (.seq ZVR
 (.seq (.seq ZVS
 (.block 0
 (.loop ZVX)))
 (.seq (.block 2
 (.loop ZGC))
 (.seq ZGD
 .ret)))))),
 [.c 2 true 7,.s 3]⟩
theorem Zcr:Zv Proofs.Tryz.prog false Zcq Proofs.Tryz.f39=some ZME:=by kernel_rfl
def ZhT:List Hint:=[H [1],H [1,3],H [1,3,4],H [1,3,14],H [1,3],H [3,16,17,18],H [3,16,17,18,19],H [3,6,16,17,18],H [3,16,17,18],H [3,16,17,18],H [2]]
def Zcs:PC :=
 (.reg [1] [I 1 (.box (.s 0)),I 2 (.mv (V 0))])
def Zct:PC :=
 (.reg [1,3] [I 3 (.mv (V 0))])
def Zcu:PC :=
 (.reg [1,3,4] [I 7 (.ld true 7 (.s 1)),I 8 (C QY [(.s 7)]),I 4 (.mv (.s 8))])
def Zcv:PC :=
 (.reg [1,3,14] [I 9 (.mv (.s 4)),I 10 (.bin .eql (.s 9) (V 3)),I 11 (.mv (.s 10)),G 12 11 false (.mv (.s 4)),G 13 11 false (.bin .eql (.s 12) (V 4)),I 14 (.pick (.s 11) (.v (.bool true)) (.s 13))])
def Zcw:PC :=
 (.reg [1,3] [I 3 (.mv (V 1))])
def Zcx:PC :=
 (.reg [3,16,17,18] [I 15 (.fadr 6 (.s 1)),I 16 (.ld false 1 (.s 15)),I 17 (.len 1 (.s 16)),I 18 (.mv (V 0))])
def Zcy:PC :=
 (.reg [3,16,17,18,19] [I 19 (.bin .lss (.s 18) (.s 17))])
def Zcz:PC :=
 (.reg [3,6,16,17,18] [I 20 (.ixS 7 (.s 16) (.s 18)),I 21 (.ld true 7 (.s 20)),I 6 (.box (.v ZT)),J (.st 7 (.s 6) (.s 21))])
def Zc0:PC :=
 (.reg [3,16,17,18] [I 22 (.mv (.s 3)),I 23 (.ld true 7 (.s 6)),I 24 (C ZAi [(.s 23)]),I 25 (.bin .add (.s 22) (.s 24)),I 3 (.mv (.s 25))])
def Zc1:PC :=
 (.reg [3,16,17,18] [I 26 (.bin .add (.s 18) (V 1)),I 18 (.mv (.s 26))])
def ZY4:PC :=
 (.seq Zcy
 (.seq (.ite (.s 19)
 .skip
 (.exit 0))
 (.seq (.block 1
 (.seq Zcz
 Zc0))
 Zc1)))
def ZY5:PC :=
 (.reg [2] [I 27 (.mv (.s 3)),I 2 (.mv (.s 27))])
def ZVY:PF:=⟨false,
 (.seq Zcs
 (.seq Zct
 (.seq (.seq Zcu
 (.seq Zcv
 (.ite (.s 14)
 Zcw
 .skip)))
 (.seq (.seq Zcx
 (.block 0
 (.loop ZY4)))
 (.seq ZY5
 .ret))))),
 [.s 2]⟩
theorem ZhU:Zv Proofs.Tryz.prog false ZhT Proofs.Tryz.f40=some ZVY:=by kernel_rfl
def ZJY:List Hint:=[H [0,3],H [0,3,16],H [4,5],H [0,3,6],H [0,3,6,20],H [4,5],H [0,3,23,24,25],H [0,3,23,24,25,26],H [0,3,8,23,24,25],H [0,3,8,9,10,23,24,25],H [0,3,8,9,23,24,25,40],H [4,5],H [0,3,8,9,11,12,23,24,25],H [0,3,23,24,25,61],H [4,5],H [0,3,23,24,25],H [0,3,13,14],H [0,3,13,14,72],H [4,5],H [0,3,13],H [0,13],H [13],H [4,5]]
def ZGm:PC :=
 (.reg [0,3] [I 3 (.box (.s 1)),I 4 (.mv (.v (.int .u64 0))),I 5 (.mv (V 0))])
def ZGn:PC :=
 (.reg [0,3,16] [I 15 (.mv (.s 0)),I 16 (.eqs false 3 [] (.s 15) (.v .nilptr))])
def ZGo:PC :=
 (.reg [4,5] [I 4 (.mv (.v (.int .u64 0))),I 5 (.mv (V 1))])
def ZGp:PC :=
 (.reg [0,3,6] [I 17 (.ld true 3 (.s 3)),I 18 (C ZBb [(.s 17)]),I 6 (.mv (.s 18))])
def ZGq:PC :=
 (.reg [0,3,6,20] [I 19 (.mv (.s 6)),I 20 (.bin .neq (.s 19) (V 0))])
def ZGr:PC :=
 (.reg [4,5] [I 21 (.mv (.s 6)),I 4 (.mv (.v (.int .u64 0))),I 5 (.mv (.s 21))])
def ZGs:PC :=
 (.reg [0,3,23,24,25] [I 22 (.fadr 2 (.s 3)),I 23 (.ld false 1 (.s 22)),I 24 (.len 1 (.s 23)),I 25 (.mv (V 0))])
def ZGt:PC :=
 (.reg [0,3,23,24,25,26] [I 26 (.bin .lss (.s 25) (.s 24))])
def ZGu:PC :=
 (.reg [0,3,8,23,24,25] [I 27 (.ixS 4 (.s 23) (.s 25)),I 28 (.ld true 4 (.s 27)),I 8 (.box (.v ZK)),J (.st 4 (.s 8) (.s 28))])
def ZGv:PC :=
 (.reg [0,3,8,9,10,23,24,25] [I 30 (.mv (.s 0)),I 31 (.nilck (.s 30)),I 32 (.fadr 2 (.s 31)),I 33 (.ld false 1 (.s 32)),I 34 (.fadr 0 (.s 8)),I 35 (.ld false 1 (.s 34)),I 36 (.look 0 ZN true (.s 33) (.s 35)),I 29 (.mv (.s 36)),I 37 (.ext (.s 29) 0),I 38 (.ext (.s 29) 1),I 9 (.box (.v ZN)),J (.st 3 (.s 9) (.s 37)),I 10 (.mv (.s 38))])
def ZFJ:PC :=
 (.reg [0,3,8,9,23,24,25,40] [I 39 (.mv (.s 10)),I 40 (.un .not (.s 39))])
def ZFK:PC :=
 (.reg [4,5] [I 4 (.mv (.v (.int .u64 0))),I 5 (.mv (V 10))])
def ZFL:PC :=
 (.reg [0,3,8,9,11,12,23,24,25] [I 42 (.ld true 3 (.s 9)),I 43 (C Y7 [(.s 42)]),I 41 (.mv (.s 43)),I 44 (.ext (.s 41) 0),I 45 (.ext (.s 41) 1),I 11 (.box (.v ZM)),J (.st 3 (.s 11) (.s 44)),I 12 (.mv (.s 45))])
def ZFM:PC :=
 (.reg [0,3,23,24,25,61] [I 46 (.mv (.s 12)),I 47 (.bin .neq (.s 46) (V 0)),I 48 (.mv (.s 47)),G 49 48 false (.fadr 0 (.s 9)),G 50 48 false (.ld false 1 (.s 49)),G 51 48 false (.fadr 0 (.s 3)),G 52 48 false (.ld false 1 (.s 51)),G 53 48 false (.bin .sub (.s 52) (V 1)),G 54 48 false (.bin .neq (.s 50) (.s 53)),I 55 (.pick (.s 48) (.v (.bool true)) (.s 54)),I 56 (.mv (.s 55)),G 57 56 false (.ld true 3 (.s 11)),G 58 56 false (.fadr 1 (.s 8)),G 59 56 false (.ld true 3 (.s 58)),G 60 56 false (.eqs true 0 [(0,0),(1,0),(2,0)] (.s 57) (.s 59)),I 61 (.pick (.s 56) (.v (.bool true)) (.s 60))])
def ZFN:PC :=
 (.reg [4,5] [I 4 (.mv (.v (.int .u64 0))),I 5 (.mv (V 23))])
def ZFO:PC :=
 (.reg [0,3,23,24,25] [I 62 (.bin .add (.s 25) (V 1)),I 25 (.mv (.s 62))])
def ZFP:PC :=
 (.seq ZGt
 (.seq (.ite (.s 26)
 .skip
 (.exit 0))
 (.seq (.block 1
 (.seq ZGu
 (.seq ZGv
 (.seq (.seq ZFJ
 (.ite (.s 40)
 (.seq ZFK
 .ret)
 .skip))
 (.seq ZFL
 (.seq ZFM
 (.ite (.s 61)
 (.seq ZFN
 .ret)
 .skip)))))))
 ZFO)))
def ZFQ:PC :=
 (.reg [0,3,13,14] [I 64 (.mv (.s 0)),I 65 (.nilck (.s 64)),I 66 (.fadr 1 (.s 65)),I 67 (.ld false 1 (.s 66)),I 68 (C Y8 [(.s 67)]),I 63 (.mv (.s 68)),I 69 (.ext (.s 63) 0),I 70 (.ext (.s 63) 1),I 13 (.mv (.s 69)),I 14 (.mv (.s 70))])
def ZFR:PC :=
 (.reg [0,3,13,14,72] [I 71 (.mv (.s 14)),I 72 (.bin .neq (.s 71) (V 0))])
def ZFS:PC :=
 (.reg [4,5] [I 73 (.mv (.s 14)),I 4 (.mv (.v (.int .u64 0))),I 5 (.mv (.s 73))])
def ZAK:PC :=
 (.reg [0,3,13] [I 74 (.fadr 2 (.s 3)),I 75 (.ld false 1 (.s 74)),I 76 (C QA [(.s 75)]),I 77 (.fadr 2 (.s 3)),J (.st 1 (.s 77) (.s 76))])
def ZAL:PC :=
 (.reg [0,13] [I 78 (.mv (.s 0)),I 79 (.nilck (.s 78)),I 80 (.fadr 2 (.s 79)),I 81 (.ld false 1 (.s 80)),I 82 (.mv (.s 13)),I 83 (.ld true 3 (.s 3)),J (.mupd 0 (.s 81) (.s 82) (.s 83))])
def ZAM:PC :=
 (.reg [13] [I 84 (.mv (.s 0)),I 85 (.nilck (.s 84)),I 86 (.fadr 3 (.s 85)),I 87 (.ld false 1 (.s 86)),I 88 (.bin .add (.s 87) (V 1)),I 89 (.nilck (.s 84)),I 90 (.fadr 3 (.s 89)),J (.st 1 (.s 90) (.s 88))])
def ZAN:PC :=
 (.reg [4,5] [I 91 (.mv (.s 13)),I 4 (.mv (.s 91)),I 5 (.mv (V 0))])
def ZBS:PF:=⟨false,
 (.seq ZGm
 (.seq (.seq ZGn
 (.ite (.s 16)
 (.seq ZGo
 .ret)
 .skip))
 (.seq (.seq ZGp
 (.seq ZGq
 (.ite (.s 20)
 (.seq ZGr
 .ret)
 .skip)))
 (.seq (.seq ZGs
 (.block 0
 (.loop ZFP)))
 (.seq ZFQ
 (.seq (.seq ZFR
 (.ite (.s 72)
 (.seq ZFS
 .ret)
 .skip))
 (.seq ZAK
 (.seq ZAL
 (.seq ZAM
 (.seq ZAN
 .ret)))))))))),
 [.s 4,.s 5]⟩
theorem ZJZ:Zv Proofs.Tryz.prog false ZJY Proofs.Tryz.f44=some ZBS:=by kernel_rfl
def ZfW:List Hint:=[H [0,3,4],H [0,3,4,8],H [4,5],H [0,3,4,12],H [4,5],H [0,3,4,16],H [4,5],H [3,4,6],H [3,4,6,27],H [4,5],H [4,5]]
def ZY6:PC :=
 (.reg [0,3,4] [I 3 (.box (.s 1)),I 4 (.box (.v ZT)),I 5 (.mv (V 0))])
def ZY7:PC :=
 (.reg [0,3,4,8] [I 7 (.mv (.s 0)),I 8 (.eqs false 3 [] (.s 7) (.v .nilptr))])
def ZY8:PC :=
 (.reg [4,5] [I 9 (.build [(.int .u64 0),(.int .i64 0),(.int .i64 0),(.int .i64 0),(.int .i64 0),(.str []),.nils] []),J (.st 7 (.s 4) (.s 9)),I 5 (.mv (V 1))])
def ZY9:PC :=
 (.reg [0,3,4,12] [I 10 (.ld true 5 (.s 3)),I 11 (.build [(.int .u64 0),(.int .i64 0),(.int .i64 0),(.int .i64 0),(.int .i64 0)] []),I 12 (.eqs false 0 [(0,0),(1,0),(2,0),(3,0),(4,0)] (.s 10) (.s 11))])
def ZZA:PC :=
 (.reg [4,5] [I 13 (.build [(.int .u64 0),(.int .i64 0),(.int .i64 0),(.int .i64 0),(.int .i64 0),(.str []),.nils] []),J (.st 7 (.s 4) (.s 13)),I 5 (.mv (V 0))])
def ZZB:PC :=
 (.reg [0,3,4,16] [I 14 (.fadr 0 (.s 3)),I 15 (.ld false 1 (.s 14)),I 16 (.bin .eql (.s 15) (.v (.int .u64 0)))])
def ZZC:PC :=
 (.reg [4,5] [I 17 (.build [(.int .u64 0),(.int .i64 0),(.int .i64 0),(.int .i64 0),(.int .i64 0),(.str []),.nils] []),J (.st 7 (.s 4) (.s 17)),I 5 (.mv (V 2))])
def ZZD:PC :=
 (.reg [3,4,6] [I 18 (.mv (.s 0)),I 19 (.fadr 0 (.s 3)),I 20 (.ld false 1 (.s 19)),I 21 (.fadr 1 (.s 3)),I 22 (.ld false 1 (.s 21)),I 23 (.fadr 2 (.s 3)),I 24 (.ld true 3 (.s 23)),I 25 (C ZDC [(.s 18),(.s 20),(.s 22),(.s 24)]),I 6 (.mv (.s 25))])
def ZZE:PC :=
 (.reg [3,4,6,27] [I 26 (.mv (.s 6)),I 27 (.bin .neq (.s 26) (V 0))])
def ZZF:PC :=
 (.reg [4,5] [I 28 (.build [(.int .u64 0),(.int .i64 0),(.int .i64 0),(.int .i64 0),(.int .i64 0),(.str []),.nils] []),I 29 (.mv (.s 6)),J (.st 7 (.s 4) (.s 28)),I 5 (.mv (.s 29))])
def ZVZ:PC :=
 (.reg [4,5] [I 30 (.fadr 0 (.s 3)),I 31 (.ld false 1 (.s 30)),I 32 (.fadr 1 (.s 3)),I 33 (.ld false 1 (.s 32)),I 34 (.fadr 2 (.s 3)),I 35 (.ld true 3 (.s 34)),I 36 (.build [(.int .u64 0),(.int .i64 0),(.int .i64 0),(.int .i64 0),(.int .i64 0),(.str []),.nils] [(0,1,(.s 31)),(1,1,(.s 33)),(2,3,(.s 35))]),J (.st 7 (.s 4) (.s 36)),I 5 (.mv (V 0))])
def ZQ2:PF:=⟨false,
 (.seq ZY6
 (.seq (.seq ZY7
 (.ite (.s 8)
 (.seq ZY8
 .ret)
 .skip))
 (.seq (.seq ZY9
 (.ite (.s 12)
 (.seq ZZA
 .ret)
 .skip))
 (.seq (.seq ZZB
 (.ite (.s 16)
 (.seq ZZC
 .ret)
 .skip))
 (.seq (.seq ZZD
 (.seq ZZE
 (.ite (.s 27)
 (.seq ZZF
 .ret)
 .skip)))
 (.seq ZVZ
 .ret)))))),
 [.c 4 true 7,.s 5]⟩
theorem ZfX:Zv Proofs.Tryz.prog false ZfW Proofs.Tryz.f46=some ZQ2:=by kernel_rfl
def ZZG:List Hint:=[H [0,4,5,6],H [0,4,5,6,8],H [0,4,5,6,8,16],H [6,7],H [6,9,10],H [6,7]]
def ZRg:PC :=
 (.reg [0,4,5,6] [I 4 (.box (.s 1)),I 5 (.box (.s 2)),I 6 (.box (.v ZT)),I 7 (.mv (V 0))])
def ZRh:PC :=
 (.reg [0,4,5,6,8] [I 11 (.mv (.s 0)),I 12 (.ld true 7 (.s 4)),I 13 (.ld true 7 (.s 5)),I 14 (C ZHX [(.s 11),(.s 12),(.s 13),(.v (.bool true))]),I 8 (.mv (.s 14))])
def ZRi:PC :=
 (.reg [0,4,5,6,8,16] [I 15 (.mv (.s 8)),I 16 (.bin .neq (.s 15) (V 0))])
def ZRj:PC :=
 (.reg [6,7] [I 17 (.build [(.int .u64 0),(.int .i64 0),(.int .i64 0),(.int .i64 0),(.int .i64 0),(.str []),.nils] []),I 18 (.mv (.s 8)),J (.st 7 (.s 6) (.s 17)),I 7 (.mv (.s 18))])
def ZRk:PC :=
 (.reg [6,9,10] [I 20 (.mv (.s 0)),I 21 (.ld true 7 (.s 4)),I 22 (.ld true 7 (.s 5)),I 23 (C YB [(.s 20),(.s 21),(.s 22)]),I 19 (.mv (.s 23)),I 24 (.ext (.s 19) 0),I 25 (.ext (.s 19) 1),I 9 (.box (.v ZT)),J (.st 7 (.s 9) (.s 24)),I 10 (.mv (.s 25))])
def ZRl:PC :=
 (.reg [6,7] [I 26 (.ld true 7 (.s 9)),I 27 (C ZAj [(.s 26)]),I 28 (.mv (.s 10)),J (.st 7 (.s 6) (.s 27)),I 7 (.mv (.s 28))])
def ZJx:PF:=⟨false,
 (.seq ZRg
 (.seq (.seq ZRh
 (.seq ZRi
 (.ite (.s 16)
 (.seq ZRj
 .ret)
 .skip)))
 (.seq ZRk
 (.seq ZRl
 .ret)))),
 [.c 6 true 7,.s 7]⟩
theorem ZZH:Zv Proofs.Tryz.prog false ZZG Proofs.Tryz.f49=some ZJx:=by kernel_rfl
def ZVa:List Hint:=[H [0,2,3,4,6,10],H [0,2,3,4,6,10,12],H [0,2,3,4,6,10,12,24],H [10,11],H [0,2,3,4,6,10,13],H [0,2,3,4,6,10,13,46],H [10,11],H [0,2,3,4,6,10,60],H [10,11],H [0,2,3,4,6,10,67],H [10,11],H [0,3,4,10,14,15,16],H [0,3,4,10,14,15,16,79],H [10,11],H [0,4,10,14,16,18],H [0,4,10,14,16,18,91],H [10,11],H [0,10,14,16,18,19],H [0,10,14,16,18,19,100],H [10,11],H [0,10,14,16,18],H [0,10,14,16,18,111],H [10,11],H [10,14,16],H [10,11]]
def ZOk:PC :=
 (.reg [0,2,3,4,6,10] [I 6 (.box (.s 1)),I 10 (.box (.v ZT)),I 11 (.mv (V 0))])
def ZOl:PC :=
 (.reg [0,2,3,4,6,10,12] [I 20 (.mv (.s 0)),I 21 (.ld true 7 (.s 6)),I 22 (C Jp [(.s 20),(.s 21)]),I 12 (.mv (.s 22))])
def ZOm:PC :=
 (.reg [0,2,3,4,6,10,12,24] [I 23 (.mv (.s 12)),I 24 (.bin .neq (.s 23) (V 0))])
def ZOn:PC :=
 (.reg [10,11] [I 25 (.build [(.int .u64 0),(.int .i64 0),(.int .i64 0),(.int .i64 0),(.int .i64 0),(.str []),.nils] []),I 26 (.mv (.s 12)),J (.st 7 (.s 10) (.s 25)),I 11 (.mv (.s 26))])
def ZOo:PC :=
 (.reg [0,2,3,4,6,10,13] [I 27 (.ld true 7 (.s 6)),I 28 (C Qa [(.s 27)]),I 13 (.mv (.s 28))])
def ZOp:PC :=
 (.reg [0,2,3,4,6,10,13,46] [I 29 (.mv (.s 2)),I 30 (.bin .lss (.s 29) (V 0)),I 31 (.mv (.s 30)),G 32 31 false (.mv (.s 2)),G 33 31 false (.mv (.s 13)),G 34 31 false (.bin .gtr (.s 32) (.s 33)),I 35 (.pick (.s 31) (.v (.bool true)) (.s 34)),I 36 (.mv (.s 35)),G 37 36 false (.mv (.s 3)),G 38 36 false (.bin .lss (.s 37) (V 0)),I 39 (.pick (.s 36) (.v (.bool true)) (.s 38)),I 40 (.mv (.s 39)),G 41 40 false (.mv (.s 3)),G 42 40 false (.mv (.s 13)),G 43 40 false (.mv (.s 2)),G 44 40 false (.bin .sub (.s 42) (.s 43)),G 45 40 false (.bin .gtr (.s 41) (.s 44)),I 46 (.pick (.s 40) (.v (.bool true)) (.s 45))])
def ZOq:PC :=
 (.reg [10,11] [I 47 (.build [(.int .u64 0),(.int .i64 0),(.int .i64 0),(.int .i64 0),(.int .i64 0),(.str []),.nils] []),J (.st 7 (.s 10) (.s 47)),I 11 (.mv (V 3))])
def ZOr:PC :=
 (.reg [0,2,3,4,6,10,60] [I 48 (.mv (.s 13)),I 49 (.mv (.s 3)),I 50 (.bin .sub (.s 48) (.s 49)),I 51 (.mv (.s 4)),I 52 (.len 0 (.s 51)),I 53 (.mnx false (.s 52) (V 65536)),I 54 (.bin .sub (V 65536) (.s 53)),I 55 (.bin .gtr (.s 50) (.s 54)),I 56 (.mv (.s 55)),G 57 56 false (.mv (.s 4)),G 58 56 false (.len 0 (.s 57)),G 59 56 false (.bin .gtr (.s 58) (V 65536)),I 60 (.pick (.s 56) (.v (.bool true)) (.s 59))])
def ZOs:PC :=
 (.reg [10,11] [I 61 (.build [(.int .u64 0),(.int .i64 0),(.int .i64 0),(.int .i64 0),(.int .i64 0),(.str []),.nils] []),J (.st 7 (.s 10) (.s 61)),I 11 (.mv (V 5))])
def ZOt:PC :=
 (.reg [0,2,3,4,6,10,67] [I 62 (.mv (.s 3)),I 63 (.bin .eql (.s 62) (V 0)),I 64 (.mv (.s 63)),G 65 64 true (.mv (.s 4)),G 66 64 true (.bin .eql (.s 65) (.v (.str []))),I 67 (.pick (.s 64) (.s 66) (.v (.bool false)))])
def ZMF:PC :=
 (.reg [10,11] [I 68 (.ld true 7 (.s 6)),I 69 (C ZAj [(.s 68)]),J (.st 7 (.s 10) (.s 69)),I 11 (.mv (V 0))])
def ZMG:PC :=
 (.reg [0,3,4,10,14,15,16] [I 71 (.mv (.s 0)),I 72 (.ld true 7 (.s 6)),I 73 (.mv (.s 2)),I 74 (C ZAk [(.s 71),(.s 72),(.s 73)]),I 70 (.mv (.s 74)),I 75 (.ext (.s 70) 0),I 76 (.ext (.s 70) 1),I 77 (.ext (.s 70) 2),I 14 (.box (.v ZT)),I 15 (.box (.v ZT)),J (.st 7 (.s 14) (.s 75)),J (.st 7 (.s 15) (.s 76)),I 16 (.mv (.s 77))])
def ZMH:PC :=
 (.reg [0,3,4,10,14,15,16,79] [I 78 (.mv (.s 16)),I 79 (.bin .neq (.s 78) (V 0))])
def ZMI:PC :=
 (.reg [10,11] [I 80 (.build [(.int .u64 0),(.int .i64 0),(.int .i64 0),(.int .i64 0),(.int .i64 0),(.str []),.nils] []),I 81 (.mv (.s 16)),J (.st 7 (.s 10) (.s 80)),I 11 (.mv (.s 81))])
def ZMJ:PC :=
 (.reg [0,4,10,14,16,18] [I 83 (.mv (.s 0)),I 84 (.ld true 7 (.s 15)),I 85 (.mv (.s 3)),I 86 (C ZAk [(.s 83),(.s 84),(.s 85)]),I 82 (.mv (.s 86)),I 87 (.ext (.s 82) 0),I 88 (.ext (.s 82) 1),I 89 (.ext (.s 82) 2),I 17 (.box (.v ZT)),I 18 (.box (.v ZT)),J (.st 7 (.s 17) (.s 87)),J (.st 7 (.s 18) (.s 88)),I 16 (.mv (.s 89))])
def ZMK:PC :=
 (.reg [0,4,10,14,16,18,91] [I 90 (.mv (.s 16)),I 91 (.bin .neq (.s 90) (V 0))])
def ZML:PC :=
 (.reg [10,11] [I 92 (.build [(.int .u64 0),(.int .i64 0),(.int .i64 0),(.int .i64 0),(.int .i64 0),(.str []),.nils] []),I 93 (.mv (.s 16)),J (.st 7 (.s 10) (.s 92)),I 11 (.mv (.s 93))])
def ZMM:PC :=
 (.reg [0,10,14,16,18,19] [I 95 (.mv (.s 4)),I 96 (C ZAC [(.s 95)]),I 94 (.mv (.s 96)),I 97 (.ext (.s 94) 0),I 98 (.ext (.s 94) 1),I 19 (.box (.v ZT)),J (.st 7 (.s 19) (.s 97)),I 16 (.mv (.s 98))])
def ZMN:PC :=
 (.reg [0,10,14,16,18,19,100] [I 99 (.mv (.s 16)),I 100 (.bin .neq (.s 99) (V 0))])
def ZMO:PC :=
 (.reg [10,11] [I 101 (.build [(.int .u64 0),(.int .i64 0),(.int .i64 0),(.int .i64 0),(.int .i64 0),(.str []),.nils] []),I 102 (.mv (.s 16)),J (.st 7 (.s 10) (.s 101)),I 11 (.mv (.s 102))])
def ZMP:PC :=
 (.reg [0,10,14,16,18] [I 104 (.mv (.s 0)),I 105 (.ld true 7 (.s 14)),I 106 (.ld true 7 (.s 19)),I 107 (C YB [(.s 104),(.s 105),(.s 106)]),I 103 (.mv (.s 107)),I 108 (.ext (.s 103) 0),I 109 (.ext (.s 103) 1),J (.st 7 (.s 14) (.s 108)),I 16 (.mv (.s 109))])
def ZMQ:PC :=
 (.reg [0,10,14,16,18,111] [I 110 (.mv (.s 16)),I 111 (.bin .neq (.s 110) (V 0))])
def ZMR:PC :=
 (.reg [10,11] [I 112 (.build [(.int .u64 0),(.int .i64 0),(.int .i64 0),(.int .i64 0),(.int .i64 0),(.str []),.nils] []),I 113 (.mv (.s 16)),J (.st 7 (.s 10) (.s 112)),I 11 (.mv (.s 113))])
def ZMS:PC :=
 (.reg [10,14,16] [I 115 (.mv (.s 0)),I 116 (.ld true 7 (.s 14)),I 117 (.ld true 7 (.s 18)),I 118 (C YB [(.s 115),(.s 116),(.s 117)]),I 114 (.mv (.s 118)),I 119 (.ext (.s 114) 0),I 120 (.ext (.s 114) 1),J (.st 7 (.s 14) (.s 119)),I 16 (.mv (.s 120))])
def ZMT:PC :=
 (.reg [10,11] [I 121 (.ld true 7 (.s 14)),I 122 (C ZAj [(.s 121)]),I 123 (.mv (.s 16)),J (.st 7 (.s 10) (.s 122)),I 11 (.mv (.s 123))])
def ZHz:PF:=⟨false,
 (.seq ZOk
 (.seq (.seq ZOl
 (.seq ZOm
 (.ite (.s 24)
 (.seq ZOn
 .ret)
 .skip)))
 (.seq ZOo
 (.seq (.seq ZOp
 (.ite (.s 46)
 (.seq ZOq
 .ret)
 .skip))
 (.seq (.seq ZOr
 (.ite (.s 60)
 (.seq ZOs
 .ret)
 .skip))
 (.seq (.seq ZOt
 (.ite (.s 67)
 (.seq ZMF
 .ret)
 .skip))
 (.seq ZMG
 (.seq (.seq ZMH
 (.ite (.s 79)
 (.seq ZMI
 .ret)
 .skip))
 (.seq ZMJ
 (.seq (.seq ZMK
 (.ite (.s 91)
 (.seq ZML
 .ret)
 .skip))
 (.seq ZMM
 (.seq (.seq ZMN
 (.ite (.s 100)
 (.seq ZMO
 .ret)
 .skip))
 (.seq (.seq ZMP
 (.seq ZMQ
 (.ite (.s 111)
 (.seq ZMR
 .ret)
 .skip)))
 (.seq ZMS
 (.seq ZMT
 .ret))))))))))))))),
 [.c 10 true 7,.s 11]⟩
theorem ZVb:Zv Proofs.Tryz.prog false ZVa Proofs.Tryz.f51=some ZHz:=by kernel_rfl
def ZMU:List Hint:=[H [0,1,4],H [0,1,4,9],H [4,5],H [0,4,6,7],H [0,4,6,21],H [4],H [4,5],H [4,6],H [4,5]]
def ZJa:PC :=
 (.reg [0,1,4] [I 4 (.box (.v ZN)),I 5 (.mv (V 0))])
def ZJb:PC :=
 (.reg [0,1,4,9] [I 8 (.mv (.s 0)),I 9 (.eqs false 3 [] (.s 8) (.v .nilptr))])
def ZJc:PC :=
 (.reg [4,5] [I 10 (.build [(.int .i64 0),(.str []),.nils] []),J (.st 3 (.s 4) (.s 10)),I 5 (.mv (V 1))])
def ZJd:PC :=
 (.reg [0,4,6,7] [I 12 (.mv (.s 0)),I 13 (.nilck (.s 12)),I 14 (.fadr 2 (.s 13)),I 15 (.ld false 1 (.s 14)),I 16 (.mv (.s 1)),I 17 (.look 0 ZN true (.s 15) (.s 16)),I 11 (.mv (.s 17)),I 18 (.ext (.s 11) 0),I 19 (.ext (.s 11) 1),I 6 (.box (.v ZN)),J (.st 3 (.s 6) (.s 18)),I 7 (.mv (.s 19))])
def ZJe:PC :=
 (.reg [0,4,6,21] [I 20 (.mv (.s 7)),I 21 (.un .not (.s 20))])
def ZJf:PC :=
 (.reg [4] [I 22 (.mv (.s 0)),I 23 (.nilck (.s 22)),I 24 (.fadr 5 (.s 23)),I 25 (.ld false 1 (.s 24)),I 26 (.bin .add (.s 25) (V 1)),I 27 (.nilck (.s 22)),I 28 (.fadr 5 (.s 27)),J (.st 1 (.s 28) (.s 26))])
def ZJg:PC :=
 (.reg [4,5] [I 29 (.build [(.int .i64 0),(.str []),.nils] []),J (.st 3 (.s 4) (.s 29)),I 5 (.mv (V 10))])
def ZJh:PC :=
 (.reg [4,6] [I 30 (.fadr 2 (.s 6)),I 31 (.ld false 1 (.s 30)),I 32 (C QA [(.s 31)]),I 33 (.fadr 2 (.s 6)),J (.st 1 (.s 33) (.s 32))])
def ZJi:PC :=
 (.reg [4,5] [I 34 (.ld true 3 (.s 6)),J (.st 3 (.s 4) (.s 34)),I 5 (.mv (V 0))])
def ZDF:PF:=⟨false,
 (.seq ZJa
 (.seq (.seq ZJb
 (.ite (.s 9)
 (.seq ZJc
 .ret)
 .skip))
 (.seq ZJd
 (.seq (.seq ZJe
 (.ite (.s 21)
 (.seq ZJf
 (.seq ZJg
 .ret))
 .skip))
 (.seq ZJh
 (.seq ZJi
 .ret)))))),
 [.c 4 true 3,.s 5]⟩
theorem ZMV:Zv Proofs.Tryz.prog false ZMU Proofs.Tryz.f53=some ZDF:=by kernel_rfl
def ZZI:List Hint:=[H [1,2,3,4],H [1,2,3,4,16],H [2,3,4],H [3,4],H [3,26,27,28],H [3,26,27,28,29],H [3,6,26,27,28],H [3,26,27,28],H [3,26,27,28]]
def ZRm:PC :=
 (.reg [1,2,3,4] [I 4 (.box (.s 0))])
def ZRn:PC :=
 (.reg [1,2,3,4,16] [I 7 (.fadr 0 (.s 4)),I 8 (.ld false 1 (.s 7)),I 9 (.bin .neq (.s 8) (.v (.int .u64 0))),I 10 (.mv (.s 9)),G 11 10 true (.ld false 1 (.s 1)),G 12 10 true (.fadr 0 (.s 4)),G 13 10 true (.ld false 1 (.s 12)),G 14 10 true (.look 0 (.bool false) false (.s 11) (.s 13)),G 15 10 true (.un .not (.s 14)),I 16 (.pick (.s 10) (.s 15) (.v (.bool false)))])
def ZRo:PC :=
 (.reg [2,3,4] [I 17 (.ld false 1 (.s 1)),I 18 (.fadr 0 (.s 4)),I 19 (.ld false 1 (.s 18)),J (.mupd 0 (.s 17) (.s 19) (.v (.bool true)))])
def ZRp:PC :=
 (.reg [3,4] [I 20 (.ld false 1 (.s 2)),I 21 (.fadr 0 (.s 4)),I 22 (.ld false 1 (.s 21)),I 23 (.bslice false 1 [(.int .u64 0)] [(0,(.s 22))]),I 24 (.app 1 8 (.s 20) (.s 23)),J (.st 1 (.s 2) (.s 24))])
def ZGE:PC :=
 (.reg [3,26,27,28] [I 25 (.fadr 6 (.s 4)),I 26 (.ld false 1 (.s 25)),I 27 (.len 1 (.s 26)),I 28 (.mv (V 0))])
def ZRq:PC :=
 (.reg [3,26,27,28,29] [I 29 (.bin .lss (.s 28) (.s 27))])
def ZRr:PC :=
 (.reg [3,6,26,27,28] [I 30 (.ixS 7 (.s 26) (.s 28)),I 31 (.ld true 7 (.s 30)),I 6 (.box (.v ZT)),J (.st 7 (.s 6) (.s 31))])
def ZRs:PC :=
 (.reg [3,26,27,28] [I 32 (.ld false 1 (.s 3)),I 33 (.ld true 7 (.s 6)),I 34 (.call .norm (.s 32) [(.s 33)])])
def ZRt:PC :=
 (.reg [3,26,27,28] [I 35 (.bin .add (.s 28) (V 1)),I 28 (.mv (.s 35))])
def ZBP:PC :=
 (.seq ZRq
 (.seq (.ite (.s 29)
 .skip
 (.exit 0))
 (.seq (.block 1
 (.seq ZRr
 ZRs))
 ZRt)))
def ZJy:PF:=⟨false,
 (.seq ZRm
 (.seq (.seq ZRn
 (.ite (.s 16)
 (.seq ZRo
 ZRp)
 .skip))
 (.seq ZGE
 (.block 0
 (.loop ZBP))))),
 []⟩
theorem ZZJ:Zv Proofs.Tryz.prog false ZZI Proofs.Tryz.f54=some ZJy:=by kernel_rfl
def ZKb:List Hint:=[H [0],⟨[0,3],[0],[],[],[],[]⟩,H [0,3,4],H [0,3,4,8],H [0,3,4,17],H [0,3,4],H [0,3,4],H [2]]
def ZH0:PC :=
 (.reg [0] [I 2 (.mv (.v .nils))])
def ZH1:PC :=
 (.reg [0,3] [I 3 (.onil 1)])
def ZH2:PC :=
 (.reg [0,3,4] [I 4 (.mv (V 0))])
def ZH3:PC :=
 (.reg [0,3,4,8] [I 5 (.mv (.s 4)),I 6 (.mv (.s 0)),I 7 (.len 1 (.s 6)),I 8 (.bin .lss (.s 5) (.s 7))])
def ZH4:PC :=
 (.reg [0,3,4,17] [I 11 (.mv (.s 3)),I 12 (.mv (.s 0)),I 13 (.mv (.s 4)),I 14 (.ixS 1 (.s 12) (.s 13)),I 15 (.ld false 1 (.s 14)),I 16 (C QS [(.s 11),(.s 15)]),I 17 (.un .not (.s 16))])
def ZH5:PC :=
 (.reg [0,3,4] [I 18 (.mv (.s 3)),I 19 (.mv (.s 0)),I 20 (.mv (.s 4)),I 21 (.ixS 1 (.s 19) (.s 20)),I 22 (.ld false 1 (.s 21)),I 23 (.bslice false 1 [(.int .u64 0)] [(0,(.s 22))]),I 24 (.app 1 8 (.s 18) (.s 23)),I 3 (.mv (.s 24))])
def ZH6:PC :=
 (.reg [0,3,4] [I 9 (.mv (.s 4)),I 10 (.bin .add (.s 9) (V 1)),I 4 (.mv (.s 10))])
def ZH7:PC :=
 (.seq (.seq ZH3
 (.ite (.s 8)
 .skip
 (.exit 0)))
 (.seq (.block 1
 (.seq ZH4
 (.ite (.s 17)
 ZH5
 .skip)))
 ZH6))
def ZH8:PC :=
 (.reg [2] [I 25 (.mv (.s 3)),I 2 (.mv (.s 25))])
def ZCd:PF:=⟨false,
 (.seq ZH0
 (.seq ZH1
 (.seq (.seq ZH2
 (.block 0
 (.loop ZH7)))
 (.seq ZH8
 .ret)))),
 [.s 2]⟩
theorem ZKc:Zv Proofs.Tryz.prog false ZKb Proofs.Tryz.f56=some ZCd:=by kernel_rfl
def Zc2:List Hint:=[H [0,3],H [0,3,7],H [4],H [0,3,10],H [4],H [3,5],H [3,5,15],H [4],H [19],H [4],H [4]]
def ZVc:PC :=
 (.reg [0,3] [I 3 (.box (.s 1)),I 4 (.mv (V 0))])
def ZVd:PC :=
 (.reg [0,3,7] [I 6 (.mv (.s 0)),I 7 (.eqs false 3 [] (.s 6) (.v .nilptr))])
def ZVe:PC :=
 (.reg [4] [I 4 (.mv (V 1))])
def ZVf:PC :=
 (.reg [0,3,10] [I 8 (.ld true 7 (.s 3)),I 9 (C QY [(.s 8)]),I 10 (.bin .eql (.s 9) (V 1))])
def ZVg:PC :=
 (.reg [4] [I 4 (.mv (V 0))])
def ZVh:PC :=
 (.reg [3,5] [I 11 (.mv (.s 0)),I 12 (.ld true 7 (.s 3)),I 13 (C ZBc [(.s 11),(.s 12),(.v (.bool false)),(V 0)]),I 5 (.mv (.s 13))])
def ZVi:PC :=
 (.reg [3,5,15] [I 14 (.mv (.s 5)),I 15 (.bin .neq (.s 14) (V 0))])
def ZVj:PC :=
 (.reg [4] [I 16 (.mv (.s 5)),I 4 (.mv (.s 16))])
def ZVk:PC :=
 (.reg [19] [I 17 (.ld true 7 (.s 3)),I 18 (C Qa [(.s 17)]),I 19 (.bin .gtr (.s 18) (V 65536))])
def ZVl:PC :=
 (.reg [4] [I 4 (.mv (V 5))])
def ZRu:PC :=
 (.reg [4] [I 4 (.mv (V 0))])
def ZMW:PF:=⟨false,
 (.seq ZVc
 (.seq (.seq ZVd
 (.ite (.s 7)
 (.seq ZVe
 .ret)
 .skip))
 (.seq (.seq ZVf
 (.ite (.s 10)
 (.seq ZVg
 .ret)
 .skip))
 (.seq (.seq ZVh
 (.seq ZVi
 (.ite (.s 15)
 (.seq ZVj
 .ret)
 .skip)))
 (.seq (.seq ZVk
 (.ite (.s 19)
 (.seq ZVl
 .ret)
 .skip))
 (.seq ZRu
 .ret)))))),
 [.s 4]⟩
theorem Zc3:Zv Proofs.Tryz.prog false Zc2 Proofs.Tryz.f57=some ZMW:=by kernel_rfl
def Zc4:List Hint:=[H [0,1,2,3],H [0,1,2,3,16],H [8],H [0,1,2,3],H [0,1,2,3,9,10],H [0,1,2,3,9,10,26],H [8],H [0,2,3,9],H [0,2,3,32,33,34],H [0,2,3,32,33,34,35],H [0,2,3,12,32,33,34],H [0,2,3,13,32,33,34],H [0,2,3,13,32,33,34,45],H [8],H [0,2,3,32,33,34],H [8]]
def ZVm:PC :=
 (.reg [0,1,2,3] [I 8 (.mv (V 0))])
def ZVn:PC :=
 (.reg [0,1,2,3,16] [I 14 (.mv (.s 2)),I 15 (.mv (.s 1)),I 16 (.look 0 (.bool false) false (.s 14) (.s 15))])
def ZVo:PC :=
 (.reg [8] [I 8 (.mv (V 0))])
def ZVp:PC :=
 (.reg [0,1,2,3] [I 17 (.mv (.s 2)),I 18 (.mv (.s 1)),J (.mupd 0 (.s 17) (.s 18) (.v (.bool true)))])
def ZVq:PC :=
 (.reg [0,1,2,3,9,10] [I 20 (.mv (.s 0)),I 21 (.mv (.s 1)),I 22 (C Qq [(.s 20),(.s 21)]),I 19 (.mv (.s 22)),I 23 (.ext (.s 19) 0),I 24 (.ext (.s 19) 1),I 9 (.box (.v ZN)),J (.st 3 (.s 9) (.s 23)),I 10 (.mv (.s 24))])
def ZVr:PC :=
 (.reg [0,1,2,3,9,10,26] [I 25 (.mv (.s 10)),I 26 (.bin .neq (.s 25) (V 0))])
def ZVs:PC :=
 (.reg [8] [I 27 (.mv (.s 10)),I 8 (.mv (.s 27))])
def ZVt:PC :=
 (.reg [0,2,3,9] [I 28 (.mv (.s 3)),I 29 (.mv (.s 1)),I 30 (.call .norm (.s 28) [(.s 29)])])
def ZVu:PC :=
 (.reg [0,2,3,32,33,34] [I 31 (.fadr 2 (.s 9)),I 32 (.ld false 1 (.s 31)),I 33 (.len 1 (.s 32)),I 34 (.mv (V 0))])
def ZVv:PC :=
 (.reg [0,2,3,32,33,34,35] [I 35 (.bin .lss (.s 34) (.s 33))])
def ZRv:PC :=
 (.reg [0,2,3,12,32,33,34] [I 36 (.ixS 4 (.s 32) (.s 34)),I 37 (.ld true 4 (.s 36)),I 12 (.box (.v ZK)),J (.st 4 (.s 12) (.s 37))])
def ZRw:PC :=
 (.reg [0,2,3,13,32,33,34] [I 38 (.mv (.s 0)),I 39 (.fadr 0 (.s 12)),I 40 (.ld false 1 (.s 39)),I 41 (.mv (.s 2)),I 42 (.mv (.s 3)),I 43 (C JW [(.s 38),(.s 40),(.s 41),(.s 42)]),I 13 (.mv (.s 43))])
def ZRx:PC :=
 (.reg [0,2,3,13,32,33,34,45] [I 44 (.mv (.s 13)),I 45 (.bin .neq (.s 44) (V 0))])
def ZRy:PC :=
 (.reg [8] [I 46 (.mv (.s 13)),I 8 (.mv (.s 46))])
def ZRz:PC :=
 (.reg [0,2,3,32,33,34] [I 47 (.bin .add (.s 34) (V 1)),I 34 (.mv (.s 47))])
def ZR0:PC :=
 (.seq ZVv
 (.seq (.ite (.s 35)
 .skip
 (.exit 0))
 (.seq (.block 1
 (.seq ZRv
 (.seq ZRw
 (.seq ZRx
 (.ite (.s 45)
 (.seq ZRy
 .ret)
 .skip)))))
 ZRz)))
def ZR1:PC :=
 (.reg [8] [I 8 (.mv (V 0))])
def ZMX:PF:=⟨false,
 (.seq ZVm
 (.seq (.seq ZVn
 (.ite (.s 16)
 (.seq ZVo
 .ret)
 .skip))
 (.seq ZVp
 (.seq ZVq
 (.seq (.seq ZVr
 (.ite (.s 26)
 (.seq ZVs
 .ret)
 .skip))
 (.seq ZVt
 (.seq (.seq ZVu
 (.block 0
 (.loop ZR0)))
 (.seq ZR1
 .ret)))))))),
 [.s 8]⟩
theorem Zc5:Zv Proofs.Tryz.prog false Zc4 Proofs.Tryz.f58=some ZMX:=by kernel_rfl
def ZOu:List Hint:=[]
def ZEI:PF:=⟨false,
 .skip,
 []⟩
theorem ZOv:Zv Proofs.Tryz.prog false ZOu Proofs.Tryz.f59=some ZEI:=by kernel_rfl
def ZOw:List Hint:=[H [0,2,7],H []]
def ZKd:PC :=
 (.reg [0,2,7] [I 4 (.ld false 1 (.s 1)),I 5 (.mv (.s 0)),I 6 (.look 0 (.bool false) false (.s 4) (.s 5)),I 7 (.un .not (.s 6))])
def ZKe:PC :=
 (.reg [] [I 8 (.ld false 1 (.s 2)),I 9 (.mv (.s 0)),I 10 (.bslice false 1 [(.int .u64 0)] [(0,(.s 9))]),I 11 (.app 1 8 (.s 8) (.s 10)),J (.st 1 (.s 2) (.s 11))])
def ZEJ:PF:=⟨false,
 (.seq ZKd
 (.ite (.s 7)
 ZKe
 .skip)),
 []⟩
theorem ZOx:Zv Proofs.Tryz.prog false ZOw Proofs.Tryz.f60=some ZEJ:=by kernel_rfl
def ZKf:List Hint:=[H [0],H [0,3],H [0,3,11],H [0,3,20],H [2],H [0,3],H [2]]
def ZH9:PC :=
 (.reg [0] [I 2 (.mv (.v (.bool false)))])
def ZIA:PC :=
 (.reg [0,3] [I 3 (.mv (V 0))])
def ZIB:PC :=
 (.reg [0,3,11] [I 4 (.mv (.s 3)),I 5 (.mv (.s 0)),I 6 (.len 1 (.s 5)),I 7 (.bin .lss (.s 4) (.s 6)),I 8 (.mv (.s 7)),G 9 8 true (.mv (.s 3)),G 10 8 true (.bin .lss (.s 9) (V 100)),I 11 (.pick (.s 8) (.s 10) (.v (.bool false)))])
def ZIC:PC :=
 (.reg [0,3,20] [I 14 (.mv (.s 0)),I 15 (.mv (.s 3)),I 16 (.ixS 5 (.s 14) (.s 15)),I 17 (.fadr 4 (.s 16)),I 18 (.ld false 1 (.s 17)),I 19 (.len 0 (.s 18)),I 20 (.bin .gtr (.s 19) (V 200))])
def ZID:PC :=
 (.reg [2] [I 2 (.mv (.v (.bool true)))])
def ZIE:PC :=
 (.reg [0,3] [I 12 (.mv (.s 3)),I 13 (.bin .add (.s 12) (V 1)),I 3 (.mv (.s 13))])
def ZIF:PC :=
 (.seq (.seq ZIB
 (.ite (.s 11)
 .skip
 (.exit 0)))
 (.seq (.block 1
 (.seq ZIC
 (.ite (.s 20)
 (.seq ZID
 .ret)
 .skip)))
 ZIE))
def ZIG:PC :=
 (.reg [2] [I 21 (.mv (.s 0)),I 22 (.len 1 (.s 21)),I 23 (.bin .gtr (.s 22) (V 60)),I 2 (.mv (.s 23))])
def ZCe:PF:=⟨false,
 (.seq ZH9
 (.seq (.seq ZIA
 (.block 0
 (.loop ZIF)))
 (.seq ZIG
 .ret))),
 [.s 2]⟩
theorem ZKg:Zv Proofs.Tryz.prog false ZKf Proofs.Tryz.f61=some ZCe:=by kernel_rfl
def ZKh:List Hint:=[H [0],H [0,5,6],H [0,5,20],H [2,3,4],⟨[0,5,7],[0],[],[],[],[]⟩,H [0,5,7,8],H [0,5,7,8,24],H [0,5,7,8,9,10],H [0,5,7,8,9,37],H [2,3,4],H [0,5,7,8],H [0,5,7,8],H [2,3,4]]
def ZIH:PC :=
 (.reg [0] [I 2 (.mv (.v .nilptr)),I 3 (.mv (.v .nils)),I 4 (.mv (.v (.bool false)))])
def ZII:PC :=
 (.reg [0,5,6] [I 12 (C ZDB [(V 1500),(.v (.int .u64 3))]),I 11 (.mv (.s 12)),I 13 (.ext (.s 11) 0),I 14 (.ext (.s 11) 1),I 5 (.mv (.s 13)),I 6 (.mv (.s 14))])
def ZIJ:PC :=
 (.reg [0,5,20] [I 15 (.mv (.s 5)),I 16 (.eqs false 3 [] (.s 15) (.v .nilptr)),I 17 (.mv (.s 16)),G 18 17 false (.mv (.s 6)),G 19 17 false (.bin .neq (.s 18) (V 0)),I 20 (.pick (.s 17) (.v (.bool true)) (.s 19))])
def ZIK:PC :=
 (.reg [2,3,4] [I 2 (.mv (.v .nilptr)),I 3 (.mv (.v .nils)),I 4 (.mv (.v (.bool false)))])
def ZIL:PC :=
 (.reg [0,5,7] [I 7 (.onil 5)])
def ZIM:PC :=
 (.reg [0,5,7,8] [I 8 (.mv (V 0))])
def ZIN:PC :=
 (.reg [0,5,7,8,24] [I 21 (.mv (.s 8)),I 22 (.mv (.s 0)),I 23 (.len 1 (.s 22)),I 24 (.bin .lss (.s 21) (.s 23))])
def ZIO:PC :=
 (.reg [0,5,7,8,9,10] [I 28 (.mv (.s 5)),I 29 (.mv (.s 0)),I 30 (.mv (.s 8)),I 31 (.ixS 1 (.s 29) (.s 30)),I 32 (.ld false 1 (.s 31)),I 33 (C ZCB [(.s 28),(.s 32)]),I 27 (.mv (.s 33)),I 34 (.ext (.s 27) 0),I 35 (.ext (.s 27) 1),I 9 (.box (.v ZR)),J (.st 5 (.s 9) (.s 34)),I 10 (.mv (.s 35))])
def ZIP:PC :=
 (.reg [0,5,7,8,9,37] [I 36 (.mv (.s 10)),I 37 (.bin .neq (.s 36) (V 0))])
def ZIQ:PC :=
 (.reg [2,3,4] [I 2 (.mv (.v .nilptr)),I 3 (.mv (.v .nils)),I 4 (.mv (.v (.bool false)))])
def ZGw:PC :=
 (.reg [0,5,7,8] [I 38 (.mv (.s 7)),I 39 (.ld true 5 (.s 9)),I 40 (.bslice false 5 [ZR] [(0,(.s 39))]),I 41 (.app 5 40 (.s 38) (.s 40)),I 7 (.mv (.s 41))])
def ZGx:PC :=
 (.reg [0,5,7,8] [I 25 (.mv (.s 8)),I 26 (.bin .add (.s 25) (V 1)),I 8 (.mv (.s 26))])
def ZGy:PC :=
 (.seq (.seq ZIN
 (.ite (.s 24)
 .skip
 (.exit 0)))
 (.seq (.block 1
 (.seq ZIO
 (.seq (.seq ZIP
 (.ite (.s 37)
 (.seq ZIQ
 .ret)
 .skip))
 ZGw)))
 ZGx))
def ZGz:PC :=
 (.reg [2,3,4] [I 42 (.mv (.s 5)),I 43 (.mv (.s 7)),I 2 (.mv (.s 42)),I 3 (.mv (.s 43)),I 4 (.mv (.v (.bool true)))])
def ZCf:PF:=⟨true,
 (.seq ZIH
 (.seq ZII
 (.seq (.seq ZIJ
 (.ite (.s 20)
 (.seq ZIK
 .ret)
 .skip))
 (.seq ZIL
 (.seq (.seq ZIM
 (.block 0
 (.loop ZGy)))
 (.seq ZGz
 .ret)))))),
 [.s 2,.s 3,.s 4]⟩
theorem ZKi:Zv Proofs.Tryz.prog true ZKh Proofs.Tryz.f63=some ZCf:=by kernel_rfl
def ZJj:List Hint:=[H [0,1,2],⟨[0,1,2,8],[0],[],[],[],[]⟩,H [0,1,2,8,9],H [0,1,2,8,9,19],H [0,1,2,8,9,24],H [0,1,2,8,9,10,11],H [0,1,2,8,9,10,35],H [6,7],H [0,1,2,8,9],H [0,1,2,8,9,12],H [0,1,2,8,9,12,13,14],H [0,1,2,8,9,12,13,59],H [6,7],H [0,1,2,8,9,12,13,15],⟨[0,1,2,8,9,13,14],[],[(13,.pure)],[],[],[]⟩,H [0,1,2,8,9,13,93],H [6,7],H [0,1,2,8,9],H [0,1,2,8,9],H [6,7]]
def ZG0:PC :=
 (.reg [0,1,2] [I 6 (.mv (.v .nils)),I 7 (.mv (.v (.bool false)))])
def ZG1:PC :=
 (.reg [0,1,2,8] [I 8 (.onil 7)])
def ZG2:PC :=
 (.reg [0,1,2,8,9] [I 9 (.mv (V 0))])
def ZG3:PC :=
 (.reg [0,1,2,8,9,19] [I 16 (.mv (.s 9)),I 17 (.mv (.s 2)),I 18 (.len 1 (.s 17)),I 19 (.bin .lss (.s 16) (.s 18))])
def ZG4:PC :=
 (.reg [0,1,2,8,9,24] [I 22 (.mv (.s 1)),I 23 (.len 1 (.s 22)),I 24 (.bin .eql (.s 23) (V 0))])
def ZG5:PC :=
 (.reg [0,1,2,8,9,10,11] [I 26 (.mv (.s 2)),I 27 (.mv (.s 9)),I 28 (.ixS 5 (.s 26) (.s 27)),I 29 (.fadr 4 (.s 28)),I 30 (.ld false 1 (.s 29)),I 31 (C ZAC [(.s 30)]),I 25 (.mv (.s 31)),I 32 (.ext (.s 25) 0),I 33 (.ext (.s 25) 1),I 10 (.box (.v ZT)),J (.st 7 (.s 10) (.s 32)),I 11 (.mv (.s 33))])
def ZG6:PC :=
 (.reg [0,1,2,8,9,10,35] [I 34 (.mv (.s 11)),I 35 (.bin .neq (.s 34) (V 0))])
def ZG7:PC :=
 (.reg [6,7] [I 6 (.mv (.v .nils)),I 7 (.mv (.v (.bool false)))])
def ZG8:PC :=
 (.reg [0,1,2,8,9] [I 36 (.mv (.s 8)),I 37 (.ld true 7 (.s 10)),I 38 (.bslice false 7 [ZT] [(0,(.s 37))]),I 39 (.app 7 80 (.s 36) (.s 38)),I 8 (.mv (.s 39))])
def ZG9:PC :=
 (.reg [0,1,2,8,9,12] [I 40 (.mv (.s 1)),I 41 (.mv (.s 2)),I 42 (.mv (.s 9)),I 43 (.ixS 5 (.s 41) (.s 42)),I 44 (.fadr 1 (.s 43)),I 45 (.ld false 1 (.s 44)),I 46 (.mv (.s 1)),I 47 (.len 1 (.s 46)),I 48 (.bin .sub (.s 47) (V 1)),I 49 (C JR [(.s 45),(.s 48)]),I 50 (.ixS 5 (.s 40) (.s 49)),I 51 (.ld true 5 (.s 50)),I 12 (.box (.v ZR)),J (.st 5 (.s 12) (.s 51))])
def ZFT:PC :=
 (.reg [0,1,2,8,9,12,13,14] [I 53 (.mv (.s 0)),I 54 (.ld true 5 (.s 12)),I 55 (C Jr [(.s 53),(.s 54)]),I 52 (.mv (.s 55)),I 56 (.ext (.s 52) 0),I 57 (.ext (.s 52) 1),I 13 (.box (.v ZT)),J (.st 7 (.s 13) (.s 56)),I 14 (.mv (.s 57))])
def ZFU:PC :=
 (.reg [0,1,2,8,9,12,13,59] [I 58 (.mv (.s 14)),I 59 (.bin .neq (.s 58) (V 0))])
def ZFV:PC :=
 (.reg [6,7] [I 6 (.mv (.v .nils)),I 7 (.mv (.v (.bool false)))])
def ZFW:PC :=
 (.reg [0,1,2,8,9,12,13,15] [I 60 (.mv (.s 2)),I 61 (.mv (.s 9)),I 62 (.ixS 5 (.s 60) (.s 61)),I 63 (.fadr 2 (.s 62)),I 64 (.ld false 1 (.s 63)),I 65 (.fadr 2 (.s 12)),I 66 (.fadr 0 (.s 65)),I 67 (.ld false 1 (.s 66)),I 68 (C JR [(.s 64),(.s 67)]),I 15 (.mv (.s 68))])
def ZFX:PC :=
 (.reg [0,1,2,8,9,13,14] [I 70 (.mv (.s 0)),I 71 (.ld true 7 (.s 13)),I 72 (.mv (.s 15)),I 73 (.mv (.s 2)),I 74 (.mv (.s 9)),I 75 (.ixS 5 (.s 73) (.s 74)),I 76 (.fadr 3 (.s 75)),I 77 (.ld false 1 (.s 76)),I 78 (.fadr 2 (.s 12)),I 79 (.fadr 0 (.s 78)),I 80 (.ld false 1 (.s 79)),I 81 (.mv (.s 15)),I 82 (.bin .sub (.s 80) (.s 81)),I 83 (.call .pure (.v (.func (.func JR) [] [])) [(.s 77),(.s 82)]),I 84 (.mv (.s 2)),I 85 (.mv (.s 9)),I 86 (.ixS 5 (.s 84) (.s 85)),I 87 (.fadr 4 (.s 86)),I 88 (.ld false 1 (.s 87)),I 89 (C ZAD [(.s 70),(.s 71),(.s 72),(.s 83),(.s 88)]),I 69 (.mv (.s 89)),I 90 (.ext (.s 69) 0),I 91 (.ext (.s 69) 1),J (.st 7 (.s 13) (.s 90)),I 14 (.mv (.s 91))])
def ZFY:PC :=
 (.reg [0,1,2,8,9,13,93] [I 92 (.mv (.s 14)),I 93 (.bin .neq (.s 92) (V 0))])
def ZFZ:PC :=
 (.reg [6,7] [I 6 (.mv (.v .nils)),I 7 (.mv (.v (.bool false)))])
def ZFa:PC :=
 (.reg [0,1,2,8,9] [I 94 (.mv (.s 8)),I 95 (.ld true 7 (.s 13)),I 96 (.bslice false 7 [ZT] [(0,(.s 95))]),I 97 (.app 7 80 (.s 94) (.s 96)),I 8 (.mv (.s 97))])
def ZFb:PC :=
 (.reg [0,1,2,8,9] [I 20 (.mv (.s 9)),I 21 (.bin .add (.s 20) (V 1)),I 9 (.mv (.s 21))])
def ZFc:PC :=
 (.seq (.seq ZG3
 (.ite (.s 19)
 .skip
 (.exit 0)))
 (.seq (.block 1
 (.seq (.seq ZG4
 (.ite (.s 24)
 (.seq ZG5
 (.seq (.seq ZG6
 (.ite (.s 35)
 (.seq ZG7
 .ret)
 .skip))
 (.seq ZG8
 (.exit 1))))
 .skip))
 (.seq ZG9
 (.seq ZFT
 (.seq (.seq ZFU
 (.ite (.s 59)
 (.seq ZFV
 .ret)
 .skip))
 (.seq ZFW
 (.seq ZFX
 (.seq (.seq ZFY
 (.ite (.s 93)
 (.seq ZFZ
 .ret)
 .skip))
 ZFa))))))))
 ZFb))
def ZFd:PC :=
 (.reg [6,7] [I 98 (.mv (.s 8)),I 6 (.mv (.s 98)),I 7 (.mv (.v (.bool true)))])
def ZBT:PF:=⟨false,
 (.seq ZG0
 (.seq ZG1
 (.seq (.seq ZG2
 (.block 0
 (.loop ZFc)))
 (.seq ZFd
 .ret)))),
 [.s 6,.s 7]⟩
theorem ZJk:Zv Proofs.Tryz.prog false ZJj Proofs.Tryz.f64=some ZBT:=by kernel_rfl
def ZfY:List Hint:=[H [2,3],H [2,3,6],H [2,3,6,14],H [4,5],⟨[2,3,7],[0],[],[],[],[]⟩,H [2,3,7,8],H [3,7,8],H [3,7,8,19],H [4,5],H [7,9],H [7,9,24],H [4,5],H [4,5]]
def ZZK:PC :=
 (.reg [2,3] [I 2 (.box (.s 0)),I 3 (.box (.s 1)),I 4 (.mv (.v (.str []))),I 5 (.mv (V 0))])
def ZZL:PC :=
 (.reg [2,3,6] [I 10 (.ld false 1 (.s 2)),I 11 (.ld true 7 (.s 3)),I 12 (C Jp [(.s 10),(.s 11)]),I 6 (.mv (.s 12))])
def ZZM:PC :=
 (.reg [2,3,6,14] [I 13 (.mv (.s 6)),I 14 (.bin .neq (.s 13) (V 0))])
def ZZN:PC :=
 (.reg [4,5] [I 15 (.mv (.s 6)),I 4 (.mv (.v (.str []))),I 5 (.mv (.s 15))])
def ZZO:PC :=
 (.reg [2,3,7] [I 7 (.boxnil 1)])
def ZZP:PC :=
 (.reg [2,3,7,8] [I 8 (.box (.v .nilfunc))])
def ZZQ:PC :=
 (.reg [3,7,8] [I 16 (.mkf (.func Yp) [] [(.s 2),(.s 7),(.s 8)]),J (.st 1 (.s 8) (.s 16))])
def ZZR:PC :=
 (.reg [3,7,8,19] [I 17 (.ld true 7 (.s 3)),I 18 (C QY [(.s 17)]),I 19 (.bin .eql (.s 18) (V 1))])
def ZZS:PC :=
 (.reg [4,5] [I 4 (.mv (.v (.str []))),I 5 (.mv (V 0))])
def ZZT:PC :=
 (.reg [7,9] [I 20 (.ld false 1 (.s 8)),I 21 (.ld true 7 (.s 3)),I 22 (.call .norm (.s 20) [(.s 21)]),I 9 (.mv (.s 22))])
def ZVw:PC :=
 (.reg [7,9,24] [I 23 (.mv (.s 9)),I 24 (.bin .neq (.s 23) (V 0))])
def ZVx:PC :=
 (.reg [4,5] [I 25 (.mv (.s 9)),I 4 (.mv (.v (.str []))),I 5 (.mv (.s 25))])
def ZVy:PC :=
 (.reg [4,5] [I 26 (.ld false 1 (.s 7)),I 27 (.b2s (.s 26)),I 4 (.mv (.s 27)),I 5 (.mv (V 0))])
def ZQ3:PF:=⟨false,
 (.seq ZZK
 (.seq (.seq ZZL
 (.seq ZZM
 (.ite (.s 14)
 (.seq ZZN
 .ret)
 .skip)))
 (.seq ZZO
 (.seq ZZP
 (.seq ZZQ
 (.seq (.seq ZZR
 (.ite (.s 19)
 (.seq ZZS
 .ret)
 .skip))
 (.seq (.seq ZZT
 (.seq ZVw
 (.ite (.s 24)
 (.seq ZVx
 .ret)
 .skip)))
 (.seq ZVy
 .ret)))))))),
 [.s 4,.s 5]⟩
theorem ZfZ:Zv Proofs.Tryz.prog false ZfY Proofs.Tryz.f65=some ZQ3:=by kernel_rfl
def Zc6:List Hint:=[⟨[0,3,4,5],[2],[],[],[],[]⟩,H [4,5,6,7],H [4,5,6,7,18],⟨[4,5,6],[3],[],[],[],[]⟩,H [4,5,7,26],H [4,5,7,8,10],H [4,5,7,8,10,34],⟨[4,5,6],[3],[],[],[],[]⟩,H [4,5,7],H [4,5,6],H [4,5,6]]
def ZVz:PC :=
 (.reg [0,3,4,5] [I 3 (.box (.s 1)),I 4 (.box (.v ZR)),I 5 (.onil 1),I 6 (.mv (V 0))])
def ZV0:PC :=
 (.reg [4,5,6,7] [I 12 (.mv (.s 0)),I 13 (.ld true 7 (.s 3)),I 14 (C XJ [(.s 12),(.s 13)]),I 11 (.mv (.s 14)),I 15 (.ext (.s 11) 0),I 16 (.ext (.s 11) 1),I 7 (.mv (.s 15)),I 6 (.mv (.s 16))])
def ZV1:PC :=
 (.reg [4,5,6,7,18] [I 17 (.mv (.s 6)),I 18 (.bin .neq (.s 17) (V 0))])
def ZV2:PC :=
 (.reg [4,5,6] [I 19 (.build [(.int .u64 0),(.int .i64 0),(.int .i64 0),(.int .i64 0),(.int .i64 0)] []),I 20 (.mv (.s 6)),J (.st 5 (.s 4) (.s 19)),I 5 (.onil 1),I 6 (.mv (.s 20))])
def ZV3:PC :=
 (.reg [4,5,7,26] [I 21 (.mv (.s 7)),I 22 (.nilck (.s 21)),I 23 (.fadr 1 (.s 22)),I 24 (.ld false 1 (.s 23)),I 25 (.len 1 (.s 24)),I 26 (.bin .gtr (.s 25) (V 0))])
def ZV4:PC :=
 (.reg [4,5,7,8,10] [I 28 (.mv (.s 7)),I 29 (C Xh [(.s 28)]),I 27 (.mv (.s 29)),I 30 (.ext (.s 27) 0),I 31 (.ext (.s 27) 1),I 32 (.ext (.s 27) 2),I 8 (.mv (.s 30)),I 9 (.mv (.s 31)),I 10 (.mv (.s 32))])
def ZV5:PC :=
 (.reg [4,5,7,8,10,34] [I 33 (.mv (.s 10)),I 34 (.bin .neq (.s 33) (V 0))])
def ZV6:PC :=
 (.reg [4,5,6] [I 35 (.build [(.int .u64 0),(.int .i64 0),(.int .i64 0),(.int .i64 0),(.int .i64 0)] []),I 36 (.mv (.s 10)),J (.st 5 (.s 4) (.s 35)),I 5 (.onil 1),I 6 (.mv (.s 36))])
def ZV7:PC :=
 (.reg [4,5,7] [I 37 (.mv (.s 5)),I 38 (.mv (.s 8)),I 39 (.bslice false 1 [(.int .u64 0)] [(0,(.s 38))]),I 40 (.app 1 8 (.s 37) (.s 39)),I 5 (.mv (.s 40))])
def ZV8:PC :=
 (.seq (.seq ZV3
 (.ite (.s 26)
 .skip
 (.exit 0)))
 (.block 1
 (.seq ZV4
 (.seq (.seq ZV5
 (.ite (.s 34)
 (.seq ZV6
 .ret)
 .skip))
 ZV7))))
def ZR2:PC :=
 (.reg [4,5,6] [I 42 (.mv (.s 7)),I 43 (C ZBN [(.s 42)]),I 41 (.mv (.s 43)),I 44 (.ext (.s 41) 0),I 45 (.ext (.s 41) 1),J (.st 5 (.s 4) (.s 44)),I 6 (.mv (.s 45))])
def ZR3:PC :=
 (.reg [4,5,6] [I 46 (.ld true 5 (.s 4)),I 47 (.mv (.s 5)),I 48 (.mv (.s 6)),J (.st 5 (.s 4) (.s 46)),I 5 (.mv (.s 47)),I 6 (.mv (.s 48))])
def ZMY:PF:=⟨false,
 (.seq ZVz
 (.seq ZV0
 (.seq (.seq ZV1
 (.ite (.s 18)
 (.seq ZV2
 .ret)
 .skip))
 (.seq (.block 0
 (.loop ZV8))
 (.seq ZR2
 (.seq ZR3
 .ret)))))),
 [.c 4 true 5,.s 5,.s 6]⟩
theorem Zc7:Zv Proofs.Tryz.prog false Zc6 Proofs.Tryz.f66=some ZMY:=by kernel_rfl
def ZKj:List Hint:=[H [0,1],H [4]]
def ZIR:PC :=
 (.reg [0,1] [I 4 (.mv (V 0))])
def ZIS:PC :=
 (.reg [4] [I 5 (.mv (.s 0)),I 6 (.cint .u64 (.s 5)),I 7 (.mv (.s 1)),I 8 (.bin .add (.s 7) (V 1)),I 9 (.cint .u64 (.s 8)),I 10 (.bin .rem (.s 6) (.s 9)),I 11 (.cint .i64 (.s 10)),I 4 (.mv (.s 11))])
def ZCg:PF:=⟨false,
 (.seq ZIR
 (.seq ZIS
 .ret)),
 [.s 4]⟩
theorem ZKk:Zv Proofs.Tryz.prog false ZKj Proofs.Tryz.f67=some ZCg:=by kernel_rfl
def ZV9:List Hint:=[H [0,1],H [0,1,21],H [4,5],⟨[0,6],[],[],[],[(1,(.here 1)),(5,(.here 5)),(3,(.here 3))],[3,1,5]⟩,H [0,6,31,32],H [0,6,31,32,33],H [0,6,7,31,32],H [0,6,7,31,32],H [0,6,31,32],H [0,6,31,32],H [4,5]]
def ZOy:PC :=
 (.reg [0,1] [I 4 (.mv (.v .nilptr)),I 5 (.mv (V 0))])
def ZOz:PC :=
 (.reg [0,1,21] [I 8 (.mv (.s 0)),I 9 (.bin .lss (.s 8) (V 1)),I 10 (.mv (.s 9)),G 11 10 false (.mv (.s 0)),G 12 10 false (.bin .gtr (.s 11) (V 16384)),I 13 (.pick (.s 10) (.v (.bool true)) (.s 12)),I 14 (.mv (.s 13)),G 15 14 false (.mv (.s 1)),G 16 14 false (.bin .lss (.s 15) (.v (.int .u64 1))),I 17 (.pick (.s 14) (.v (.bool true)) (.s 16)),I 18 (.mv (.s 17)),G 19 18 false (.mv (.s 1)),G 20 18 false (.bin .gtr (.s 19) (.v (.int .u64 4294967295))),I 21 (.pick (.s 18) (.v (.bool true)) (.s 20))])
def ZO0:PC :=
 (.reg [4,5] [I 4 (.mv (.v .nilptr)),I 5 (.mv (V 3))])
def ZO1:PC :=
 (.regH [3,1,5] [0,6] [I 22 (.mv (.s 0)),I 23 (.w (.here 1) (.mkslice 1 8 (.int .i64 0) (.s 22) (.s 22))),I 24 (.mv (.s 0)),I 25 (.w (.here 3) (.mkslice 1 1 (.int .u8 0) (.s 24) (.s 24))),I 26 (.mv (.s 0)),I 27 (.w (.here 5) (.mkslice 1 8 (.int .u64 0) (.s 26) (.s 26))),I 28 (.mv (.s 1)),I 29 (.build [.nils,.nils,.nils,(.int .u64 0)] [(0,1,(.s 23)),(1,1,(.s 25)),(2,1,(.s 27)),(3,1,(.s 28))]),I 30 (.box (.s 29)),I 6 (.mv (.s 30))])
def ZO2:PC :=
 (.reg [0,6,31,32] [I 31 (.mv (.s 0)),I 32 (.mv (V 0))])
def ZO3:PC :=
 (.reg [0,6,31,32,33] [I 33 (.bin .lss (.s 32) (.s 31))])
def ZO4:PC :=
 (.reg [0,6,7,31,32] [I 34 (.mv (.s 32)),I 7 (.mv (.s 34))])
def ZO5:PC :=
 (.reg [0,6,7,31,32] [I 35 (.mv (.s 6)),I 36 (.nilck (.s 35)),I 37 (.fadr 0 (.s 36)),I 38 (.ld false 1 (.s 37)),I 39 (.mv (.s 7)),I 40 (.mv (.s 0)),I 41 (.bin .sub (.s 40) (V 1)),I 42 (.mv (.s 7)),I 43 (.bin .sub (.s 41) (.s 42)),I 44 (.ixS 1 (.s 38) (.s 39)),J (.st 1 (.s 44) (.s 43))])
def ZO6:PC :=
 (.reg [0,6,31,32] [I 45 (.mv (.s 6)),I 46 (.nilck (.s 45)),I 47 (.fadr 2 (.s 46)),I 48 (.ld false 1 (.s 47)),I 49 (.mv (.s 7)),I 50 (.ixS 1 (.s 48) (.s 49)),J (.st 1 (.s 50) (.v (.int .u64 1)))])
def ZO7:PC :=
 (.reg [0,6,31,32] [I 51 (.bin .add (.s 32) (V 1)),I 32 (.mv (.s 51))])
def ZMZ:PC :=
 (.seq ZO3
 (.seq (.ite (.s 33)
 .skip
 (.exit 0))
 (.seq (.block 1
 (.seq ZO4
 (.seq ZO5
 ZO6)))
 ZO7)))
def ZMa:PC :=
 (.reg [4,5] [I 52 (.mv (.s 6)),I 4 (.mv (.s 52)),I 5 (.mv (V 0))])
def ZIT:PF:=⟨true,
 (.seq ZOy
 (.seq (.seq ZOz
 (.ite (.s 21)
 (.seq ZO0
 .ret)
 .skip))
 (.seq ZO1
 (.seq (.seq ZO2
 (.block 0
 (.loop ZMZ)))
 (.seq ZMa
 .ret))))),
 [.s 4,.s 5]⟩
theorem ZWA:Zv Proofs.Tryz.prog true ZV9 Proofs.Tryz.f80=some ZIT:=by kernel_rfl
def ZJl:List Hint:=[H [1],H [1,3,4],H [1,3,15],H [0,1,2],H [1,3,4,5],⟨[0,1,2],[],[],[],[(6,(.hide [(.s 1)])),(10,(.plain (.s 1)))],[]⟩]
def ZHA:PC :=
 (.reg [1] [I 0 (.mv (.v .nilptr)),I 1 (.box (.v ZR)),I 2 (.mv (.v (.bool false)))])
def ZHB:PC :=
 (.reg [1,3,4] [I 7 (C ZDB [(V 8),(.v (.int .u64 4))]),I 6 (.mv (.s 7)),I 8 (.ext (.s 6) 0),I 9 (.ext (.s 6) 1),I 3 (.mv (.s 8)),I 4 (.mv (.s 9))])
def ZHC:PC :=
 (.reg [1,3,15] [I 10 (.mv (.s 3)),I 11 (.eqs false 3 [] (.s 10) (.v .nilptr)),I 12 (.mv (.s 11)),G 13 12 false (.mv (.s 4)),G 14 12 false (.bin .neq (.s 13) (V 0)),I 15 (.pick (.s 12) (.v (.bool true)) (.s 14))])
def ZHD:PC :=
 (.reg [0,1,2] [I 16 (.build [(.int .u64 0),(.int .i64 0),(.int .i64 0),(.int .i64 0),(.int .i64 0)] []),I 0 (.mv (.v .nilptr)),J (.st 5 (.s 1) (.s 16)),I 2 (.mv (.v (.bool false)))])
def ZHE:PC :=
 (.reg [1,3,4,5] [I 18 (.mv (.s 3)),I 19 (C ZCB [(.s 18),(.v (.str [97,98,99,100,101,102,103,104,105,106,107,108,109,110,111,112,113]))]),I 17 (.mv (.s 19)),I 20 (.ext (.s 17) 0),I 21 (.ext (.s 17) 1),I 5 (.box (.v ZR)),J (.st 5 (.s 5) (.s 20)),I 4 (.mv (.s 21))])
def ZHF:PC :=
 (.reg [0,1,2] [I 22 (.mv (.s 3)),I 23 (.ld true 5 (.s 5)),I 24 (.mv (.s 4)),I 25 (.bin .eql (.s 24) (V 0)),I 26 (.mv (.s 25)),G 27 26 true (.fadr 0 (.s 5)),G 28 26 true (.w (.hide [(.s 1)]) (.ld false 1 (.s 27))),G 29 26 true (.bin .eql (.s 28) (.v (.int .u64 65538))),I 30 (.pick (.s 26) (.s 29) (.v (.bool false))),I 0 (.mv (.s 22)),J (.w (.plain (.s 1)) (.st 5 (.s 1) (.s 23))),I 2 (.mv (.s 30))])
def ZBU:PF:=⟨true,
 (.seq ZHA
 (.seq ZHB
 (.seq (.seq ZHC
 (.ite (.s 15)
 (.seq ZHD
 .ret)
 .skip))
 (.seq ZHE
 (.seq ZHF
 .ret))))),
 [.s 0,.c 1 true 5,.s 2]⟩
theorem ZJm:Zv Proofs.Tryz.prog true ZJl Proofs.Tryz.f83=some ZBU:=by kernel_rfl
def ZZU:List Hint:=[H [0,2,3,5,8],H [8,9]]
def ZR4:PC :=
 (.reg [0,2,3,5,8] [I 5 (.box (.s 1)),I 8 (.box (.v (.agg [(.int .u64 0),(.int .i64 0),(.int .i64 0),(.int .i64 0),(.int .i64 0),.nils,.nils]))),I 9 (.mv (V 0))])
def ZR5:PC :=
 (.reg [8,9] [I 10 (.mv (.s 0)),I 11 (.ld true 5 (.s 5)),I 12 (.mv (.s 2)),I 13 (.mv (.s 3)),I 14 (C Y6 [(.s 10),(.s 11),(.s 12),(V 0),(.s 13)]),I 15 (.ext (.s 14) 0),I 16 (.ext (.s 14) 1),J (.st 7 (.s 8) (.s 15)),I 9 (.mv (.s 16))])
def ZJz:PF:=⟨false,
 (.seq ZR4
 (.seq ZR5
 .ret)),
 [.c 8 true 7,.s 9]⟩
theorem ZZV:Zv Proofs.Tryz.prog false ZZU Proofs.Tryz.f84=some ZJz:=by kernel_rfl
def Zfa:List Hint:=[H [0,3],H [6,7],H [6,7,18],H [4,5],⟨[6,8],[0],[],[],[],[]⟩,H [8,20,21,22],H [8,20,21,22,23],H [8,10,20,21,22],H [8,20,21,22],H [8,20,21,22],H [4,5]]
def ZZW:PC :=
 (.reg [0,3] [I 3 (.box (.s 1)),I 4 (.mv (.v (.str []))),I 5 (.mv (V 0))])
def ZZX:PC :=
 (.reg [6,7] [I 12 (.mv (.s 0)),I 13 (.ld true 5 (.s 3)),I 14 (C ZDT [(.s 12),(.s 13)]),I 11 (.mv (.s 14)),I 15 (.ext (.s 11) 0),I 16 (.ext (.s 11) 1),I 6 (.mv (.s 15)),I 7 (.mv (.s 16))])
def ZZY:PC :=
 (.reg [6,7,18] [I 17 (.mv (.s 7)),I 18 (.bin .neq (.s 17) (V 0))])
def ZZZ:PC :=
 (.reg [4,5] [I 19 (.mv (.s 7)),I 4 (.mv (.v (.str []))),I 5 (.mv (.s 19))])
def ZZa:PC :=
 (.reg [6,8] [I 8 (.onil 1)])
def ZZb:PC :=
 (.reg [8,20,21,22] [I 20 (.mv (.s 6)),I 21 (.len 1 (.s 20)),I 22 (.mv (V 0))])
def ZZc:PC :=
 (.reg [8,20,21,22,23] [I 23 (.bin .lss (.s 22) (.s 21))])
def ZZd:PC :=
 (.reg [8,10,20,21,22] [I 24 (.ixS 1 (.s 20) (.s 22)),I 25 (.ld false 1 (.s 24)),I 10 (.mv (.s 25))])
def ZZe:PC :=
 (.reg [8,20,21,22] [I 26 (.mv (.s 8)),I 27 (.mv (.s 10)),I 28 (.app 1 1 (.s 26) (.s 27)),I 8 (.mv (.s 28))])
def ZZf:PC :=
 (.reg [8,20,21,22] [I 29 (.bin .add (.s 22) (V 1)),I 22 (.mv (.s 29))])
def ZWB:PC :=
 (.seq ZZc
 (.seq (.ite (.s 23)
 .skip
 (.exit 0))
 (.seq (.block 1
 (.seq ZZd
 ZZe))
 ZZf)))
def ZWC:PC :=
 (.reg [4,5] [I 30 (.mv (.s 8)),I 31 (.b2s (.s 30)),I 4 (.mv (.s 31)),I 5 (.mv (V 0))])
def ZIU:PF:=⟨false,
 (.seq ZZW
 (.seq ZZX
 (.seq (.seq ZZY
 (.ite (.s 18)
 (.seq ZZZ
 .ret)
 .skip))
 (.seq ZZa
 (.seq (.seq ZZb
 (.block 0
 (.loop ZWB)))
 (.seq ZWC
 .ret)))))),
 [.s 4,.s 5]⟩
theorem Zfb:Zv Proofs.Tryz.prog false Zfa Proofs.Tryz.f85=some ZIU:=by kernel_rfl
def ZEK:List Hint:=[H [0],⟨[0,3],[0],[],[],[],[]⟩,H [0,3,9,10,11],H [0,3,9,10,11,12],H [0,3,5,9,10,11],H [0,3,6,9,10,11],H [0,3,9,10,11],H [0,3,9,10,11],H [2]]
def ZCu:PC :=
 (.reg [0] [I 2 (.mv (.v .nils))])
def ZCv:PC :=
 (.reg [0,3] [I 3 (.onil 1)])
def ZCw:PC :=
 (.reg [0,3,9,10,11] [I 8 (.mv (.s 0)),I 9 (C Jz [(.s 8),(.v (.int .u8 1))]),I 10 (.len 1 (.s 9)),I 11 (.mv (V 0))])
def ZCx:PC :=
 (.reg [0,3,9,10,11,12] [I 12 (.bin .lss (.s 11) (.s 10))])
def ZCy:PC :=
 (.reg [0,3,5,9,10,11] [I 13 (.ixS 1 (.s 9) (.s 11)),I 14 (.ld false 1 (.s 13)),I 5 (.mv (.s 14))])
def ZCz:PC :=
 (.reg [0,3,6,9,10,11] [I 16 (.mv (.s 5)),I 17 (.mv (.s 0)),I 18 (.nilck (.s 17)),I 19 (.fadr 2 (.s 18)),I 20 (.ld false 1 (.s 19)),I 21 (.mv (.s 5)),I 22 (.ixS 1 (.s 20) (.s 21)),I 23 (.ld false 1 (.s 22)),I 24 (C ZAv [(.s 16),(.s 23)]),I 15 (.mv (.s 24)),I 25 (.ext (.s 15) 0),I 26 (.ext (.s 15) 1),I 6 (.mv (.s 25)),I 7 (.mv (.s 26))])
def ZC0:PC :=
 (.reg [0,3,9,10,11] [I 27 (.mv (.s 3)),I 28 (.mv (.s 6)),I 29 (.bslice false 1 [(.int .u64 0)] [(0,(.s 28))]),I 30 (.app 1 8 (.s 27) (.s 29)),I 3 (.mv (.s 30))])
def ZC1:PC :=
 (.reg [0,3,9,10,11] [I 31 (.bin .add (.s 11) (V 1)),I 11 (.mv (.s 31))])
def ZC2:PC :=
 (.seq ZCx
 (.seq (.ite (.s 12)
 .skip
 (.exit 0))
 (.seq (.block 1
 (.seq ZCy
 (.seq ZCz
 ZC0)))
 ZC1)))
def ZC3:PC :=
 (.reg [2] [I 32 (.mv (.s 3)),I 2 (.mv (.s 32))])
def X8:PF:=⟨false,
 (.seq ZCu
 (.seq ZCv
 (.seq (.seq ZCw
 (.block 0
 (.loop ZC2)))
 (.seq ZC3
 .ret)))),
 [.s 2]⟩
theorem ZEL:Zv Proofs.Tryz.prog false ZEK Proofs.Tryz.f86=some X8:=by kernel_rfl
def ZZg:List Hint:=[H [0,1,2,6],H [0,2,6,8,9],H [0,2,6,8,9,24],H [6,7],H [0,2,6,8,10],H [0,2,6,8,10,11],H [0,6,8,10,11,29,30,31],H [0,6,8,10,11,29,30,31,32],H [0,6,8,10,11,13,29,30,31],H [0,6,8,10,11,14,15,29,30,31],H [0,6,8,10,11,14,15,29,30,31,43],H [6,7],H [0,6,8,10,11,29,30,31,46,47,48],H [0,6,8,10,11,29,30,31,46,47,48,49],H [0,6,8,10,11,17,29,30,31,46,47,48],H [0,6,8,10,11,17,29,30,31,46,47,48,55],H [0,6,8,10,11,17,29,30,31,46,47,48],H [0,6,8,10,11,29,30,31,46,47,48],H [0,6,8,10,11,29,30,31,46,47,48],H [0,6,8,10,11,29,30,31],H [6,9,10],H [6,9,10,76],H [6,7],H [6,7]]
def ZR6:PC :=
 (.reg [0,1,2,6] [I 6 (.box (.v (.agg [(.int .u64 0),(.int .i64 0),(.int .i64 0),(.int .i64 0),(.int .i64 0),.nils,.nils]))),I 7 (.mv (V 0))])
def ZR7:PC :=
 (.reg [0,2,6,8,9] [I 19 (.mv (.s 1)),I 20 (.call .norm (.s 19) []),I 18 (.mv (.s 20)),I 21 (.ext (.s 18) 0),I 22 (.ext (.s 18) 1),I 8 (.box (.v ZT)),J (.st 7 (.s 8) (.s 21)),I 9 (.mv (.s 22))])
def ZR8:PC :=
 (.reg [0,2,6,8,9,24] [I 23 (.mv (.s 9)),I 24 (.bin .neq (.s 23) (V 0))])
def ZR9:PC :=
 (.reg [6,7] [I 25 (.build [(.int .u64 0),(.int .i64 0),(.int .i64 0),(.int .i64 0),(.int .i64 0),.nils,.nils] []),I 26 (.mv (.s 9)),J (.st 7 (.s 6) (.s 25)),I 7 (.mv (.s 26))])
def ZSA:PC :=
 (.reg [0,2,6,8,10] [I 27 (.build [(.int .u64 0),(.int .i64 0),(.int .i64 0),(.int .i64 0),(.int .i64 0),.nils,.nils] []),I 10 (.box (.v (.agg [(.int .u64 0),(.int .i64 0),(.int .i64 0),(.int .i64 0),(.int .i64 0),.nils,.nils]))),J (.st 7 (.s 10) (.s 27))])
def ZSB:PC :=
 (.reg [0,2,6,8,10,11] [I 28 (.mkmap),I 11 (.mv (.s 28))])
def ZSC:PC :=
 (.reg [0,6,8,10,11,29,30,31] [I 29 (.mv (.s 2)),I 30 (.len 1 (.s 29)),I 31 (.mv (V 0))])
def ZSD:PC :=
 (.reg [0,6,8,10,11,29,30,31,32] [I 32 (.bin .lss (.s 31) (.s 30))])
def ZSE:PC :=
 (.reg [0,6,8,10,11,13,29,30,31] [I 33 (.ixS 5 (.s 29) (.s 31)),I 34 (.ld true 5 (.s 33)),I 13 (.box (.v ZR)),J (.st 5 (.s 13) (.s 34))])
def ZSF:PC :=
 (.reg [0,6,8,10,11,14,15,29,30,31] [I 36 (.mv (.s 0)),I 37 (.ld true 5 (.s 13)),I 38 (.ld true 7 (.s 8)),I 39 (C ZCA [(.s 36),(.s 37),(.s 38)]),I 35 (.mv (.s 39)),I 40 (.ext (.s 35) 0),I 41 (.ext (.s 35) 1),I 14 (.mv (.s 40)),I 15 (.mv (.s 41))])
def ZO8:PC :=
 (.reg [0,6,8,10,11,14,15,29,30,31,43] [I 42 (.mv (.s 15)),I 43 (.bin .neq (.s 42) (V 0))])
def ZO9:PC :=
 (.reg [6,7] [I 44 (.build [(.int .u64 0),(.int .i64 0),(.int .i64 0),(.int .i64 0),(.int .i64 0),.nils,.nils] []),I 45 (.mv (.s 15)),J (.st 7 (.s 6) (.s 44)),I 7 (.mv (.s 45))])
def ZPA:PC :=
 (.reg [0,6,8,10,11,29,30,31,46,47,48] [I 46 (.mv (.s 14)),I 47 (.len 1 (.s 46)),I 48 (.mv (V 0))])
def ZPB:PC :=
 (.reg [0,6,8,10,11,29,30,31,46,47,48,49] [I 49 (.bin .lss (.s 48) (.s 47))])
def ZPC:PC :=
 (.reg [0,6,8,10,11,17,29,30,31,46,47,48] [I 50 (.ixS 1 (.s 46) (.s 48)),I 51 (.ld false 1 (.s 50)),I 17 (.mv (.s 51))])
def ZPD:PC :=
 (.reg [0,6,8,10,11,17,29,30,31,46,47,48,55] [I 52 (.mv (.s 11)),I 53 (.mv (.s 17)),I 54 (.look 0 (.bool false) false (.s 52) (.s 53)),I 55 (.un .not (.s 54))])
def ZPE:PC :=
 (.reg [0,6,8,10,11,17,29,30,31,46,47,48] [I 56 (.mv (.s 11)),I 57 (.mv (.s 17)),J (.mupd 0 (.s 56) (.s 57) (.v (.bool true)))])
def ZPF:PC :=
 (.reg [0,6,8,10,11,29,30,31,46,47,48] [I 58 (.fadr 6 (.s 10)),I 59 (.ld false 1 (.s 58)),I 60 (.mv (.s 17)),I 61 (.bslice false 1 [(.int .u64 0)] [(0,(.s 60))]),I 62 (.app 1 8 (.s 59) (.s 61)),I 63 (.fadr 6 (.s 10)),J (.st 1 (.s 63) (.s 62))])
def ZPG:PC :=
 (.reg [0,6,8,10,11,29,30,31,46,47,48] [I 64 (.bin .add (.s 48) (V 1)),I 48 (.mv (.s 64))])
def p_edit_change_19:PC :=
 (.seq ZPB
 (.seq (.ite (.s 49)
 .skip
 (.exit 2))
 (.seq (.block 3
 (.seq ZPC
 (.seq ZPD
 (.ite (.s 55)
 (.seq ZPE
 ZPF)
 .skip))))
 ZPG)))
def ZPH:PC :=
 (.reg [0,6,8,10,11,29,30,31] [I 65 (.bin .add (.s 31) (V 1)),I 31 (.mv (.s 65))])
def p_edit_change_21:PC :=
 (.seq ZSD
 (.seq (.ite (.s 32)
 .skip
 (.exit 0))
 (.seq (.block 1
 (.seq ZSE
 (.seq ZSF
 (.seq (.seq ZO8
 (.ite (.s 43)
 (.seq ZO9
 .ret)
 .skip))
 (.seq ZPA
 (.block 2
 (.loop p_edit_change_19)))))))
 ZPH)))
def ZPI:PC :=
 (.reg [6,9,10] [I 67 (.mv (.s 0)),I 68 (.ld true 7 (.s 8)),I 69 (C XI [(.s 67),(.s 68)]),I 66 (.mv (.s 69)),I 70 (.ext (.s 66) 0),I 71 (.ext (.s 66) 1),I 72 (.ext (.s 66) 2),I 73 (.fadr 0 (.s 10)),J (.st 5 (.s 73) (.s 70)),I 74 (.fadr 5 (.s 10)),J (.st 1 (.s 74) (.s 71)),I 9 (.mv (.s 72))])
def ZPJ:PC :=
 (.reg [6,9,10,76] [I 75 (.mv (.s 9)),I 76 (.bin .neq (.s 75) (V 0))])
def ZPK:PC :=
 (.reg [6,7] [I 77 (.build [(.int .u64 0),(.int .i64 0),(.int .i64 0),(.int .i64 0),(.int .i64 0),.nils,.nils] []),I 78 (.mv (.s 9)),J (.st 7 (.s 6) (.s 77)),I 7 (.mv (.s 78))])
def ZPL:PC :=
 (.reg [6,7] [I 79 (.ld true 7 (.s 10)),J (.st 7 (.s 6) (.s 79)),I 7 (.mv (V 0))])
def ZJ0:PF:=⟨false,
 (.seq ZR6
 (.seq ZR7
 (.seq (.seq ZR8
 (.ite (.s 24)
 (.seq ZR9
 .ret)
 .skip))
 (.seq ZSA
 (.seq ZSB
 (.seq (.seq ZSC
 (.block 0
 (.loop p_edit_change_21)))
 (.seq (.seq ZPI
 (.seq ZPJ
 (.ite (.s 76)
 (.seq ZPK
 .ret)
 .skip)))
 (.seq ZPL
 .ret)))))))),
 [.c 6 true 7,.s 7]⟩
theorem ZZh:Zv Proofs.Tryz.prog false ZZg Proofs.Tryz.f87=some ZJ0:=by kernel_rfl
def ZPM:List Hint:=[H [0,1,2,3,4,5],H [5,6]]
def ZKl:PC :=
 (.reg [0,1,2,3,4,5] [I 5 (.box (.v ZT)),I 6 (.mv (V 0))])
def ZKm:PC :=
 (.reg [5,6] [I 7 (.ld false 1 (.s 0)),I 8 (.ld true 5 (.s 1)),I 9 (.ld false 1 (.s 2)),I 10 (.ld false 1 (.s 3)),I 11 (.ld false 1 (.s 4)),I 12 (C ZHW [(.s 7),(.s 8),(.s 9),(.s 10),(.s 11)]),I 13 (.ext (.s 12) 0),I 14 (.ext (.s 12) 1),J (.st 7 (.s 5) (.s 13)),I 6 (.mv (.s 14))])
def ZEM:PF:=⟨false,
 (.seq ZKl
 (.seq ZKm
 .ret)),
 [.c 5 true 7,.s 6]⟩
theorem ZPN:Zv Proofs.Tryz.prog false ZPM Proofs.Tryz.f88=some ZEM:=by kernel_rfl
def Zfc:List Hint:=[H [0,2,3,4,6,10],H [0,2,3,4,10,12,13],H [0,2,3,4,10,12,13,21],H [10,11],H [10,11]]
def ZZi:PC :=
 (.reg [0,2,3,4,6,10] [I 6 (.box (.s 1)),I 10 (.box (.v ZT)),I 11 (.mv (V 0))])
def ZZj:PC :=
 (.reg [0,2,3,4,10,12,13] [I 15 (.mv (.s 0)),I 16 (.ld true 5 (.s 6)),I 17 (C Jr [(.s 15),(.s 16)]),I 14 (.mv (.s 17)),I 18 (.ext (.s 14) 0),I 19 (.ext (.s 14) 1),I 12 (.box (.v ZT)),J (.st 7 (.s 12) (.s 18)),I 13 (.mv (.s 19))])
def ZZk:PC :=
 (.reg [0,2,3,4,10,12,13,21] [I 20 (.mv (.s 13)),I 21 (.bin .neq (.s 20) (V 0))])
def ZZl:PC :=
 (.reg [10,11] [I 22 (.build [(.int .u64 0),(.int .i64 0),(.int .i64 0),(.int .i64 0),(.int .i64 0),(.str []),.nils] []),I 23 (.mv (.s 13)),J (.st 7 (.s 10) (.s 22)),I 11 (.mv (.s 23))])
def ZZm:PC :=
 (.reg [10,11] [I 24 (.mv (.s 0)),I 25 (.ld true 7 (.s 12)),I 26 (.mv (.s 2)),I 27 (.mv (.s 3)),I 28 (.mv (.s 4)),I 29 (C ZAD [(.s 24),(.s 25),(.s 26),(.s 27),(.s 28)]),I 30 (.ext (.s 29) 0),I 31 (.ext (.s 29) 1),J (.st 7 (.s 10) (.s 30)),I 11 (.mv (.s 31))])
def ZQ4:PF:=⟨false,
 (.seq ZZi
 (.seq ZZj
 (.seq (.seq ZZk
 (.ite (.s 21)
 (.seq ZZl
 .ret)
 .skip))
 (.seq ZZm
 .ret)))),
 [.c 10 true 7,.s 11]⟩
theorem Zfd:Zv Proofs.Tryz.prog false Zfc Proofs.Tryz.f89=some ZQ4:=by kernel_rfl
def Zc8:List Hint:=[H [0,3,20],H [0,3,6,20],H [0,3,6,14,20],H [4,5],⟨[0,3,7,20],[0],[],[],[],[]⟩,H [0,3,7,8,20],H [7,8,19,20],H [7,8,9],H [7,8,9,25],H [7,9],H [7],H [4,5]]
def ZWD:PC :=
 (.reg [0,3,20] [I 3 (.box (.s 1)),I 4 (.mv (.v .nils)),I 5 (.mv (V 0))])
def ZWE:PC :=
 (.reg [0,3,6,20] [I 10 (.mv (.s 0)),I 11 (.ld true 5 (.s 3)),I 12 (C ZAF [(.s 10),(.s 11)]),I 6 (.mv (.s 12))])
def ZWF:PC :=
 (.reg [0,3,6,14,20] [I 13 (.mv (.s 6)),I 14 (.bin .neq (.s 13) (V 0))])
def ZWG:PC :=
 (.reg [4,5] [I 15 (.mv (.s 6)),I 4 (.mv (.v .nils)),I 5 (.mv (.s 15))])
def ZWH:PC :=
 (.reg [0,3,7,20] [I 7 (.boxnil 1)])
def ZWI:PC :=
 (.reg [0,3,7,8,20] [I 16 (.mkmap),I 8 (.box (.v .nilmap)),J (.st 1 (.s 8) (.s 16))])
def ZWJ:PC :=
 (.reg [7,8,19,20] [I 17 (.mv (.s 0)),I 18 (.ld true 5 (.s 3)),I 19 (C ZAG [(.s 17),(.s 18)])])
def ZWK:PC :=
 (.reg [7,8,9] [I 9 (.mv (.s 20))])
def ZWL:PC :=
 (.reg [7,8,9,25] [I 22 (.ld false 1 (.s 8)),I 23 (.mv (.s 9)),I 24 (.look 0 (.bool false) false (.s 22) (.s 23)),I 25 (.un .not (.s 24))])
def ZWM:PC :=
 (.reg [7,9] [I 26 (.ld false 1 (.s 8)),I 27 (.mv (.s 9)),J (.mupd 0 (.s 26) (.s 27) (.v (.bool true)))])
def ZSG:PC :=
 (.reg [7] [I 28 (.ld false 1 (.s 7)),I 29 (.mv (.s 9)),I 30 (.bslice false 1 [(.int .u64 0)] [(0,(.s 29))]),I 31 (.app 1 8 (.s 28) (.s 30)),J (.st 1 (.s 7) (.s 31))])
def ZSH:PC :=
 (.reg [4,5] [I 32 (.ld false 1 (.s 7)),I 4 (.mv (.s 32)),I 5 (.mv (V 0))])
def p_rope_Nodes:RF:=⟨33,
 (.seq ZWD
 (.seq (.seq ZWE
 (.seq ZWF
 (.ite (.s 14)
 (.seq ZWG
 .ret)
 .skip)))
 (.seq ZWH
 (.seq ZWI
 (.seq ZWJ
 .skip))))),
 ⟨(.s 19),[20,21],
 ZWK,
 (.block 1
 (.seq ZWL
 (.ite (.s 25)
 (.seq ZWM
 ZSG)
 .skip)))⟩,
 (.seq .skip
 (.seq ZSH
 .ret)),
 [.s 4,.s 5]⟩
theorem Zc9:ZVC Proofs.Tryz.prog Zc8 Proofs.Tryz.f90=some p_rope_Nodes:=by kernel_rfl
def ZSI:List Hint:=[H [0,1,2,3],H [0,2,3,5,6],H [0,2,3,5,6,15],H [3,4],H [0,3,5,6,7],H [0,3,5,6,7,25],H [3,4],H [3,4]]
def ZMb:PC :=
 (.reg [0,1,2,3] [I 3 (.box (.v ZT)),I 4 (.mv (V 0))])
def ZMc:PC :=
 (.reg [0,2,3,5,6] [I 9 (.ld false 1 (.s 0)),I 10 (.ld true 5 (.s 1)),I 11 (C Jr [(.s 9),(.s 10)]),I 8 (.mv (.s 11)),I 12 (.ext (.s 8) 0),I 13 (.ext (.s 8) 1),I 5 (.box (.v ZT)),J (.st 7 (.s 5) (.s 12)),I 6 (.mv (.s 13))])
def ZMd:PC :=
 (.reg [0,2,3,5,6,15] [I 14 (.mv (.s 6)),I 15 (.bin .neq (.s 14) (V 0))])
def ZMe:PC :=
 (.reg [3,4] [I 16 (.build [(.int .u64 0),(.int .i64 0),(.int .i64 0),(.int .i64 0),(.int .i64 0),(.str []),.nils] []),I 17 (.mv (.s 6)),J (.st 7 (.s 3) (.s 16)),I 4 (.mv (.s 17))])
def ZMf:PC :=
 (.reg [0,3,5,6,7] [I 19 (.ld false 1 (.s 0)),I 20 (.ld true 5 (.s 2)),I 21 (C Jr [(.s 19),(.s 20)]),I 18 (.mv (.s 21)),I 22 (.ext (.s 18) 0),I 23 (.ext (.s 18) 1),I 7 (.box (.v ZT)),J (.st 7 (.s 7) (.s 22)),I 6 (.mv (.s 23))])
def ZMg:PC :=
 (.reg [0,3,5,6,7,25] [I 24 (.mv (.s 6)),I 25 (.bin .neq (.s 24) (V 0))])
def ZMh:PC :=
 (.reg [3,4] [I 26 (.build [(.int .u64 0),(.int .i64 0),(.int .i64 0),(.int .i64 0),(.int .i64 0),(.str []),.nils] []),I 27 (.mv (.s 6)),J (.st 7 (.s 3) (.s 26)),I 4 (.mv (.s 27))])
def ZMi:PC :=
 (.reg [3,4] [I 28 (.ld false 1 (.s 0)),I 29 (.ld true 7 (.s 5)),I 30 (.ld true 7 (.s 7)),I 31 (C ZDS [(.s 28),(.s 29),(.s 30)]),I 32 (.ext (.s 31) 0),I 33 (.ext (.s 31) 1),J (.st 7 (.s 3) (.s 32)),I 4 (.mv (.s 33))])
def ZGF:PF:=⟨false,
 (.seq ZMb
 (.seq ZMc
 (.seq (.seq ZMd
 (.ite (.s 15)
 (.seq ZMe
 .ret)
 .skip))
 (.seq ZMf
 (.seq (.seq ZMg
 (.ite (.s 25)
 (.seq ZMh
 .ret)
 .skip))
 (.seq ZMi
 .ret)))))),
 [.c 3 true 7,.s 4]⟩
theorem ZSJ:Zv Proofs.Tryz.prog false ZSI Proofs.Tryz.f91=some ZGF:=by kernel_rfl
def ZWN:List Hint:=[H [0],⟨[0,3],[0],[],[],[],[]⟩,H [0,3,8,9,10],H [0,3,8,9,10,11],H [0,3,5,8,9,10],H [0,3,5,8,9,10],H [0,3,8,9,10],H [0,3,8,9,10],H [2]]
def ZPO:PC :=
 (.reg [0] [I 2 (.mv (.v .nils))])
def ZPP:PC :=
 (.reg [0,3] [I 3 (.onil 1)])
def ZPQ:PC :=
 (.reg [0,3,8,9,10] [I 6 (.mv (.s 0)),I 7 (.len 0 (.s 6)),I 8 (C ZAw [(.s 7),(V 16)]),I 9 (.len 1 (.s 8)),I 10 (.mv (V 0))])
def ZPR:PC :=
 (.reg [0,3,8,9,10,11] [I 11 (.bin .lss (.s 10) (.s 9))])
def ZPS:PC :=
 (.reg [0,3,5,8,9,10] [I 12 (.ixS 1 (.s 8) (.s 10)),I 13 (.ld false 1 (.s 12)),I 5 (.mv (.s 13))])
def ZPT:PC :=
 (.reg [0,3,5,8,9,10] [I 14 (.mv (.s 3)),I 15 (.mv (.s 0)),I 16 (.mv (.s 5)),I 17 (.slcS (.s 15) none (some (.s 16))),I 18 (.bslice false 1 [(.str [])] [(0,(.s 17))]),I 19 (.app 1 16 (.s 14) (.s 18)),I 3 (.mv (.s 19))])
def ZPU:PC :=
 (.reg [0,3,8,9,10] [I 20 (.mv (.s 0)),I 21 (.mv (.s 5)),I 22 (.slcS (.s 20) (some (.s 21)) none),I 0 (.mv (.s 22))])
def ZPV:PC :=
 (.reg [0,3,8,9,10] [I 23 (.bin .add (.s 10) (V 1)),I 10 (.mv (.s 23))])
def ZPW:PC :=
 (.seq ZPR
 (.seq (.ite (.s 11)
 .skip
 (.exit 0))
 (.seq (.block 1
 (.seq ZPS
 (.seq ZPT
 ZPU)))
 ZPV)))
def ZPX:PC :=
 (.reg [2] [I 24 (.mv (.s 3)),I 2 (.mv (.s 24))])
def ZIV:PF:=⟨false,
 (.seq ZPO
 (.seq ZPP
 (.seq (.seq ZPQ
 (.block 0
 (.loop ZPW)))
 (.seq ZPX
 .ret)))),
 [.s 2]⟩
theorem ZWO:Zv Proofs.Tryz.prog false ZWN Proofs.Tryz.f92=some ZIV:=by kernel_rfl
def ZdA:List Hint:=[H [0,1],H [0,1,11],H [4,5],H [0,1,13],H [4,5],H [4,5]]
def ZWP:PC :=
 (.reg [0,1] [I 4 (.mv (.v .nils)),I 5 (.mv (V 0))])
def ZWQ:PC :=
 (.reg [0,1,11] [I 6 (.mv (.s 0)),I 7 (.bin .lss (.s 6) (V 0)),I 8 (.mv (.s 7)),G 9 8 false (.mv (.s 1)),G 10 8 false (.bin .lss (.s 9) (V 1)),I 11 (.pick (.s 8) (.v (.bool true)) (.s 10))])
def ZWR:PC :=
 (.reg [4,5] [I 4 (.mv (.v .nils)),I 5 (.mv (V 2))])
def ZWS:PC :=
 (.reg [0,1,13] [I 12 (.mv (.s 0)),I 13 (.bin .gtr (.s 12) (V 65536))])
def ZWT:PC :=
 (.reg [4,5] [I 4 (.mv (.v .nils)),I 5 (.mv (V 5))])
def ZWU:PC :=
 (.reg [4,5] [I 14 (.mv (.s 0)),I 15 (.mv (.s 1)),I 16 (C ZAw [(.s 14),(.s 15)]),I 4 (.mv (.s 16)),I 5 (.mv (V 0))])
def ZMj:PF:=⟨false,
 (.seq ZWP
 (.seq (.seq ZWQ
 (.ite (.s 11)
 (.seq ZWR
 .ret)
 .skip))
 (.seq (.seq ZWS
 (.ite (.s 13)
 (.seq ZWT
 .ret)
 .skip))
 (.seq ZWU
 .ret)))),
 [.s 4,.s 5]⟩
theorem ZdB:Zv Proofs.Tryz.prog false ZdA Proofs.Tryz.f93=some ZMj:=by kernel_rfl
def ZdC:List Hint:=[H [0,2],H [0,2,3],H [2],H [0,2,8],H [2],⟨[2],[],[],[],[(7,.app0),(5,.imm)],[]⟩]
def ZWV:PC :=
 (.reg [0,2] [I 2 (.box (.v ZT))])
def ZWW:PC :=
 (.reg [0,2,3] [I 4 (.mv (.s 0)),I 5 (.len 1 (.s 4)),I 6 (.bin .eql (.s 5) (V 0)),I 3 (.mv (.s 6))])
def ZWX:PC :=
 (.reg [2] [I 7 (.build [(.int .u64 0),(.int .i64 0),(.int .i64 0),(.int .i64 0),(.int .i64 0),(.str []),.nils] []),J (.st 7 (.s 2) (.s 7))])
def ZWY:PC :=
 (.reg [0,2,8] [I 9 (.mv (.s 0)),I 10 (.len 1 (.s 9)),I 11 (.bin .eql (.s 10) (V 1)),I 8 (.mv (.s 11))])
def ZWZ:PC :=
 (.reg [2] [I 12 (.mv (.s 0)),I 13 (.ixS 7 (.s 12) (V 0)),I 14 (.ld true 7 (.s 13)),J (.st 7 (.s 2) (.s 14))])
def ZWa:PC :=
 (.reg [2] [I 15 (.mv (.s 0)),I 16 (.ixS 7 (.s 15) (V 0)),I 17 (.fadr 1 (.s 16)),I 18 (.ld false 1 (.s 17)),I 19 (.bin .add (.s 18) (V 1)),I 20 (.w .imm (.bslice false 7 [] [])),I 21 (.mv (.s 0)),I 22 (.w .app0 (.app 7 80 (.s 20) (.s 21))),I 23 (.build [(.int .u64 0),(.int .i64 0),(.int .i64 0),(.int .i64 0),(.int .i64 0),(.str []),.nils] [(1,1,(.s 19)),(6,1,(.s 22))]),J (.st 7 (.s 2) (.s 23))])
def ZMk:PF:=⟨false,
 (.seq ZWV
 (.seq (.block 0
 (.seq ZWW
 (.ite (.s 3)
 (.seq ZWX
 .ret)
 (.seq ZWY
 (.ite (.s 8)
 (.seq ZWZ
 .ret)
 .skip)))))
 (.seq ZWa
 .ret))),
 [.c 2 true 7]⟩
theorem ZdD:Zv Proofs.Tryz.prog false ZdC Proofs.Tryz.f94=some ZMk:=by kernel_rfl
def Zfe:List Hint:=[H [1],H [1,3],H [1,3,13],H [2],H [1,3,31],H [2],H [1,3,46],H [2],H [65],H [2],H [2]]
def ZZn:PC :=
 (.reg [1] [I 1 (.box (.s 0)),I 2 (.mv (V 0))])
def ZZo:PC :=
 (.reg [1,3] [I 4 (.fadr 2 (.s 1)),I 5 (.ld true 3 (.s 4)),I 6 (.build [(.int .i64 0),(.int .i64 0),(.int .i64 0)] []),I 7 (.eqs false 0 [(0,0),(1,0),(2,0)] (.s 5) (.s 6)),I 8 (.mv (.s 7)),G 9 8 true (.fadr 0 (.s 1)),G 10 8 true (.ld false 1 (.s 9)),G 11 8 true (.bin .eql (.s 10) (.v (.int .u64 0))),I 12 (.pick (.s 8) (.s 11) (.v (.bool false))),I 3 (.mv (.s 12))])
def ZZp:PC :=
 (.reg [1,3,13] [I 14 (.mv (.s 3)),I 15 (.mv (.s 14)),G 16 15 true (.fadr 1 (.s 1)),G 17 15 true (.ld false 1 (.s 16)),G 18 15 true (.bin .eql (.s 17) (V 0)),I 19 (.pick (.s 15) (.s 18) (.v (.bool false))),I 20 (.mv (.s 19)),G 21 20 true (.fadr 5 (.s 1)),G 22 20 true (.ld false 1 (.s 21)),G 23 20 true (.bin .eql (.s 22) (.v (.str []))),I 24 (.pick (.s 20) (.s 23) (.v (.bool false))),I 25 (.mv (.s 24)),G 26 25 true (.fadr 6 (.s 1)),G 27 25 true (.ld false 1 (.s 26)),G 28 25 true (.len 1 (.s 27)),G 29 25 true (.bin .eql (.s 28) (V 0)),I 30 (.pick (.s 25) (.s 29) (.v (.bool false))),I 13 (.mv (.s 30))])
def ZZq:PC :=
 (.reg [2] [I 2 (.mv (V 1))])
def ZZr:PC :=
 (.reg [1,3,31] [I 32 (.fadr 0 (.s 1)),I 33 (.ld false 1 (.s 32)),I 34 (.bin .neq (.s 33) (.v (.int .u64 0))),I 35 (.mv (.s 34)),G 36 35 true (.fadr 5 (.s 1)),G 37 35 true (.ld false 1 (.s 36)),G 38 35 true (.bin .eql (.s 37) (.v (.str []))),I 39 (.pick (.s 35) (.s 38) (.v (.bool false))),I 40 (.mv (.s 39)),G 41 40 true (.fadr 6 (.s 1)),G 42 40 true (.ld false 1 (.s 41)),G 43 40 true (.len 1 (.s 42)),G 44 40 true (.bin .eql (.s 43) (V 0)),I 45 (.pick (.s 40) (.s 44) (.v (.bool false))),I 31 (.mv (.s 45))])
def ZZs:PC :=
 (.reg [2] [I 2 (.mv (V 2))])
def ZZt:PC :=
 (.reg [1,3,46] [I 47 (.mv (.s 3)),I 48 (.mv (.s 47)),G 49 48 true (.fadr 1 (.s 1)),G 50 48 true (.ld false 1 (.s 49)),G 51 48 true (.bin .eql (.s 50) (V 0)),I 52 (.pick (.s 48) (.s 51) (.v (.bool false))),I 53 (.mv (.s 52)),G 54 53 true (.fadr 6 (.s 1)),G 55 53 true (.ld false 1 (.s 54)),G 56 53 true (.len 1 (.s 55)),G 57 53 true (.bin .eql (.s 56) (V 0)),I 58 (.pick (.s 53) (.s 57) (.v (.bool false))),I 59 (.mv (.s 58)),G 60 59 true (.fadr 5 (.s 1)),G 61 59 true (.ld false 1 (.s 60)),G 62 59 true (.len 0 (.s 61)),G 63 59 true (.bin .leq (.s 62) (V 16)),I 64 (.pick (.s 59) (.s 63) (.v (.bool false))),I 46 (.mv (.s 64))])
def ZZu:PC :=
 (.reg [2] [I 2 (.mv (V 3))])
def ZZv:PC :=
 (.reg [65] [I 66 (.mv (.s 3)),I 67 (.mv (.s 66)),G 68 67 true (.fadr 5 (.s 1)),G 69 67 true (.ld false 1 (.s 68)),G 70 67 true (.bin .eql (.s 69) (.v (.str []))),I 71 (.pick (.s 67) (.s 70) (.v (.bool false))),I 72 (.mv (.s 71)),G 73 72 true (.fadr 1 (.s 1)),G 74 72 true (.ld false 1 (.s 73)),G 75 72 true (.bin .geq (.s 74) (V 1)),I 76 (.pick (.s 72) (.s 75) (.v (.bool false))),I 77 (.mv (.s 76)),G 78 77 true (.fadr 1 (.s 1)),G 79 77 true (.ld false 1 (.s 78)),G 80 77 true (.bin .leq (.s 79) (V 16)),I 81 (.pick (.s 77) (.s 80) (.v (.bool false))),I 82 (.mv (.s 81)),G 83 82 true (.fadr 6 (.s 1)),G 84 82 true (.ld false 1 (.s 83)),G 85 82 true (.len 1 (.s 84)),G 86 82 true (.bin .geq (.s 85) (V 2)),I 87 (.pick (.s 82) (.s 86) (.v (.bool false))),I 88 (.mv (.s 87)),G 89 88 true (.fadr 6 (.s 1)),G 90 88 true (.ld false 1 (.s 89)),G 91 88 true (.len 1 (.s 90)),G 92 88 true (.bin .leq (.s 91) (V 4)),I 93 (.pick (.s 88) (.s 92) (.v (.bool false))),I 65 (.mv (.s 93))])
def ZZw:PC :=
 (.reg [2] [I 2 (.mv (V 4))])
def ZWb:PC :=
 (.reg [2] [I 2 (.mv (V 0))])
def ZQ5:PF:=⟨false,
 (.seq ZZn
 (.seq ZZo
 (.seq (.block 0
 (.seq ZZp
 (.ite (.s 13)
 (.seq ZZq
 .ret)
 (.seq ZZr
 (.ite (.s 31)
 (.seq ZZs
 .ret)
 (.seq ZZt
 (.ite (.s 46)
 (.seq ZZu
 .ret)
 (.seq ZZv
 (.ite (.s 65)
 (.seq ZZw
 .ret)
 .skip)))))))))
 (.seq ZWb
 .ret)))),
 [.s 2]⟩
theorem Zff:Zv Proofs.Tryz.prog false Zfe Proofs.Tryz.f95=some ZQ5:=by kernel_rfl
def ZdE:List Hint:=[H [1],H [1,5],H [2],H [9],H [2],H [2]]
def ZWc:PC :=
 (.reg [1] [I 1 (.box (.s 0)),I 2 (.mv (V 0))])
def ZWd:PC :=
 (.reg [1,5] [I 3 (.ld true 3 (.s 1)),I 4 (C ZAx [(.s 3)]),I 5 (.un .not (.s 4))])
def ZWe:PC :=
 (.reg [2] [I 2 (.mv (V 23))])
def ZWf:PC :=
 (.reg [9] [I 6 (.ld true 3 (.s 1)),I 7 (C ZCE [(.s 6)]),I 8 (.fld false 0 1 (.s 7)),I 9 (.bin .gtr (.s 8) (V 65536))])
def ZWg:PC :=
 (.reg [2] [I 2 (.mv (V 5))])
def ZWh:PC :=
 (.reg [2] [I 2 (.mv (V 0))])
def ZMl:PF:=⟨false,
 (.seq ZWc
 (.seq (.seq ZWd
 (.ite (.s 5)
 (.seq ZWe
 .ret)
 .skip))
 (.seq (.seq ZWf
 (.ite (.s 9)
 (.seq ZWg
 .ret)
 .skip))
 (.seq ZWh
 .ret)))),
 [.s 2]⟩
theorem ZdF:Zv Proofs.Tryz.prog false ZdE Proofs.Tryz.f104=some ZMl:=by kernel_rfl
def ZWi:List Hint:=[H [1,2],H [1,2,4],H [1,2,4,8],H [2,3],H [2,3]]
def ZPY:PC :=
 (.reg [1,2] [I 1 (.box (.s 0)),I 2 (.box (.v ZM)),I 3 (.mv (V 0))])
def ZPZ:PC :=
 (.reg [1,2,4] [I 5 (.ld true 3 (.s 1)),I 6 (C ZBb [(.s 5)]),I 4 (.mv (.s 6))])
def ZPa:PC :=
 (.reg [1,2,4,8] [I 7 (.mv (.s 4)),I 8 (.bin .neq (.s 7) (V 0))])
def ZPb:PC :=
 (.reg [2,3] [I 9 (.build [(.int .i64 0),(.int .i64 0),(.int .i64 0)] []),I 10 (.mv (.s 4)),J (.st 3 (.s 2) (.s 9)),I 3 (.mv (.s 10))])
def ZPc:PC :=
 (.reg [2,3] [I 11 (.ld true 3 (.s 1)),I 12 (C ZCE [(.s 11)]),J (.st 3 (.s 2) (.s 12)),I 3 (.mv (V 0))])
def ZIW:PF:=⟨false,
 (.seq ZPY
 (.seq (.seq ZPZ
 (.seq ZPa
 (.ite (.s 8)
 (.seq ZPb
 .ret)
 .skip)))
 (.seq ZPc
 .ret))),
 [.c 2 true 3,.s 3]⟩
theorem ZWj:Zv Proofs.Tryz.prog false ZWi Proofs.Tryz.f105=some ZIW:=by kernel_rfl
def ZIX:List Hint:=[H [0],H [0,6],H [2,3],H [0,12],H [2,3],H [0,4],H [0,4],H [0,4],H [2,3]]
def ZFe:PC :=
 (.reg [0] [I 2 (.mv (.v (.int .u64 0))),I 3 (.mv (V 0))])
def ZFf:PC :=
 (.reg [0,6] [I 5 (.mv (.s 0)),I 6 (.eqs false 3 [] (.s 5) (.v .nilptr))])
def ZFg:PC :=
 (.reg [2,3] [I 2 (.mv (.v (.int .u64 0))),I 3 (.mv (V 1))])
def ZFh:PC :=
 (.reg [0,12] [I 7 (.mv (.s 0)),I 8 (.nilck (.s 7)),I 9 (.fadr 0 (.s 8)),I 10 (.ld false 1 (.s 9)),I 11 (.len 1 (.s 10)),I 12 (.bin .eql (.s 11) (V 0))])
def ZFi:PC :=
 (.reg [2,3] [I 2 (.mv (.v (.int .u64 0))),I 3 (.mv (V 6))])
def ZFj:PC :=
 (.reg [0,4] [I 13 (.mv (.s 0)),I 14 (.nilck (.s 13)),I 15 (.fadr 0 (.s 14)),I 16 (.ld false 1 (.s 15)),I 17 (.mv (.s 0)),I 18 (.nilck (.s 17)),I 19 (.fadr 0 (.s 18)),I 20 (.ld false 1 (.s 19)),I 21 (.len 1 (.s 20)),I 22 (.bin .sub (.s 21) (V 1)),I 23 (.ixS 1 (.s 16) (.s 22)),I 24 (.ld false 1 (.s 23)),I 4 (.mv (.s 24))])
def ZFk:PC :=
 (.reg [0,4] [I 25 (.mv (.s 0)),I 26 (.mv (.s 0)),I 27 (.nilck (.s 26)),I 28 (.fadr 0 (.s 27)),I 29 (.ld false 1 (.s 28)),I 30 (.mv (.s 0)),I 31 (.nilck (.s 30)),I 32 (.fadr 0 (.s 31)),I 33 (.ld false 1 (.s 32)),I 34 (.len 1 (.s 33)),I 35 (.bin .sub (.s 34) (V 1)),I 36 (.slc 1 (.s 29) none (some (.s 35))),I 37 (.nilck (.s 25)),I 38 (.fadr 0 (.s 37)),J (.st 1 (.s 38) (.s 36))])
def ZFl:PC :=
 (.reg [0,4] [I 39 (.mv (.s 0)),I 40 (.nilck (.s 39)),I 41 (.fadr 1 (.s 40)),I 42 (.ld false 1 (.s 41)),I 43 (.mv (.s 4)),I 44 (.ixS 1 (.s 42) (.s 43)),J (.st 1 (.s 44) (.v (.int .u8 1)))])
def ZFm:PC :=
 (.reg [2,3] [I 45 (.mv (.s 4)),I 46 (.mv (.s 0)),I 47 (.nilck (.s 46)),I 48 (.fadr 2 (.s 47)),I 49 (.ld false 1 (.s 48)),I 50 (.mv (.s 4)),I 51 (.ixS 1 (.s 49) (.s 50)),I 52 (.ld false 1 (.s 51)),I 53 (C ZAv [(.s 45),(.s 52)]),I 54 (.ext (.s 53) 0),I 55 (.ext (.s 53) 1),I 2 (.mv (.s 54)),I 3 (.mv (.s 55))])
def ZA9:PF:=⟨false,
 (.seq ZFe
 (.seq (.seq ZFf
 (.ite (.s 6)
 (.seq ZFg
 .ret)
 .skip))
 (.seq (.seq ZFh
 (.ite (.s 12)
 (.seq ZFi
 .ret)
 .skip))
 (.seq ZFj
 (.seq ZFk
 (.seq ZFl
 (.seq ZFm
 .ret))))))),
 [.s 2,.s 3]⟩
theorem ZIY:Zv Proofs.Tryz.prog false ZIX Proofs.Tryz.f106=some ZA9:=by kernel_rfl
def Zfg:List Hint:=[H [0,1,2,7],H [2,7,9,10],H [2,7,9,10,19],H [8],H [2,7,9,10,11],H [38],H [8],H [8]]
def ZZx:PC :=
 (.reg [0,1,2,7] [I 7 (.box (.s 3)),I 8 (.mv (V 0))])
def ZZy:PC :=
 (.reg [2,7,9,10] [I 13 (.mv (.s 0)),I 14 (.mv (.s 1)),I 15 (C Qq [(.s 13),(.s 14)]),I 12 (.mv (.s 15)),I 16 (.ext (.s 12) 0),I 17 (.ext (.s 12) 1),I 9 (.box (.v ZN)),J (.st 3 (.s 9) (.s 16)),I 10 (.mv (.s 17))])
def ZZz:PC :=
 (.reg [2,7,9,10,19] [I 18 (.mv (.s 10)),I 19 (.bin .neq (.s 18) (V 0))])
def ZZ0:PC :=
 (.reg [8] [I 20 (.mv (.s 10)),I 8 (.mv (.s 20))])
def ZZ1:PC :=
 (.reg [2,7,9,10,11] [I 22 (.ld true 3 (.s 9)),I 23 (C Y7 [(.s 22)]),I 21 (.mv (.s 23)),I 24 (.ext (.s 21) 0),I 25 (.ext (.s 21) 1),I 11 (.box (.v ZM)),J (.st 3 (.s 11) (.s 24)),I 10 (.mv (.s 25))])
def ZZ2:PC :=
 (.reg [38] [I 26 (.mv (.s 10)),I 27 (.bin .neq (.s 26) (V 0)),I 28 (.mv (.s 27)),G 29 28 false (.fadr 0 (.s 9)),G 30 28 false (.ld false 1 (.s 29)),G 31 28 false (.mv (.s 2)),G 32 28 false (.bin .neq (.s 30) (.s 31)),I 33 (.pick (.s 28) (.v (.bool true)) (.s 32)),I 34 (.mv (.s 33)),G 35 34 false (.ld true 3 (.s 11)),G 36 34 false (.ld true 3 (.s 7)),G 37 34 false (.eqs true 0 [(0,0),(1,0),(2,0)] (.s 35) (.s 36)),I 38 (.pick (.s 34) (.v (.bool true)) (.s 37))])
def ZZ3:PC :=
 (.reg [8] [I 8 (.mv (V 23))])
def ZZ4:PC :=
 (.reg [8] [I 8 (.mv (V 0))])
def ZQ6:PF:=⟨false,
 (.seq ZZx
 (.seq ZZy
 (.seq (.seq ZZz
 (.ite (.s 19)
 (.seq ZZ0
 .ret)
 .skip))
 (.seq ZZ1
 (.seq (.seq ZZ2
 (.ite (.s 38)
 (.seq ZZ3
 .ret)
 .skip))
 (.seq ZZ4
 .ret)))))),
 [.s 8]⟩
theorem Zfh:Zv Proofs.Tryz.prog false Zfg Proofs.Tryz.f112=some ZQ6:=by kernel_rfl
def Zfi:List Hint:=[H [0,3,5,6],H [0,3,5,6,14,15,16],H [0,3,5,6,14,15,16,17],H [0,3,5,6,10,14,15,16],H [0,3,5,6,11,14,15,16],H [0,3,5,6,11,14,15,16,24],H [8],H [0,3,5,6,14,15,16],H [5,6,38],H [8],⟨[44],[],[(1,.pure)],[],[],[]⟩,H [8],H [8]]
def ZZ5:PC :=
 (.reg [0,3,5,6] [I 5 (.box (.s 1)),I 6 (.box (.s 2)),I 8 (.mv (V 0))])
def ZZ6:PC :=
 (.reg [0,3,5,6,14,15,16] [I 12 (.ld true 7 (.s 5)),I 13 (.ld true 7 (.s 6)),I 14 (.bslice false 7 [ZT,ZT] [(0,(.s 12)),(1,(.s 13))]),I 15 (.len 1 (.s 14)),I 16 (.mv (V 0))])
def ZZ7:PC :=
 (.reg [0,3,5,6,14,15,16,17] [I 17 (.bin .lss (.s 16) (.s 15))])
def ZZ8:PC :=
 (.reg [0,3,5,6,10,14,15,16] [I 18 (.ixS 7 (.s 14) (.s 16)),I 19 (.ld true 7 (.s 18)),I 10 (.box (.v ZT)),J (.st 7 (.s 10) (.s 19))])
def ZZ9:PC :=
 (.reg [0,3,5,6,11,14,15,16] [I 20 (.mv (.s 0)),I 21 (.ld true 7 (.s 10)),I 22 (C Jp [(.s 20),(.s 21)]),I 11 (.mv (.s 22))])
def ZaA:PC :=
 (.reg [0,3,5,6,11,14,15,16,24] [I 23 (.mv (.s 11)),I 24 (.bin .neq (.s 23) (V 0))])
def ZaB:PC :=
 (.reg [8] [I 25 (.mv (.s 11)),I 8 (.mv (.s 25))])
def ZaC:PC :=
 (.reg [0,3,5,6,14,15,16] [I 26 (.bin .add (.s 16) (V 1)),I 16 (.mv (.s 26))])
def ZaD:PC :=
 (.seq ZZ7
 (.seq (.ite (.s 17)
 .skip
 (.exit 0))
 (.seq (.block 1
 (.seq ZZ8
 (.seq ZZ9
 (.seq ZaA
 (.ite (.s 24)
 (.seq ZaB
 .ret)
 .skip)))))
 ZaC)))
def ZaE:PC :=
 (.reg [5,6,38] [I 27 (.mv (.s 3)),I 28 (.un .not (.s 27)),I 29 (.mv (.s 28)),G 30 29 true (.ld true 7 (.s 5)),G 31 29 true (C QY [(.s 30)]),G 32 29 true (.bin .eql (.s 31) (V 1)),G 33 29 true (.mv (.s 32)),G 34 33 false (.ld true 7 (.s 6)),G 35 33 false (C QY [(.s 34)]),G 36 33 false (.bin .eql (.s 35) (V 1)),G 37 29 true (.pick (.s 33) (.v (.bool true)) (.s 36)),I 38 (.pick (.s 29) (.s 37) (.v (.bool false)))])
def ZWk:PC :=
 (.reg [8] [I 8 (.mv (V 2))])
def ZWl:PC :=
 (.reg [44] [I 39 (.ld true 7 (.s 5)),I 40 (.call .pure (.v (.func (.func Qa) [] [])) [(.s 39)]),I 41 (.ld true 7 (.s 6)),I 42 (C Qa [(.s 41)]),I 43 (.bin .add (.s 40) (.s 42)),I 44 (.bin .gtr (.s 43) (V 65536))])
def ZWm:PC :=
 (.reg [8] [I 8 (.mv (V 5))])
def ZWn:PC :=
 (.reg [8] [I 8 (.mv (V 0))])
def ZQ7:PF:=⟨false,
 (.seq ZZ5
 (.seq (.seq ZZ6
 (.block 0
 (.loop ZaD)))
 (.seq (.seq ZaE
 (.ite (.s 38)
 (.seq ZWk
 .ret)
 .skip))
 (.seq (.seq ZWl
 (.ite (.s 44)
 (.seq ZWm
 .ret)
 .skip))
 (.seq ZWn
 .ret))))),
 [.s 8]⟩
theorem Zfj:Zv Proofs.Tryz.prog false Zfi Proofs.Tryz.f113=some ZQ7:=by kernel_rfl
def ZaF:List Hint:=[H [0,4,5,6],H [0,4,5,6,12],H [6,7],H [0,4,5,6,16],H [6,7],H [6,8,9],H [6,8,9,26],H [6,7],H [6,7]]
def ZSK:PC :=
 (.reg [0,4,5,6] [I 4 (.box (.s 1)),I 5 (.box (.s 2)),I 6 (.box (.v ZT)),I 7 (.mv (V 0))])
def ZSL:PC :=
 (.reg [0,4,5,6,12] [I 10 (.ld true 7 (.s 4)),I 11 (C QY [(.s 10)]),I 12 (.bin .eql (.s 11) (V 1))])
def ZSM:PC :=
 (.reg [6,7] [I 13 (.ld true 7 (.s 5)),J (.st 7 (.s 6) (.s 13)),I 7 (.mv (V 0))])
def ZSN:PC :=
 (.reg [0,4,5,6,16] [I 14 (.ld true 7 (.s 5)),I 15 (C QY [(.s 14)]),I 16 (.bin .eql (.s 15) (V 1))])
def ZSO:PC :=
 (.reg [6,7] [I 17 (.ld true 7 (.s 4)),J (.st 7 (.s 6) (.s 17)),I 7 (.mv (V 0))])
def ZSP:PC :=
 (.reg [6,8,9] [I 19 (.mv (.s 0)),I 20 (.ld true 7 (.s 4)),I 21 (.ld true 7 (.s 5)),I 22 (C ZAH [(.s 19),(.s 20),(.s 21)]),I 18 (.mv (.s 22)),I 23 (.ext (.s 18) 0),I 24 (.ext (.s 18) 1),I 8 (.mv (.s 23)),I 9 (.mv (.s 24))])
def ZSQ:PC :=
 (.reg [6,8,9,26] [I 25 (.mv (.s 9)),I 26 (.bin .neq (.s 25) (V 0))])
def ZSR:PC :=
 (.reg [6,7] [I 27 (.build [(.int .u64 0),(.int .i64 0),(.int .i64 0),(.int .i64 0),(.int .i64 0),(.str []),.nils] []),I 28 (.mv (.s 9)),J (.st 7 (.s 6) (.s 27)),I 7 (.mv (.s 28))])
def ZSS:PC :=
 (.reg [6,7] [I 29 (.mv (.s 8)),I 30 (C QP [(.s 29)]),J (.st 7 (.s 6) (.s 30)),I 7 (.mv (V 0))])
def ZJ1:PF:=⟨false,
 (.seq ZSK
 (.seq (.seq ZSL
 (.ite (.s 12)
 (.seq ZSM
 .ret)
 .skip))
 (.seq (.seq ZSN
 (.ite (.s 16)
 (.seq ZSO
 .ret)
 .skip))
 (.seq ZSP
 (.seq (.seq ZSQ
 (.ite (.s 26)
 (.seq ZSR
 .ret)
 .skip))
 (.seq ZSS
 .ret)))))),
 [.c 6 true 7,.s 7]⟩
theorem ZaG:Zv Proofs.Tryz.prog false ZaF Proofs.Tryz.f114=some ZJ1:=by kernel_rfl
def ZhV:List Hint:=[H [1,2],H [1,2,9],H [1,2],H [2],H [1,2,3],H [1,2,3,17,18,19],H [1,2,3,17,18,19,20],H [1,2,3,4,5,17,18,19],H [1,2,3,17,18,19],H [1,2,3,17,18,19],H [1,2],H [2]]
def ZdG:PC :=
 (.reg [1,2] [I 1 (.box (.s 0)),I 2 (.box (.v ZT))])
def ZdH:PC :=
 (.reg [1,2,9] [I 6 (.fadr 6 (.s 1)),I 7 (.ld false 1 (.s 6)),I 8 (.len 1 (.s 7)),I 9 (.bin .eql (.s 8) (V 0))])
def ZdI:PC :=
 (.reg [1,2] [I 10 (.fadr 6 (.s 1)),J (.st 1 (.s 10) (.v .nils))])
def ZdJ:PC :=
 (.reg [2] [I 11 (.ld true 7 (.s 1)),J (.st 7 (.s 2) (.s 11))])
def ZdK:PC :=
 (.reg [1,2,3] [I 12 (.fadr 6 (.s 1)),I 13 (.ld false 1 (.s 12)),I 14 (.len 1 (.s 13)),I 15 (.mkslice 7 80 ZT (.s 14) (.s 14)),I 3 (.mv (.s 15))])
def ZdL:PC :=
 (.reg [1,2,3,17,18,19] [I 16 (.fadr 6 (.s 1)),I 17 (.ld false 1 (.s 16)),I 18 (.len 1 (.s 17)),I 19 (.mv (V 0))])
def ZdM:PC :=
 (.reg [1,2,3,17,18,19,20] [I 20 (.bin .lss (.s 19) (.s 18))])
def ZdN:PC :=
 (.reg [1,2,3,4,5,17,18,19] [I 21 (.mv (.s 19)),I 22 (.ixS 7 (.s 17) (.s 19)),I 23 (.ld true 7 (.s 22)),I 5 (.box (.v ZT)),I 4 (.mv (.s 21)),J (.st 7 (.s 5) (.s 23))])
def ZdO:PC :=
 (.reg [1,2,3,17,18,19] [I 24 (.mv (.s 3)),I 25 (.mv (.s 4)),I 26 (.ld true 7 (.s 5)),I 27 (C ZAj [(.s 26)]),I 28 (.ixS 7 (.s 24) (.s 25)),J (.st 7 (.s 28) (.s 27))])
def ZdP:PC :=
 (.reg [1,2,3,17,18,19] [I 29 (.bin .add (.s 19) (V 1)),I 19 (.mv (.s 29))])
def ZaH:PC :=
 (.seq ZdM
 (.seq (.ite (.s 20)
 .skip
 (.exit 0))
 (.seq (.block 1
 (.seq ZdN
 ZdO))
 ZdP)))
def ZaI:PC :=
 (.reg [1,2] [I 30 (.mv (.s 3)),I 31 (.fadr 6 (.s 1)),J (.st 1 (.s 31) (.s 30))])
def ZaJ:PC :=
 (.reg [2] [I 32 (.ld true 7 (.s 1)),J (.st 7 (.s 2) (.s 32))])
def ZWo:PF:=⟨false,
 (.seq ZdG
 (.seq (.seq ZdH
 (.ite (.s 9)
 (.seq ZdI
 (.seq ZdJ
 .ret))
 .skip))
 (.seq ZdK
 (.seq (.seq ZdL
 (.block 0
 (.loop ZaH)))
 (.seq ZaI
 (.seq ZaJ
 .ret)))))),
 [.c 2 true 7]⟩
theorem ZhW:Zv Proofs.Tryz.prog false ZhV Proofs.Tryz.f115=some ZWo:=by kernel_rfl
def ZdQ:List Hint:=[H [1],H [1,3],H [3,14,15,16],H [3,14,15,16,17],H [3,5,14,15,16],H [3,14,15,16],H [3,14,15,16],H [2]]
def ZWp:PC :=
 (.reg [1] [I 1 (.box (.s 0)),I 2 (.mv (V 0))])
def ZWq:PC :=
 (.reg [1,3] [I 6 (.fadr 2 (.s 1)),I 7 (.fadr 0 (.s 6)),I 8 (.ld false 1 (.s 7)),I 9 (.fadr 5 (.s 1)),I 10 (.ld false 1 (.s 9)),I 11 (.len 0 (.s 10)),I 12 (.bin .add (.s 8) (.s 11)),I 3 (.mv (.s 12))])
def ZWr:PC :=
 (.reg [3,14,15,16] [I 13 (.fadr 6 (.s 1)),I 14 (.ld false 1 (.s 13)),I 15 (.len 1 (.s 14)),I 16 (.mv (V 0))])
def ZWs:PC :=
 (.reg [3,14,15,16,17] [I 17 (.bin .lss (.s 16) (.s 15))])
def ZWt:PC :=
 (.reg [3,5,14,15,16] [I 18 (.ixS 7 (.s 14) (.s 16)),I 19 (.ld true 7 (.s 18)),I 5 (.box (.v ZT)),J (.st 7 (.s 5) (.s 19))])
def ZWu:PC :=
 (.reg [3,14,15,16] [I 20 (.mv (.s 3)),I 21 (.ld true 7 (.s 5)),I 22 (C Qa [(.s 21)]),I 23 (.bin .add (.s 20) (.s 22)),I 3 (.mv (.s 23))])
def ZWv:PC :=
 (.reg [3,14,15,16] [I 24 (.bin .add (.s 16) (V 1)),I 16 (.mv (.s 24))])
def ZWw:PC :=
 (.seq ZWs
 (.seq (.ite (.s 17)
 .skip
 (.exit 0))
 (.seq (.block 1
 (.seq ZWt
 ZWu))
 ZWv)))
def ZWx:PC :=
 (.reg [2] [I 25 (.mv (.s 3)),I 2 (.mv (.s 25))])
def ZMm:PF:=⟨false,
 (.seq ZWp
 (.seq ZWq
 (.seq (.seq ZWr
 (.block 0
 (.loop ZWw)))
 (.seq ZWx
 .ret)))),
 [.s 2]⟩
theorem ZdR:Zv Proofs.Tryz.prog false ZdQ Proofs.Tryz.f116=some ZMm:=by kernel_rfl
def ZhX:List Hint:=[H [0,2,4,6,7],H [0,2,4,6,7,18],⟨[6,7,8],[],[],[],[(1,(.hide [(.s 6)])),(2,(.plain (.s 6)))],[]⟩,H [0,2,4,6,7,24],H [6,7,8],H [0,2,4,6,7,29],H [2,6,7,9,10],H [2,6,7,9,10,37],H [6,7,8],H [6,7,10,11,12],H [6,7,8],H [0,2,6,7,8,13],H [0,2,6,7,8,13,60],H [6,7,8],H [0,2,6,7,13,14],H [0,2,6,7,13,14,77],H [0,2,6,7,13,14],H [0,2,6,7,13,14],H [0,2,6,7,13,14,88],⟨[6,7,8],[],[(3,.pure)],[],[],[]⟩,H [0,6,7,8,13,14,15,16],H [0,6,7,8,13,14,15,16,109],H [6,7,8],⟨[0,6,7,8,13,14,16],[],[(4,.pure)],[],[],[]⟩,H [0,6,7,8,13,14,16,124],H [6,7,8],⟨[6,7,8],[],[(6,.pure)],[],[],[]⟩,H [6,7,8,140],H [6,7,8],⟨[6,7,8],[],[],[],[(1,(.hide [(.s 6)])),(2,(.plain (.s 6)))],[]⟩]
def ZdS:PC :=
 (.reg [0,2,4,6,7] [I 4 (.box (.s 1)),I 6 (.box (.v ZT)),I 7 (.box (.v ZT)),I 8 (.mv (V 0))])
def ZdT:PC :=
 (.reg [0,2,4,6,7,18] [I 17 (.mv (.s 2)),I 18 (.bin .eql (.s 17) (V 0))])
def ZdU:PC :=
 (.reg [6,7,8] [I 19 (.build [(.int .u64 0),(.int .i64 0),(.int .i64 0),(.int .i64 0),(.int .i64 0),(.str []),.nils] []),I 20 (.w (.hide [(.s 6)]) (.ld true 7 (.s 4))),J (.w (.plain (.s 6)) (.st 7 (.s 6) (.s 19))),J (.st 7 (.s 7) (.s 20)),I 8 (.mv (V 0))])
def ZdV:PC :=
 (.reg [0,2,4,6,7,24] [I 21 (.mv (.s 2)),I 22 (.ld true 7 (.s 4)),I 23 (C Qa [(.s 22)]),I 24 (.bin .eql (.s 21) (.s 23))])
def ZdW:PC :=
 (.reg [6,7,8] [I 25 (.ld true 7 (.s 4)),I 26 (.build [(.int .u64 0),(.int .i64 0),(.int .i64 0),(.int .i64 0),(.int .i64 0),(.str []),.nils] []),J (.st 7 (.s 6) (.s 25)),J (.st 7 (.s 7) (.s 26)),I 8 (.mv (V 0))])
def ZdX:PC :=
 (.reg [0,2,4,6,7,29] [I 27 (.fadr 1 (.s 4)),I 28 (.ld false 1 (.s 27)),I 29 (.bin .eql (.s 28) (V 0))])
def ZdY:PC :=
 (.reg [2,6,7,9,10] [I 31 (.mv (.s 0)),I 32 (.ld true 7 (.s 4)),I 33 (C X6 [(.s 31),(.s 32)]),I 30 (.mv (.s 33)),I 34 (.ext (.s 30) 0),I 35 (.ext (.s 30) 1),I 9 (.mv (.s 34)),I 10 (.mv (.s 35))])
def ZdZ:PC :=
 (.reg [2,6,7,9,10,37] [I 36 (.mv (.s 10)),I 37 (.bin .neq (.s 36) (V 0))])
def Zda:PC :=
 (.reg [6,7,8] [I 38 (.build [(.int .u64 0),(.int .i64 0),(.int .i64 0),(.int .i64 0),(.int .i64 0),(.str []),.nils] []),I 39 (.build [(.int .u64 0),(.int .i64 0),(.int .i64 0),(.int .i64 0),(.int .i64 0),(.str []),.nils] []),I 40 (.mv (.s 10)),J (.st 7 (.s 6) (.s 38)),J (.st 7 (.s 7) (.s 39)),I 8 (.mv (.s 40))])
def Zdb:PC :=
 (.reg [6,7,10,11,12] [I 42 (.mv (.s 9)),I 43 (.mv (.s 2)),I 44 (C ZHY [(.s 42),(.s 43)]),I 41 (.mv (.s 44)),I 45 (.ext (.s 41) 0),I 46 (.ext (.s 41) 1),I 47 (.ext (.s 41) 2),I 11 (.mv (.s 45)),I 12 (.mv (.s 46)),I 10 (.mv (.s 47))])
def ZaK:PC :=
 (.reg [6,7,8] [I 48 (.mv (.s 11)),I 49 (.build [(.int .u64 0),(.int .i64 0),(.int .i64 0),(.int .i64 0),(.int .i64 0),(.str []),.nils] [(5,1,(.s 48))]),I 50 (.mv (.s 12)),I 51 (.build [(.int .u64 0),(.int .i64 0),(.int .i64 0),(.int .i64 0),(.int .i64 0),(.str []),.nils] [(5,1,(.s 50))]),I 52 (.mv (.s 10)),J (.st 7 (.s 6) (.s 49)),J (.st 7 (.s 7) (.s 51)),I 8 (.mv (.s 52))])
def ZaL:PC :=
 (.reg [0,2,6,7,8,13] [I 54 (.mv (.s 0)),I 55 (.ld true 7 (.s 4)),I 56 (C J5 [(.s 54),(.s 55)]),I 53 (.mv (.s 56)),I 57 (.ext (.s 53) 0),I 58 (.ext (.s 53) 1),I 13 (.mv (.s 57)),I 8 (.mv (.s 58))])
def ZaM:PC :=
 (.reg [0,2,6,7,8,13,60] [I 59 (.mv (.s 8)),I 60 (.bin .neq (.s 59) (V 0))])
def ZaN:PC :=
 (.reg [6,7,8] [I 61 (.build [(.int .u64 0),(.int .i64 0),(.int .i64 0),(.int .i64 0),(.int .i64 0),(.str []),.nils] []),I 62 (.build [(.int .u64 0),(.int .i64 0),(.int .i64 0),(.int .i64 0),(.int .i64 0),(.str []),.nils] []),I 63 (.mv (.s 8)),J (.st 7 (.s 6) (.s 61)),J (.st 7 (.s 7) (.s 62)),I 8 (.mv (.s 63))])
def ZaO:PC :=
 (.reg [0,2,6,7,13,14] [I 14 (.mv (V 0))])
def ZaP:PC :=
 (.reg [0,2,6,7,13,14,77] [I 64 (.mv (.s 14)),I 65 (.bin .add (.s 64) (V 1)),I 66 (.mv (.s 13)),I 67 (.len 1 (.s 66)),I 68 (.bin .lss (.s 65) (.s 67)),I 69 (.mv (.s 68)),G 70 69 true (.mv (.s 2)),G 71 69 true (.mv (.s 13)),G 72 69 true (.mv (.s 14)),G 73 69 true (.ixS 7 (.s 71) (.s 72)),G 74 69 true (.ld true 7 (.s 73)),G 75 69 true (C Qa [(.s 74)]),G 76 69 true (.bin .geq (.s 70) (.s 75)),I 77 (.pick (.s 69) (.s 76) (.v (.bool false)))])
def ZaQ:PC :=
 (.reg [0,2,6,7,13,14] [I 78 (.mv (.s 2)),I 79 (.mv (.s 13)),I 80 (.mv (.s 14)),I 81 (.ixS 7 (.s 79) (.s 80)),I 82 (.ld true 7 (.s 81)),I 83 (C Qa [(.s 82)]),I 84 (.bin .sub (.s 78) (.s 83)),I 2 (.mv (.s 84))])
def ZaR:PC :=
 (.reg [0,2,6,7,13,14] [I 85 (.mv (.s 14)),I 86 (.bin .add (.s 85) (V 1)),I 14 (.mv (.s 86))])
def ZJ2:PC :=
 (.seq (.seq ZaP
 (.ite (.s 77)
 .skip
 (.exit 0)))
 (.block 1
 (.seq ZaQ
 ZaR)))
def ZaS:PC :=
 (.reg [0,2,6,7,13,14,88] [I 87 (.mv (.s 2)),I 88 (.bin .eql (.s 87) (V 0))])
def ZaT:PC :=
 (.reg [6,7,8] [I 89 (.mv (.s 13)),I 90 (.mv (.s 14)),I 91 (.slc 7 (.s 89) none (some (.s 90))),I 92 (.call .pure (.v (.func (.func QP) [] [])) [(.s 91)]),I 93 (.mv (.s 13)),I 94 (.mv (.s 14)),I 95 (.slc 7 (.s 93) (some (.s 94)) none),I 96 (C QP [(.s 95)]),J (.st 7 (.s 6) (.s 92)),J (.st 7 (.s 7) (.s 96)),I 8 (.mv (V 0))])
def ZaU:PC :=
 (.reg [0,6,7,8,13,14,15,16] [I 98 (.mv (.s 0)),I 99 (.mv (.s 13)),I 100 (.mv (.s 14)),I 101 (.ixS 7 (.s 99) (.s 100)),I 102 (.ld true 7 (.s 101)),I 103 (.mv (.s 2)),I 104 (C ZAk [(.s 98),(.s 102),(.s 103)]),I 97 (.mv (.s 104)),I 105 (.ext (.s 97) 0),I 106 (.ext (.s 97) 1),I 107 (.ext (.s 97) 2),I 15 (.box (.v ZT)),I 16 (.box (.v ZT)),J (.st 7 (.s 15) (.s 105)),J (.st 7 (.s 16) (.s 106)),I 8 (.mv (.s 107))])
def ZaV:PC :=
 (.reg [0,6,7,8,13,14,15,16,109] [I 108 (.mv (.s 8)),I 109 (.bin .neq (.s 108) (V 0))])
def ZaW:PC :=
 (.reg [6,7,8] [I 110 (.build [(.int .u64 0),(.int .i64 0),(.int .i64 0),(.int .i64 0),(.int .i64 0),(.str []),.nils] []),I 111 (.build [(.int .u64 0),(.int .i64 0),(.int .i64 0),(.int .i64 0),(.int .i64 0),(.str []),.nils] []),I 112 (.mv (.s 8)),J (.st 7 (.s 6) (.s 110)),J (.st 7 (.s 7) (.s 111)),I 8 (.mv (.s 112))])
def ZaX:PC :=
 (.reg [0,6,7,8,13,14,16] [I 114 (.mv (.s 0)),I 115 (.mv (.s 13)),I 116 (.mv (.s 14)),I 117 (.slc 7 (.s 115) none (some (.s 116))),I 118 (.call .pure (.v (.func (.func QP) [] [])) [(.s 117)]),I 119 (.ld true 7 (.s 15)),I 120 (C YB [(.s 114),(.s 118),(.s 119)]),I 113 (.mv (.s 120)),I 121 (.ext (.s 113) 0),I 122 (.ext (.s 113) 1),J (.st 7 (.s 6) (.s 121)),I 8 (.mv (.s 122))])
def ZaY:PC :=
 (.reg [0,6,7,8,13,14,16,124] [I 123 (.mv (.s 8)),I 124 (.bin .neq (.s 123) (V 0))])
def ZaZ:PC :=
 (.reg [6,7,8] [I 125 (.build [(.int .u64 0),(.int .i64 0),(.int .i64 0),(.int .i64 0),(.int .i64 0),(.str []),.nils] []),I 126 (.build [(.int .u64 0),(.int .i64 0),(.int .i64 0),(.int .i64 0),(.int .i64 0),(.str []),.nils] []),I 127 (.mv (.s 8)),J (.st 7 (.s 6) (.s 125)),J (.st 7 (.s 7) (.s 126)),I 8 (.mv (.s 127))])
def Zaa:PC :=
 (.reg [6,7,8] [I 129 (.mv (.s 0)),I 130 (.ld true 7 (.s 16)),I 131 (.mv (.s 13)),I 132 (.mv (.s 14)),I 133 (.bin .add (.s 132) (V 1)),I 134 (.slc 7 (.s 131) (some (.s 133)) none),I 135 (.call .pure (.v (.func (.func QP) [] [])) [(.s 134)]),I 136 (C YB [(.s 129),(.s 130),(.s 135)]),I 128 (.mv (.s 136)),I 137 (.ext (.s 128) 0),I 138 (.ext (.s 128) 1),J (.st 7 (.s 7) (.s 137)),I 8 (.mv (.s 138))])
def Zab:PC :=
 (.reg [6,7,8,140] [I 139 (.mv (.s 8)),I 140 (.bin .neq (.s 139) (V 0))])
def Zac:PC :=
 (.reg [6,7,8] [I 141 (.build [(.int .u64 0),(.int .i64 0),(.int .i64 0),(.int .i64 0),(.int .i64 0),(.str []),.nils] []),I 142 (.build [(.int .u64 0),(.int .i64 0),(.int .i64 0),(.int .i64 0),(.int .i64 0),(.str []),.nils] []),I 143 (.mv (.s 8)),J (.st 7 (.s 6) (.s 141)),J (.st 7 (.s 7) (.s 142)),I 8 (.mv (.s 143))])
def Zad:PC :=
 (.reg [6,7,8] [I 144 (.ld true 7 (.s 6)),I 145 (.w (.hide [(.s 6)]) (.ld true 7 (.s 7))),J (.w (.plain (.s 6)) (.st 7 (.s 6) (.s 144))),J (.st 7 (.s 7) (.s 145)),I 8 (.mv (V 0))])
def ZWy:PF:=⟨false,
 (.seq ZdS
 (.seq (.seq ZdT
 (.ite (.s 18)
 (.seq ZdU
 .ret)
 .skip))
 (.seq (.seq ZdV
 (.ite (.s 24)
 (.seq ZdW
 .ret)
 .skip))
 (.seq (.seq ZdX
 (.ite (.s 29)
 (.seq ZdY
 (.seq (.seq ZdZ
 (.ite (.s 37)
 (.seq Zda
 .ret)
 .skip))
 (.seq Zdb
 (.seq ZaK
 .ret))))
 .skip))
 (.seq ZaL
 (.seq (.seq ZaM
 (.ite (.s 60)
 (.seq ZaN
 .ret)
 .skip))
 (.seq ZaO
 (.seq (.block 0
 (.loop ZJ2))
 (.seq (.seq ZaS
 (.ite (.s 88)
 (.seq ZaT
 .ret)
 .skip))
 (.seq ZaU
 (.seq (.seq ZaV
 (.ite (.s 109)
 (.seq ZaW
 .ret)
 .skip))
 (.seq (.seq ZaX
 (.seq ZaY
 (.ite (.s 124)
 (.seq ZaZ
 .ret)
 .skip)))
 (.seq (.seq Zaa
 (.seq Zab
 (.ite (.s 140)
 (.seq Zac
 .ret)
 .skip)))
 (.seq Zad
 .ret)))))))))))))),
 [.c 6 true 7,.c 7 true 7,.s 8]⟩
theorem ZhY:Zv Proofs.Tryz.prog false ZhX Proofs.Tryz.f117=some ZWy:=by kernel_rfl
def Zdc:List Hint:=[H [0,2,3,5],H [0,2,3,5,9],H [0,2,5,9,30],H [8],H [0,2,5,32],H [0,2,5,10],H [0,2,5,10,42],H [8],H [0,5,54],H [8],H [0,5,56,57,58],H [0,5,56,57,58,59],H [0,5,12,56,57,58],H [0,5,13,56,57,58],H [0,5,13,56,57,58,69],H [8],H [0,5,56,57,58],H [8]]
def ZWz:PC :=
 (.reg [0,2,3,5] [I 5 (.box (.s 1)),I 8 (.mv (V 0))])
def ZW0:PC :=
 (.reg [0,2,3,5,9] [I 14 (.ld true 7 (.s 5)),I 15 (C QY [(.s 14)]),I 9 (.mv (.s 15))])
def ZW1:PC :=
 (.reg [0,2,5,9,30] [I 16 (.mv (.s 9)),I 17 (.bin .eql (.s 16) (V 0)),I 18 (.mv (.s 17)),G 19 18 false (.mv (.s 9)),G 20 18 false (.bin .eql (.s 19) (V 1)),I 21 (.pick (.s 18) (.v (.bool true)) (.s 20)),I 22 (.mv (.s 21)),G 23 22 false (.mv (.s 2)),G 24 22 false (.mv (.s 23)),G 25 24 true (.fadr 1 (.s 5)),G 26 24 true (.ld false 1 (.s 25)),G 27 24 true (.mv (.s 3)),G 28 24 true (.bin .neq (.s 26) (.s 27)),G 29 22 false (.pick (.s 24) (.s 28) (.v (.bool false))),I 30 (.pick (.s 22) (.v (.bool true)) (.s 29))])
def ZW2:PC :=
 (.reg [8] [I 8 (.mv (V 23))])
def ZW3:PC :=
 (.reg [0,2,5,32] [I 31 (.mv (.s 9)),I 32 (.bin .eql (.s 31) (V 2))])
def ZW4:PC :=
 (.reg [0,2,5,10] [I 33 (.mv (.s 0)),I 34 (.fadr 0 (.s 5)),I 35 (.ld false 1 (.s 34)),I 36 (.fadr 1 (.s 5)),I 37 (.ld false 1 (.s 36)),I 38 (.fadr 2 (.s 5)),I 39 (.ld true 3 (.s 38)),I 40 (C ZDC [(.s 33),(.s 35),(.s 37),(.s 39)]),I 10 (.mv (.s 40))])
def ZW5:PC :=
 (.reg [0,2,5,10,42] [I 41 (.mv (.s 10)),I 42 (.bin .neq (.s 41) (V 0))])
def ZW6:PC :=
 (.reg [8] [I 43 (.mv (.s 10)),I 8 (.mv (.s 43))])
def ZW7:PC :=
 (.reg [0,5,54] [I 44 (.mv (.s 2)),I 45 (.mv (.s 44)),G 46 45 true (.fadr 1 (.s 5)),G 47 45 true (.ld false 1 (.s 46)),G 48 45 true (.bin .eql (.s 47) (V 0)),I 49 (.pick (.s 45) (.s 48) (.v (.bool false))),I 50 (.mv (.s 49)),G 51 50 true (.ld true 7 (.s 5)),G 52 50 true (C Qa [(.s 51)]),G 53 50 true (.bin .lss (.s 52) (V 8)),I 54 (.pick (.s 50) (.s 53) (.v (.bool false)))])
def ZW8:PC :=
 (.reg [8] [I 8 (.mv (V 23))])
def ZST:PC :=
 (.reg [0,5,56,57,58] [I 55 (.fadr 6 (.s 5)),I 56 (.ld false 1 (.s 55)),I 57 (.len 1 (.s 56)),I 58 (.mv (V 0))])
def ZSU:PC :=
 (.reg [0,5,56,57,58,59] [I 59 (.bin .lss (.s 58) (.s 57))])
def ZSV:PC :=
 (.reg [0,5,12,56,57,58] [I 60 (.ixS 7 (.s 56) (.s 58)),I 61 (.ld true 7 (.s 60)),I 12 (.box (.v ZT)),J (.st 7 (.s 12) (.s 61))])
def ZSW:PC :=
 (.reg [0,5,13,56,57,58] [I 62 (.mv (.s 0)),I 63 (.ld true 7 (.s 12)),I 64 (.fadr 1 (.s 5)),I 65 (.ld false 1 (.s 64)),I 66 (.bin .sub (.s 65) (V 1)),I 67 (C ZBc [(.s 62),(.s 63),(.v (.bool true)),(.s 66)]),I 13 (.mv (.s 67))])
def ZSX:PC :=
 (.reg [0,5,13,56,57,58,69] [I 68 (.mv (.s 13)),I 69 (.bin .neq (.s 68) (V 0))])
def ZSY:PC :=
 (.reg [8] [I 70 (.mv (.s 13)),I 8 (.mv (.s 70))])
def ZSZ:PC :=
 (.reg [0,5,56,57,58] [I 71 (.bin .add (.s 58) (V 1)),I 58 (.mv (.s 71))])
def ZGG:PC :=
 (.seq ZSU
 (.seq (.ite (.s 59)
 .skip
 (.exit 0))
 (.seq (.block 1
 (.seq ZSV
 (.seq ZSW
 (.seq ZSX
 (.ite (.s 69)
 (.seq ZSY
 .ret)
 .skip)))))
 ZSZ)))
def ZSa:PC :=
 (.reg [8] [I 8 (.mv (V 0))])
def ZMn:PF:=⟨false,
 (.seq ZWz
 (.seq ZW0
 (.seq (.seq ZW1
 (.ite (.s 30)
 (.seq ZW2
 .ret)
 .skip))
 (.seq (.seq ZW3
 (.ite (.s 32)
 (.seq ZW4
 (.seq ZW5
 (.ite (.s 42)
 (.seq ZW6
 .ret)
 .skip)))
 .skip))
 (.seq (.seq ZW7
 (.ite (.s 54)
 (.seq ZW8
 .ret)
 .skip))
 (.seq (.seq ZST
 (.block 0
 (.loop ZGG)))
 (.seq ZSa
 .ret))))))),
 [.s 8]⟩
theorem Zdd:Zv Proofs.Tryz.prog false Zdc Proofs.Tryz.f119=some ZMn:=by kernel_rfl
def Zae:List Hint:=[H [1,2,3,4],H [1,2,3,4,15],H [2,6,7],H [7],H [5],H [3,8,9],H [3,8,9,33],H [5],H [3,35,36,37],H [3,35,36,37,38],H [3,11,35,36,37],H [3,12,35,36,37],H [3,12,35,36,37,45],H [5],H [3,35,36,37],H [5]]
def ZSb:PC :=
 (.reg [1,2,3,4] [I 4 (.box (.s 0)),I 5 (.mv (V 0))])
def ZSc:PC :=
 (.reg [1,2,3,4,15] [I 13 (.fadr 1 (.s 4)),I 14 (.ld false 1 (.s 13)),I 15 (.bin .eql (.s 14) (V 0))])
def ZSd:PC :=
 (.reg [2,6,7] [I 17 (.ld false 1 (.s 1)),I 18 (.ld true 7 (.s 4)),I 19 (C X6 [(.s 17),(.s 18)]),I 16 (.mv (.s 19)),I 20 (.ext (.s 16) 0),I 21 (.ext (.s 16) 1),I 6 (.mv (.s 20)),I 7 (.mv (.s 21))])
def ZSe:PC :=
 (.reg [7] [I 22 (.ld false 1 (.s 2)),I 23 (.mv (.s 6)),I 24 (.app 1 1 (.s 22) (.s 23)),J (.st 1 (.s 2) (.s 24))])
def ZSf:PC :=
 (.reg [5] [I 25 (.mv (.s 7)),I 5 (.mv (.s 25))])
def ZSg:PC :=
 (.reg [3,8,9] [I 27 (.ld false 1 (.s 1)),I 28 (.ld true 7 (.s 4)),I 29 (C J5 [(.s 27),(.s 28)]),I 26 (.mv (.s 29)),I 30 (.ext (.s 26) 0),I 31 (.ext (.s 26) 1),I 8 (.mv (.s 30)),I 9 (.mv (.s 31))])
def ZSh:PC :=
 (.reg [3,8,9,33] [I 32 (.mv (.s 9)),I 33 (.bin .neq (.s 32) (V 0))])
def ZSi:PC :=
 (.reg [5] [I 34 (.mv (.s 9)),I 5 (.mv (.s 34))])
def ZSj:PC :=
 (.reg [3,35,36,37] [I 35 (.mv (.s 8)),I 36 (.len 1 (.s 35)),I 37 (.mv (V 0))])
def ZSk:PC :=
 (.reg [3,35,36,37,38] [I 38 (.bin .lss (.s 37) (.s 36))])
def ZPd:PC :=
 (.reg [3,11,35,36,37] [I 39 (.ixS 7 (.s 35) (.s 37)),I 40 (.ld true 7 (.s 39)),I 11 (.box (.v ZT)),J (.st 7 (.s 11) (.s 40))])
def ZPe:PC :=
 (.reg [3,12,35,36,37] [I 41 (.ld false 1 (.s 3)),I 42 (.ld true 7 (.s 11)),I 43 (.call .norm (.s 41) [(.s 42)]),I 12 (.mv (.s 43))])
def ZPf:PC :=
 (.reg [3,12,35,36,37,45] [I 44 (.mv (.s 12)),I 45 (.bin .neq (.s 44) (V 0))])
def ZPg:PC :=
 (.reg [5] [I 46 (.mv (.s 12)),I 5 (.mv (.s 46))])
def ZPh:PC :=
 (.reg [3,35,36,37] [I 47 (.bin .add (.s 37) (V 1)),I 37 (.mv (.s 47))])
def ZPi:PC :=
 (.seq ZSk
 (.seq (.ite (.s 38)
 .skip
 (.exit 0))
 (.seq (.block 1
 (.seq ZPd
 (.seq ZPe
 (.seq ZPf
 (.ite (.s 45)
 (.seq ZPg
 .ret)
 .skip)))))
 ZPh)))
def ZPj:PC :=
 (.reg [5] [I 5 (.mv (V 0))])
def ZJ3:PF:=⟨false,
 (.seq ZSb
 (.seq (.seq ZSc
 (.ite (.s 15)
 (.seq ZSd
 (.seq ZSe
 (.seq ZSf
 .ret)))
 .skip))
 (.seq ZSg
 (.seq (.seq ZSh
 (.ite (.s 33)
 (.seq ZSi
 .ret)
 .skip))
 (.seq (.seq ZSj
 (.block 0
 (.loop ZPi)))
 (.seq ZPj
 .ret)))))),
 [.s 5]⟩
theorem Zaf:Zv Proofs.Tryz.prog false Zae Proofs.Tryz.f120=some ZJ3:=by kernel_rfl
def Zfk:List Hint:=[H [0,3],H [0,3,10],H [4,5],H [6,7],H [4,5]]
def Zag:PC :=
 (.reg [0,3] [I 3 (.box (.s 1)),I 4 (.mv (.v (.str []))),I 5 (.mv (V 0))])
def Zah:PC :=
 (.reg [0,3,10] [I 8 (.fadr 0 (.s 3)),I 9 (.ld false 1 (.s 8)),I 10 (.bin .eql (.s 9) (.v (.int .u64 0)))])
def Zai:PC :=
 (.reg [4,5] [I 11 (.fadr 5 (.s 3)),I 12 (.ld false 1 (.s 11)),I 4 (.mv (.s 12)),I 5 (.mv (V 0))])
def Zaj:PC :=
 (.reg [6,7] [I 14 (.mv (.s 0)),I 15 (.fadr 0 (.s 3)),I 16 (.ld false 1 (.s 15)),I 17 (C Qq [(.s 14),(.s 16)]),I 13 (.mv (.s 17)),I 18 (.ext (.s 13) 0),I 19 (.ext (.s 13) 1),I 6 (.box (.v ZN)),J (.st 3 (.s 6) (.s 18)),I 7 (.mv (.s 19))])
def Zak:PC :=
 (.reg [4,5] [I 20 (.fadr 1 (.s 6)),I 21 (.ld false 1 (.s 20)),I 22 (.mv (.s 7)),I 4 (.mv (.s 21)),I 5 (.mv (.s 22))])
def ZQ8:PF:=⟨false,
 (.seq Zag
 (.seq (.seq Zah
 (.ite (.s 10)
 (.seq Zai
 .ret)
 .skip))
 (.seq Zaj
 (.seq Zak
 .ret)))),
 [.s 4,.s 5]⟩
theorem Zfl:Zv Proofs.Tryz.prog false Zfk Proofs.Tryz.f121=some ZQ8:=by kernel_rfl
def ZSl:List Hint:=[H [0,3],H [0,3,13],H [4,5],H [6,7],H [6,7,24],H [4,5],⟨[6,8],[0],[],[],[],[]⟩,H [6,8,27,28,29],H [6,8,27,28,29,30],H [6,8,10,27,28,29],H [6,8,27,28,29],H [6,8,27,28,29],H [8,47],H [4,5],H [4,5]]
def ZMo:PC :=
 (.reg [0,3] [I 3 (.box (.s 1)),I 4 (.mv (.v .nils)),I 5 (.mv (V 0))])
def ZMp:PC :=
 (.reg [0,3,13] [I 11 (.fadr 0 (.s 3)),I 12 (.ld false 1 (.s 11)),I 13 (.bin .eql (.s 12) (.v (.int .u64 0)))])
def ZMq:PC :=
 (.reg [4,5] [I 14 (.fadr 6 (.s 3)),I 15 (.ld false 1 (.s 14)),I 4 (.mv (.s 15)),I 5 (.mv (V 0))])
def ZMr:PC :=
 (.reg [6,7] [I 17 (.mv (.s 0)),I 18 (.fadr 0 (.s 3)),I 19 (.ld false 1 (.s 18)),I 20 (C Qq [(.s 17),(.s 19)]),I 16 (.mv (.s 20)),I 21 (.ext (.s 16) 0),I 22 (.ext (.s 16) 1),I 6 (.box (.v ZN)),J (.st 3 (.s 6) (.s 21)),I 7 (.mv (.s 22))])
def ZMs:PC :=
 (.reg [6,7,24] [I 23 (.mv (.s 7)),I 24 (.bin .neq (.s 23) (V 0))])
def ZMt:PC :=
 (.reg [4,5] [I 25 (.mv (.s 7)),I 4 (.mv (.v .nils)),I 5 (.mv (.s 25))])
def ZMu:PC :=
 (.reg [6,8] [I 8 (.onil 7)])
def ZMv:PC :=
 (.reg [6,8,27,28,29] [I 26 (.fadr 2 (.s 6)),I 27 (.ld false 1 (.s 26)),I 28 (.len 1 (.s 27)),I 29 (.mv (V 0))])
def ZMw:PC :=
 (.reg [6,8,27,28,29,30] [I 30 (.bin .lss (.s 29) (.s 28))])
def ZMx:PC :=
 (.reg [6,8,10,27,28,29] [I 31 (.ixS 4 (.s 27) (.s 29)),I 32 (.ld true 4 (.s 31)),I 10 (.box (.v ZK)),J (.st 4 (.s 10) (.s 32))])
def ZKn:PC :=
 (.reg [6,8,27,28,29] [I 33 (.mv (.s 8)),I 34 (.fadr 0 (.s 10)),I 35 (.ld false 1 (.s 34)),I 36 (.fadr 0 (.s 6)),I 37 (.ld false 1 (.s 36)),I 38 (.bin .sub (.s 37) (V 1)),I 39 (.fadr 1 (.s 10)),I 40 (.ld true 3 (.s 39)),I 41 (.build [(.int .u64 0),(.int .i64 0),(.int .i64 0),(.int .i64 0),(.int .i64 0),(.str []),.nils] [(0,1,(.s 35)),(1,1,(.s 38)),(2,3,(.s 40))]),I 42 (.bslice false 7 [ZT] [(0,(.s 41))]),I 43 (.app 7 80 (.s 33) (.s 42)),I 8 (.mv (.s 43))])
def ZKo:PC :=
 (.reg [6,8,27,28,29] [I 44 (.bin .add (.s 29) (V 1)),I 29 (.mv (.s 44))])
def ZCh:PC :=
 (.seq ZMw
 (.seq (.ite (.s 30)
 .skip
 (.exit 0))
 (.seq (.block 1
 (.seq ZMx
 ZKn))
 ZKo)))
def ZKp:PC :=
 (.reg [8,47] [I 45 (.mv (.s 8)),I 46 (.len 1 (.s 45)),I 47 (.bin .eql (.s 46) (V 0))])
def ZKq:PC :=
 (.reg [4,5] [I 4 (.mv (.v .nils)),I 5 (.mv (V 23))])
def ZKr:PC :=
 (.reg [4,5] [I 48 (.mv (.s 8)),I 4 (.mv (.s 48)),I 5 (.mv (V 0))])
def ZGH:PF:=⟨false,
 (.seq ZMo
 (.seq (.seq ZMp
 (.ite (.s 13)
 (.seq ZMq
 .ret)
 .skip))
 (.seq ZMr
 (.seq (.seq ZMs
 (.ite (.s 24)
 (.seq ZMt
 .ret)
 .skip))
 (.seq ZMu
 (.seq (.seq ZMv
 (.block 0
 (.loop ZCh)))
 (.seq (.seq ZKp
 (.ite (.s 47)
 (.seq ZKq
 .ret)
 .skip))
 (.seq ZKr
 .ret)))))))),
 [.s 4,.s 5]⟩
theorem ZSm:Zv Proofs.Tryz.prog false ZSl Proofs.Tryz.f122=some ZGH:=by kernel_rfl
def Zde:List Hint:=[H [0,3],H [0,3,6],H [0,3,6,12],H [4,5],H [0,3,19],H [4,5],H [3,7],H [7],H [4,5]]
def ZW9:PC :=
 (.reg [0,3] [I 3 (.box (.s 1)),I 4 (.mv (.v .nilptr)),I 5 (.mv (V 0))])
def ZXA:PC :=
 (.reg [0,3,6] [I 8 (.mv (.s 0)),I 9 (.ld true 7 (.s 3)),I 10 (C Jp [(.s 8),(.s 9)]),I 6 (.mv (.s 10))])
def ZXB:PC :=
 (.reg [0,3,6,12] [I 11 (.mv (.s 6)),I 12 (.bin .neq (.s 11) (V 0))])
def ZXC:PC :=
 (.reg [4,5] [I 13 (.mv (.s 6)),I 4 (.mv (.v .nilptr)),I 5 (.mv (.s 13))])
def ZXD:PC :=
 (.reg [0,3,19] [I 14 (.ld true 7 (.s 3)),I 15 (C ZAi [(.s 14)]),I 16 (.mv (.s 0)),I 17 (C XV [(.s 16)]),I 18 (.fld false 1 1 (.s 17)),I 19 (.bin .gtr (.s 15) (.s 18))])
def ZXE:PC :=
 (.reg [4,5] [I 4 (.mv (.v .nilptr)),I 5 (.mv (V 6))])
def ZXF:PC :=
 (.reg [3,7] [I 20 (.mv (.s 0)),I 21 (.build [.nilptr,.nils,.nilptr] [(0,1,(.s 20))]),I 22 (.box (.s 21)),I 7 (.mv (.s 22))])
def ZXG:PC :=
 (.reg [7] [I 23 (.mv (.s 7)),I 24 (.mv (.s 7)),I 25 (.ld true 7 (.s 3)),I 26 (C Qt [(.s 24),(.s 25)]),I 27 (.nilck (.s 23)),I 28 (.fadr 2 (.s 27)),J (.st 1 (.s 28) (.s 26))])
def ZXH:PC :=
 (.reg [4,5] [I 29 (.mv (.s 7)),I 4 (.mv (.s 29)),I 5 (.mv (V 0))])
def ZMy:PF:=⟨true,
 (.seq ZW9
 (.seq (.seq ZXA
 (.seq ZXB
 (.ite (.s 12)
 (.seq ZXC
 .ret)
 .skip)))
 (.seq (.seq ZXD
 (.ite (.s 19)
 (.seq ZXE
 .ret)
 .skip))
 (.seq ZXF
 (.seq ZXG
 (.seq ZXH
 .ret)))))),
 [.s 4,.s 5]⟩
theorem Zdf:Zv Proofs.Tryz.prog true Zde Proofs.Tryz.f123=some ZMy:=by kernel_rfl
def ZSn:List Hint:=[H [0],H [0,6],H [2,3,4],H [0,12],H [2,3,4],H [0,2,4],H [0,2,4,24],H [2,3,4],H [0,2],H [2,3,4]]
def ZMz:PC :=
 (.reg [0] [I 2 (.mv (.v (.int .u64 0))),I 3 (.mv (.v (.bool false))),I 4 (.mv (V 0))])
def ZM0:PC :=
 (.reg [0,6] [I 5 (.mv (.s 0)),I 6 (.eqs false 3 [] (.s 5) (.v .nilptr))])
def ZM1:PC :=
 (.reg [2,3,4] [I 2 (.mv (.v (.int .u64 0))),I 3 (.mv (.v (.bool false))),I 4 (.mv (V 1))])
def ZM2:PC :=
 (.reg [0,12] [I 7 (.mv (.s 0)),I 8 (.nilck (.s 7)),I 9 (.fadr 1 (.s 8)),I 10 (.ld false 1 (.s 9)),I 11 (.len 1 (.s 10)),I 12 (.bin .eql (.s 11) (V 0))])
def ZM3:PC :=
 (.reg [2,3,4] [I 2 (.mv (.v (.int .u64 0))),I 3 (.mv (.v (.bool true))),I 4 (.mv (V 0))])
def ZM4:PC :=
 (.reg [0,2,4] [I 14 (.mv (.s 0)),I 15 (.nilck (.s 14)),I 16 (.fadr 1 (.s 15)),I 17 (.ld false 1 (.s 16)),I 18 (.ixS 1 (.s 17) (V 0)),I 19 (.ld false 1 (.s 18)),I 20 (.call .norm (.s 19) []),I 13 (.mv (.s 20)),I 21 (.ext (.s 13) 0),I 22 (.ext (.s 13) 1),I 2 (.mv (.s 21)),I 4 (.mv (.s 22))])
def ZM5:PC :=
 (.reg [0,2,4,24] [I 23 (.mv (.s 4)),I 24 (.bin .neq (.s 23) (V 0))])
def ZM6:PC :=
 (.reg [2,3,4] [I 25 (.mv (.s 4)),I 2 (.mv (.v (.int .u64 0))),I 3 (.mv (.v (.bool false))),I 4 (.mv (.s 25))])
def ZM7:PC :=
 (.reg [0,2] [I 26 (.mv (.s 0)),I 27 (.mv (.s 0)),I 28 (.nilck (.s 27)),I 29 (.fadr 1 (.s 28)),I 30 (.ld false 1 (.s 29)),I 31 (.slc 1 (.s 30) (some (V 1)) none),I 32 (.nilck (.s 26)),I 33 (.fadr 1 (.s 32)),J (.st 1 (.s 33) (.s 31))])
def ZM8:PC :=
 (.reg [2,3,4] [I 34 (.mv (.s 2)),I 35 (.mv (.s 0)),I 36 (.nilck (.s 35)),I 37 (.fadr 1 (.s 36)),I 38 (.ld false 1 (.s 37)),I 39 (.len 1 (.s 38)),I 40 (.bin .eql (.s 39) (V 0)),I 2 (.mv (.s 34)),I 3 (.mv (.s 40)),I 4 (.mv (V 0))])
def ZGI:PF:=⟨false,
 (.seq ZMz
 (.seq (.seq ZM0
 (.ite (.s 6)
 (.seq ZM1
 .ret)
 .skip))
 (.seq (.seq ZM2
 (.ite (.s 12)
 (.seq ZM3
 .ret)
 .skip))
 (.seq ZM4
 (.seq (.seq ZM5
 (.ite (.s 24)
 (.seq ZM6
 .ret)
 .skip))
 (.seq ZM7
 (.seq ZM8
 .ret))))))),
 [.s 2,.s 3,.s 4]⟩
theorem ZSo:Zv Proofs.Tryz.prog false ZSn Proofs.Tryz.f124=some ZGI:=by kernel_rfl
def ZSp:List Hint:=[H [0,2],H [0,2,5],H [2,3],H [0,2,12],H [2,3],H [2,3]]
def ZM9:PC :=
 (.reg [0,2] [I 2 (.box (.v ZR)),I 3 (.mv (V 0))])
def ZNA:PC :=
 (.reg [0,2,5] [I 4 (.mv (.s 0)),I 5 (.eqs false 3 [] (.s 4) (.v .nilptr))])
def ZNB:PC :=
 (.reg [2,3] [I 6 (.build [(.int .u64 0),(.int .i64 0),(.int .i64 0),(.int .i64 0),(.int .i64 0)] []),J (.st 5 (.s 2) (.s 6)),I 3 (.mv (V 1))])
def ZNC:PC :=
 (.reg [0,2,12] [I 7 (.mv (.s 0)),I 8 (.nilck (.s 7)),I 9 (.fadr 1 (.s 8)),I 10 (.ld false 1 (.s 9)),I 11 (.len 1 (.s 10)),I 12 (.bin .gtr (.s 11) (V 0))])
def ZND:PC :=
 (.reg [2,3] [I 13 (.build [(.int .u64 0),(.int .i64 0),(.int .i64 0),(.int .i64 0),(.int .i64 0)] []),J (.st 5 (.s 2) (.s 13)),I 3 (.mv (V 8))])
def ZNE:PC :=
 (.reg [2,3] [I 14 (.mv (.s 0)),I 15 (.nilck (.s 14)),I 16 (.fadr 2 (.s 15)),I 17 (.ld false 1 (.s 16)),I 18 (.nilck (.s 17)),I 19 (.ld true 5 (.s 18)),J (.st 5 (.s 2) (.s 19)),I 3 (.mv (V 0))])
def ZGJ:PF:=⟨false,
 (.seq ZM9
 (.seq (.seq ZNA
 (.ite (.s 5)
 (.seq ZNB
 .ret)
 .skip))
 (.seq (.seq ZNC
 (.ite (.s 12)
 (.seq ZND
 .ret)
 .skip))
 (.seq ZNE
 .ret)))),
 [.c 2 true 5,.s 3]⟩
theorem ZSq:Zv Proofs.Tryz.prog false ZSp Proofs.Tryz.f125=some ZGJ:=by kernel_rfl
def ZPk:List Hint:=[H [0],H [2]]
def ZKs:PC :=
 (.reg [0] [I 2 (.mv (.v (.bool false)))])
def ZKt:PC :=
 (.reg [2] [I 3 (.mv (.s 0)),I 4 (.bin .lss (.s 3) (.v (.int .u8 128))),I 5 (.mv (.s 4)),G 6 5 false (.mv (.s 0)),G 7 5 false (.bin .gtr (.s 6) (.v (.int .u8 191))),I 8 (.pick (.s 5) (.v (.bool true)) (.s 7)),I 2 (.mv (.s 8))])
def ZEN:PF:=⟨false,
 (.seq ZKs
 (.seq ZKt
 .ret)),
 [.s 2]⟩
theorem ZPl:Zv Proofs.Tryz.prog false ZPk Proofs.Tryz.f131=some ZEN:=by kernel_rfl
def ZSr:List Hint:=[H [0,1],H [0,1,5],H [0,1,5,8,9],H [0,1,5,8,9,10],H [0,1,5,6,8,9],H [0,1,5,8,9,16],H [0,1,5,8,9],H [0,1,5,8,9],H [4]]
def ZNF:PC :=
 (.reg [0,1] [I 4 (.mv (V 0))])
def ZNG:PC :=
 (.reg [0,1,5] [I 5 (.mv (V 0))])
def ZNH:PC :=
 (.reg [0,1,5,8,9] [I 7 (.mv (.s 0)),I 8 (.len 0 (.s 7)),I 9 (.mv (V 0))])
def ZNI:PC :=
 (.reg [0,1,5,8,9,10] [I 10 (.bin .lss (.s 9) (.s 8))])
def ZNJ:PC :=
 (.reg [0,1,5,6,8,9] [I 11 (.mv (.s 9)),I 6 (.mv (.s 11))])
def ZNK:PC :=
 (.reg [0,1,5,8,9,16] [I 12 (.mv (.s 1)),I 13 (.mv (.s 0)),I 14 (.mv (.s 6)),I 15 (.ixStr (.s 13) (.s 14)),I 16 (.call .norm (.s 12) [(.s 15)])])
def ZNL:PC :=
 (.reg [0,1,5,8,9] [I 17 (.mv (.s 5)),I 18 (.bin .add (.s 17) (V 1)),I 5 (.mv (.s 18))])
def ZNM:PC :=
 (.reg [0,1,5,8,9] [I 19 (.bin .add (.s 9) (V 1)),I 9 (.mv (.s 19))])
def ZNN:PC :=
 (.seq ZNI
 (.seq (.ite (.s 10)
 .skip
 (.exit 0))
 (.seq (.block 1
 (.seq ZNJ
 (.seq ZNK
 (.ite (.s 16)
 ZNL
 .skip))))
 ZNM)))
def ZNO:PC :=
 (.reg [4] [I 20 (.mv (.s 5)),I 4 (.mv (.s 20))])
def ZGK:PF:=⟨false,
 (.seq ZNF
 (.seq ZNG
 (.seq (.seq ZNH
 (.block 0
 (.loop ZNN)))
 (.seq ZNO
 .ret)))),
 [.s 4]⟩
theorem ZSs:Zv Proofs.Tryz.prog false ZSr Proofs.Tryz.f132=some ZGK:=by kernel_rfl
def ZSt:List Hint:=[H [0],H [2]]
def ZNP:PC :=
 (.reg [0] [I 2 (.mv (.v (.bool false)))])
def ZNQ:PC :=
 (.reg [2] [I 3 (.mv (.s 0)),I 4 (.bin .eql (.s 3) (.v (.int .u8 10))),I 2 (.mv (.s 4))])
def ZGL:PF:=⟨false,
 (.seq ZNP
 (.seq ZNQ
 .ret)),
 [.s 2]⟩
theorem ZSu:Zv Proofs.Tryz.prog false ZSt Proofs.Tryz.f138=some ZGL:=by kernel_rfl
def Zal:List Hint:=[H [0,3,20],H [0,3,6,20],H [0,3,6,14,20],H [4,5],⟨[0,3,7,20],[0],[],[],[],[]⟩,H [7,18,20],H [7,9],H [7,9,24],H [7],H [4,5]]
def ZSv:PC :=
 (.reg [0,3,20] [I 3 (.box (.s 1)),I 4 (.mv (.v .nils)),I 5 (.mv (V 0))])
def ZSw:PC :=
 (.reg [0,3,6,20] [I 10 (.mv (.s 0)),I 11 (.ld true 5 (.s 3)),I 12 (C ZAF [(.s 10),(.s 11)]),I 6 (.mv (.s 12))])
def ZSx:PC :=
 (.reg [0,3,6,14,20] [I 13 (.mv (.s 6)),I 14 (.bin .neq (.s 13) (V 0))])
def ZSy:PC :=
 (.reg [4,5] [I 15 (.mv (.s 6)),I 4 (.mv (.v .nils)),I 5 (.mv (.s 15))])
def ZSz:PC :=
 (.reg [0,3,7,20] [I 7 (.boxnil 1)])
def ZS0:PC :=
 (.reg [7,18,20] [I 16 (.mv (.s 0)),I 17 (.ld true 5 (.s 3)),I 18 (C ZAG [(.s 16),(.s 17)])])
def ZS1:PC :=
 (.reg [7,9] [I 9 (.box (.v (.agg [(.int .i64 0),(.str []),.nils,(.int .i64 0)]))),J (.st 4 (.s 9) (.s 20))])
def ZS2:PC :=
 (.reg [7,9,24] [I 21 (.fadr 0 (.s 9)),I 22 (.fadr 0 (.s 21)),I 23 (.ld false 1 (.s 22)),I 24 (.bin .eql (.s 23) (V 0))])
def ZS3:PC :=
 (.reg [7] [I 25 (.ld false 1 (.s 7)),I 26 (.fadr 0 (.s 9)),I 27 (.fadr 1 (.s 26)),I 28 (.ld false 1 (.s 27)),I 29 (.bslice false 1 [(.str [])] [(0,(.s 28))]),I 30 (.app 1 16 (.s 25) (.s 29)),J (.st 1 (.s 7) (.s 30))])
def ZS4:PC :=
 (.reg [4,5] [I 31 (.ld false 1 (.s 7)),I 4 (.mv (.s 31)),I 5 (.mv (V 0))])
def p_rope_Leaves:RF:=⟨32,
 (.seq ZSv
 (.seq (.seq ZSw
 (.seq ZSx
 (.ite (.s 14)
 (.seq ZSy
 .ret)
 .skip)))
 (.seq ZSz
 (.seq ZS0
 .skip)))),
 ⟨(.s 18),[19,20],
 ZS1,
 (.block 1
 (.seq ZS2
 (.ite (.s 24)
 ZS3
 .skip)))⟩,
 (.seq .skip
 (.seq ZS4
 .ret)),
 [.s 4,.s 5]⟩
theorem Zam:ZVC Proofs.Tryz.prog Zal Proofs.Tryz.f140=some p_rope_Leaves:=by kernel_rfl
def ZHG:List Hint:=[H [0,1],⟨[0,1,5],[0],[],[],[],[]⟩,H [0,1,5,9],H [4],H [1,5,14,15,16],H [1,5,14,15,16,17],H [1,5,6,7,14,15,16],H [1,5,6,14,15,16,23],H [1,5,14,15,16],H [1,5,14,15,16],H [4]]
def ZEO:PC :=
 (.reg [0,1] [I 4 (.mv (.v .nils))])
def ZEP:PC :=
 (.reg [0,1,5] [I 5 (.onil 1)])
def ZEQ:PC :=
 (.reg [0,1,5,9] [I 8 (.mv (.s 0)),I 9 (.eqs false 3 [] (.s 8) (.v .nilptr))])
def ZER:PC :=
 (.reg [4] [I 10 (.mv (.s 5)),I 4 (.mv (.s 10))])
def ZES:PC :=
 (.reg [1,5,14,15,16] [I 11 (.mv (.s 0)),I 12 (.nilck (.s 11)),I 13 (.fadr 1 (.s 12)),I 14 (.ld false 1 (.s 13)),I 15 (.len 1 (.s 14)),I 16 (.mv (V 0))])
def ZET:PC :=
 (.reg [1,5,14,15,16,17] [I 17 (.bin .lss (.s 16) (.s 15))])
def ZEU:PC :=
 (.reg [1,5,6,7,14,15,16] [I 18 (.mv (.s 16)),I 19 (.ixS 1 (.s 14) (.s 16)),I 20 (.ld false 1 (.s 19)),I 6 (.mv (.s 18)),I 7 (.mv (.s 20))])
def ZEV:PC :=
 (.reg [1,5,6,14,15,16,23] [I 21 (.mv (.s 7)),I 22 (.mv (.s 1)),I 23 (.bin .eql (.s 21) (.s 22))])
def ZEW:PC :=
 (.reg [1,5,14,15,16] [I 24 (.mv (.s 5)),I 25 (.mv (.s 6)),I 26 (.bslice false 1 [(.int .i64 0)] [(0,(.s 25))]),I 27 (.app 1 8 (.s 24) (.s 26)),I 5 (.mv (.s 27))])
def ZEX:PC :=
 (.reg [1,5,14,15,16] [I 28 (.bin .add (.s 16) (V 1)),I 16 (.mv (.s 28))])
def ZDb:PC :=
 (.seq ZET
 (.seq (.ite (.s 17)
 .skip
 (.exit 0))
 (.seq (.block 1
 (.seq ZEU
 (.seq ZEV
 (.ite (.s 23)
 ZEW
 .skip))))
 ZEX)))
def ZDc:PC :=
 (.reg [4] [I 29 (.mv (.s 5)),I 4 (.mv (.s 29))])
def ZAY:PF:=⟨false,
 (.seq ZEO
 (.seq ZEP
 (.seq (.seq ZEQ
 (.ite (.s 9)
 (.seq ZER
 .ret)
 .skip))
 (.seq (.seq ZES
 (.block 0
 (.loop ZDb)))
 (.seq ZDc
 .ret))))),
 [.s 4]⟩
theorem ZHH:Zv Proofs.Tryz.prog false ZHG Proofs.Tryz.f141=some ZAY:=by kernel_rfl
def Zan:List Hint:=[H [0,1],H [0,1,19],H [4,5],H [4,5]]
def ZS5:PC :=
 (.reg [0,1] [I 4 (.mv (.v (.int .u64 0))),I 5 (.mv (V 0))])
def ZS6:PC :=
 (.reg [0,1,19] [I 6 (.mv (.s 0)),I 7 (.bin .lss (.s 6) (V 0)),I 8 (.mv (.s 7)),G 9 8 false (.mv (.s 0)),G 10 8 false (.bin .geq (.s 9) (V 16384)),I 11 (.pick (.s 8) (.v (.bool true)) (.s 10)),I 12 (.mv (.s 11)),G 13 12 false (.mv (.s 1)),G 14 12 false (.bin .lss (.s 13) (.v (.int .u64 1))),I 15 (.pick (.s 12) (.v (.bool true)) (.s 14)),I 16 (.mv (.s 15)),G 17 16 false (.mv (.s 1)),G 18 16 false (.bin .gtr (.s 17) (.v (.int .u64 4294967295))),I 19 (.pick (.s 16) (.v (.bool true)) (.s 18))])
def ZS7:PC :=
 (.reg [4,5] [I 4 (.mv (.v (.int .u64 0))),I 5 (.mv (V 3))])
def ZS8:PC :=
 (.reg [4,5] [I 20 (.mv (.s 1)),I 21 (.bin .shl (.s 20) (.v (.int .u64 16))),I 22 (.mv (.s 0)),I 23 (.cint .u64 (.s 22)),I 24 (.bin .or (.s 21) (.s 23)),I 4 (.mv (.s 24)),I 5 (.mv (V 0))])
def ZJ4:PF:=⟨false,
 (.seq ZS5
 (.seq (.seq ZS6
 (.ite (.s 19)
 (.seq ZS7
 .ret)
 .skip))
 (.seq ZS8
 .ret))),
 [.s 4,.s 5]⟩
theorem Zao:Zv Proofs.Tryz.prog false Zan Proofs.Tryz.f142=some ZJ4:=by kernel_rfl
def Zdg:List Hint:=[H [0,3,23],H [0,3,6,23],H [0,3,6,17,23],H [4],H [0,3,7,23],H [7,21,23],H [7,9],H [7,9,26],H [7],H [4]]
def ZXI:PC :=
 (.reg [0,3,23] [I 3 (.box (.s 1)),I 4 (.mv (V 0))])
def ZXJ:PC :=
 (.reg [0,3,6,23] [I 11 (.mv (.s 0)),I 12 (.ld true 5 (.s 3)),I 13 (C Jr [(.s 11),(.s 12)]),I 10 (.mv (.s 13)),I 14 (.ext (.s 10) 0),I 15 (.ext (.s 10) 1),I 5 (.box (.v ZT)),J (.st 7 (.s 5) (.s 14)),I 6 (.mv (.s 15))])
def ZXK:PC :=
 (.reg [0,3,6,17,23] [I 16 (.mv (.s 6)),I 17 (.bin .neq (.s 16) (V 0))])
def ZXL:PC :=
 (.reg [4] [I 18 (.mv (.s 6)),I 4 (.mv (.s 18))])
def ZXM:PC :=
 (.reg [0,3,7,23] [I 7 (.box (V 0)),J (.st 1 (.s 7) (V 0))])
def ZXN:PC :=
 (.reg [7,21,23] [I 19 (.mv (.s 0)),I 20 (.ld true 5 (.s 3)),I 21 (C ZAG [(.s 19),(.s 20)])])
def ZXO:PC :=
 (.reg [7,9] [I 9 (.box (.v (.agg [(.int .i64 0),(.str []),.nils,(.int .i64 0)]))),J (.st 4 (.s 9) (.s 23))])
def ZXP:PC :=
 (.reg [7,9,26] [I 24 (.fadr 3 (.s 9)),I 25 (.ld false 1 (.s 24)),I 26 (.bin .neq (.s 25) (V 0))])
def ZXQ:PC :=
 (.reg [7] [I 27 (.fadr 3 (.s 9)),I 28 (.ld false 1 (.s 27)),J (.st 1 (.s 7) (.s 28))])
def ZXR:PC :=
 (.reg [4] [I 29 (.ld false 1 (.s 7)),I 4 (.mv (.s 29))])
def p_rope_Check:RF:=⟨30,
 (.seq ZXI
 (.seq (.seq ZXJ
 (.seq ZXK
 (.ite (.s 17)
 (.seq ZXL
 .ret)
 .skip)))
 (.seq ZXM
 (.seq .skip
 (.seq ZXN
 .skip))))),
 ⟨(.s 21),[22,23],
 ZXO,
 (.block 1
 (.seq ZXP
 (.ite (.s 26)
 (.seq ZXQ
 (.exit 0))
 .skip)))⟩,
 (.seq .skip
 (.seq ZXR
 .ret)),
 [.s 4]⟩
theorem Zdh:ZVC Proofs.Tryz.prog Zdg Proofs.Tryz.f143=some p_rope_Check:=by kernel_rfl
def Zdi:List Hint:=[H [2,3],H [4]]
def ZXS:PC :=
 (.reg [2,3] [I 2 (.box (.s 0)),I 3 (.box (.s 1)),I 4 (.mv (.v .nilfunc))])
def ZXT:PC :=
 (.reg [4] [I 5 (.mkf (.func Qu) [] [(.s 2),(.s 3)]),I 4 (.mv (.s 5))])
def ZNR:PF:=⟨true,
 (.seq ZXS
 (.seq ZXT
 .ret)),
 [.s 4]⟩
theorem Zdj:Zv Proofs.Tryz.prog true Zdi Proofs.Tryz.f144=some ZNR:=by kernel_rfl
def Zap:List Hint:=[H [1,2],H [1,2,10],H [4],H [1,2,5],H [2,5,17],H [2,5],H [5,6],H [5,6,7],H [6,7,23,24],H [6,7,23,24,25],H [6,7,8,23,24],H [6,7,23,24],H [6,7,23,24],H [4]]
def ZS9:PC :=
 (.reg [1,2] [I 2 (.box (.s 0)),I 4 (.mv (.v .nils))])
def ZTA:PC :=
 (.reg [1,2,10] [I 9 (.ld false 1 (.s 2)),I 10 (.bin .eql (.s 9) (V 0))])
def ZTB:PC :=
 (.reg [4] [I 4 (.mv (.v .nils))])
def ZTC:PC :=
 (.reg [1,2,5] [I 11 (.ld false 1 (.s 2)),I 12 (.mv (.s 1)),I 13 (.bin .quo (.s 11) (.s 12)),I 5 (.box (V 0)),J (.st 1 (.s 5) (.s 13))])
def ZTD:PC :=
 (.reg [2,5,17] [I 14 (.ld false 1 (.s 2)),I 15 (.mv (.s 1)),I 16 (.bin .rem (.s 14) (.s 15)),I 17 (.bin .gtr (.s 16) (V 0))])
def ZTE:PC :=
 (.reg [2,5] [I 18 (.ld false 1 (.s 5)),I 19 (.bin .add (.s 18) (V 1)),J (.st 1 (.s 5) (.s 19))])
def ZTF:PC :=
 (.reg [5,6] [I 20 (.mkf (.func J6) [] [(.s 2),(.s 5)]),I 6 (.mv (.s 20))])
def ZTG:PC :=
 (.reg [5,6,7] [I 21 (.ld false 1 (.s 5)),I 22 (.mkslice 1 8 (.int .i64 0) (.s 21) (.s 21)),I 7 (.mv (.s 22))])
def ZTH:PC :=
 (.reg [6,7,23,24] [I 23 (.ld false 1 (.s 5)),I 24 (.mv (V 0))])
def ZTI:PC :=
 (.reg [6,7,23,24,25] [I 25 (.bin .lss (.s 24) (.s 23))])
def ZPm:PC :=
 (.reg [6,7,8,23,24] [I 26 (.mv (.s 24)),I 8 (.mv (.s 26))])
def ZPn:PC :=
 (.reg [6,7,23,24] [I 27 (.mv (.s 7)),I 28 (.mv (.s 8)),I 29 (.mv (.s 6)),I 30 (.mv (.s 8)),I 31 (.call .norm (.s 29) [(.s 30)]),I 32 (.ixS 1 (.s 27) (.s 28)),J (.st 1 (.s 32) (.s 31))])
def ZPo:PC :=
 (.reg [6,7,23,24] [I 33 (.bin .add (.s 24) (V 1)),I 24 (.mv (.s 33))])
def ZEY:PC :=
 (.seq ZTI
 (.seq (.ite (.s 25)
 .skip
 (.exit 0))
 (.seq (.block 1
 (.seq ZPm
 ZPn))
 ZPo)))
def ZPp:PC :=
 (.reg [4] [I 34 (.mv (.s 7)),I 4 (.mv (.s 34))])
def ZJ5:PF:=⟨false,
 (.seq ZS9
 (.seq (.seq ZTA
 (.ite (.s 10)
 (.seq ZTB
 .ret)
 .skip))
 (.seq ZTC
 (.seq (.seq ZTD
 (.ite (.s 17)
 ZTE
 .skip))
 (.seq ZTF
 (.seq ZTG
 (.seq (.seq ZTH
 (.block 0
 (.loop ZEY)))
 (.seq ZPp
 .ret)))))))),
 [.s 4]⟩
theorem Zaq:Zv Proofs.Tryz.prog false Zap Proofs.Tryz.f145=some ZJ5:=by kernel_rfl
def Zar:List Hint:=[H [1],H [1,9],H [2],H [1,50],H [2],H [1,3,4],H [3,4,59,60,61],H [3,4,59,60,61,62],H [3,4,6,59,60,61],H [3,4,59,60,61,112],H [2],H [3,4,59,60,61],H [2]]
def ZTJ:PC :=
 (.reg [1] [I 1 (.box (.s 0)),I 2 (.mv (.v (.bool false)))])
def ZTK:PC :=
 (.reg [1,9] [I 7 (.fadr 0 (.s 1)),I 8 (.ld false 1 (.s 7)),I 9 (.bin .eql (.s 8) (V 0))])
def ZTL:PC :=
 (.reg [2] [I 10 (.fadr 1 (.s 1)),I 11 (.ld false 1 (.s 10)),I 12 (.len 0 (.s 11)),I 13 (.bin .geq (.s 12) (V 1)),I 14 (.mv (.s 13)),G 15 14 true (.fadr 1 (.s 1)),G 16 14 true (.ld false 1 (.s 15)),G 17 14 true (.len 0 (.s 16)),G 18 14 true (.bin .leq (.s 17) (V 16)),I 19 (.pick (.s 14) (.s 18) (.v (.bool false))),I 20 (.mv (.s 19)),G 21 20 true (.fadr 2 (.s 1)),G 22 20 true (.ld false 1 (.s 21)),G 23 20 true (.len 1 (.s 22)),G 24 20 true (.bin .eql (.s 23) (V 0)),I 25 (.pick (.s 20) (.s 24) (.v (.bool false))),I 2 (.mv (.s 25))])
def ZTM:PC :=
 (.reg [1,50] [I 26 (.fadr 0 (.s 1)),I 27 (.ld false 1 (.s 26)),I 28 (.bin .lss (.s 27) (V 1)),I 29 (.mv (.s 28)),G 30 29 false (.fadr 0 (.s 1)),G 31 29 false (.ld false 1 (.s 30)),G 32 29 false (.bin .gtr (.s 31) (V 16)),I 33 (.pick (.s 29) (.v (.bool true)) (.s 32)),I 34 (.mv (.s 33)),G 35 34 false (.fadr 1 (.s 1)),G 36 34 false (.ld false 1 (.s 35)),G 37 34 false (.bin .neq (.s 36) (.v (.str []))),I 38 (.pick (.s 34) (.v (.bool true)) (.s 37)),I 39 (.mv (.s 38)),G 40 39 false (.fadr 2 (.s 1)),G 41 39 false (.ld false 1 (.s 40)),G 42 39 false (.len 1 (.s 41)),G 43 39 false (.bin .lss (.s 42) (V 2)),I 44 (.pick (.s 39) (.v (.bool true)) (.s 43)),I 45 (.mv (.s 44)),G 46 45 false (.fadr 2 (.s 1)),G 47 45 false (.ld false 1 (.s 46)),G 48 45 false (.len 1 (.s 47)),G 49 45 false (.bin .gtr (.s 48) (V 4)),I 50 (.pick (.s 45) (.v (.bool true)) (.s 49))])
def ZTN:PC :=
 (.reg [2] [I 2 (.mv (.v (.bool false)))])
def ZTO:PC :=
 (.reg [1,3,4] [I 52 (.fadr 0 (.s 1)),I 53 (.ld false 1 (.s 52)),I 54 (.bin .sub (.s 53) (V 1)),I 55 (C ZDU [(.s 54)]),I 51 (.mv (.s 55)),I 56 (.ext (.s 51) 0),I 57 (.ext (.s 51) 1),I 3 (.mv (.s 56)),I 4 (.mv (.s 57))])
def ZTP:PC :=
 (.reg [3,4,59,60,61] [I 58 (.fadr 2 (.s 1)),I 59 (.ld false 1 (.s 58)),I 60 (.len 1 (.s 59)),I 61 (.mv (V 0))])
def ZTQ:PC :=
 (.reg [3,4,59,60,61,62] [I 62 (.bin .lss (.s 61) (.s 60))])
def ZTR:PC :=
 (.reg [3,4,6,59,60,61] [I 63 (.ixS 4 (.s 59) (.s 61)),I 64 (.ld true 4 (.s 63)),I 6 (.box (.v ZK)),J (.st 4 (.s 6) (.s 64))])
def ZTS:PC :=
 (.reg [3,4,59,60,61,112] [I 65 (.fadr 0 (.s 6)),I 66 (.ld false 1 (.s 65)),I 67 (C ZCF [(.s 66)]),I 68 (.bin .neq (.s 67) (V 0)),I 69 (.mv (.s 68)),G 70 69 false (.fadr 1 (.s 6)),G 71 69 false (.fadr 0 (.s 70)),G 72 69 false (.ld false 1 (.s 71)),G 73 69 false (.mv (.s 3)),G 74 69 false (.bin .lss (.s 72) (.s 73)),I 75 (.pick (.s 69) (.v (.bool true)) (.s 74)),I 76 (.mv (.s 75)),G 77 76 false (.fadr 1 (.s 6)),G 78 76 false (.fadr 0 (.s 77)),G 79 76 false (.ld false 1 (.s 78)),G 80 76 false (.mv (.s 4)),G 81 76 false (.bin .gtr (.s 79) (.s 80)),I 82 (.pick (.s 76) (.v (.bool true)) (.s 81)),I 83 (.mv (.s 82)),G 84 83 false (.fadr 1 (.s 6)),G 85 83 false (.fadr 1 (.s 84)),G 86 83 false (.ld false 1 (.s 85)),G 87 83 false (.bin .lss (.s 86) (V 0)),I 88 (.pick (.s 83) (.v (.bool true)) (.s 87)),I 89 (.mv (.s 88)),G 90 89 false (.fadr 1 (.s 6)),G 91 89 false (.fadr 1 (.s 90)),G 92 89 false (.ld false 1 (.s 91)),G 93 89 false (.fadr 1 (.s 6)),G 94 89 false (.fadr 0 (.s 93)),G 95 89 false (.ld false 1 (.s 94)),G 96 89 false (.bin .gtr (.s 92) (.s 95)),I 97 (.pick (.s 89) (.v (.bool true)) (.s 96)),I 98 (.mv (.s 97)),G 99 98 false (.fadr 1 (.s 6)),G 100 98 false (.fadr 2 (.s 99)),G 101 98 false (.ld false 1 (.s 100)),G 102 98 false (.bin .lss (.s 101) (V 0)),I 103 (.pick (.s 98) (.v (.bool true)) (.s 102)),I 104 (.mv (.s 103)),G 105 104 false (.fadr 1 (.s 6)),G 106 104 false (.fadr 2 (.s 105)),G 107 104 false (.ld false 1 (.s 106)),G 108 104 false (.fadr 1 (.s 6)),G 109 104 false (.fadr 1 (.s 108)),G 110 104 false (.ld false 1 (.s 109)),G 111 104 false (.bin .gtr (.s 107) (.s 110)),I 112 (.pick (.s 104) (.v (.bool true)) (.s 111))])
def ZPq:PC :=
 (.reg [2] [I 2 (.mv (.v (.bool false)))])
def ZPr:PC :=
 (.reg [3,4,59,60,61] [I 113 (.bin .add (.s 61) (V 1)),I 61 (.mv (.s 113))])
def ZPs:PC :=
 (.seq ZTQ
 (.seq (.ite (.s 62)
 .skip
 (.exit 0))
 (.seq (.block 1
 (.seq ZTR
 (.seq ZTS
 (.ite (.s 112)
 (.seq ZPq
 .ret)
 .skip))))
 ZPr)))
def ZPt:PC :=
 (.reg [2] [I 2 (.mv (.v (.bool true)))])
def ZJ6:PF:=⟨false,
 (.seq ZTJ
 (.seq (.seq ZTK
 (.ite (.s 9)
 (.seq ZTL
 .ret)
 .skip))
 (.seq (.seq ZTM
 (.ite (.s 50)
 (.seq ZTN
 .ret)
 .skip))
 (.seq ZTO
 (.seq (.seq ZTP
 (.block 0
 (.loop ZPs)))
 (.seq ZPt
 .ret)))))),
 [.s 2]⟩
theorem Zas:Zv Proofs.Tryz.prog false Zar Proofs.Tryz.f146=some ZJ6:=by kernel_rfl
def ZhZ:List Hint:=[H [1,2],H [1,2,8],H [2],⟨[1,2,3],[0],[],[],[],[]⟩,H [2,3,13,14,15],H [2,3,13,14,15,16],H [2,3,5,13,14,15],H [2,3,13,14,15],H [2,3,13,14,15],H [2]]
def Zdk:PC :=
 (.reg [1,2] [I 1 (.box (.s 0)),I 2 (.box (.v ZM))])
def Zdl:PC :=
 (.reg [1,2,8] [I 6 (.fadr 0 (.s 1)),I 7 (.ld false 1 (.s 6)),I 8 (.bin .eql (.s 7) (V 0))])
def Zdm:PC :=
 (.reg [2] [I 9 (.fadr 1 (.s 1)),I 10 (.ld false 1 (.s 9)),I 11 (C ZE6 [(.s 10)]),J (.st 3 (.s 2) (.s 11))])
def Zdn:PC :=
 (.reg [1,2,3] [I 3 (.onil 3)])
def Zdo:PC :=
 (.reg [2,3,13,14,15] [I 12 (.fadr 2 (.s 1)),I 13 (.ld false 1 (.s 12)),I 14 (.len 1 (.s 13)),I 15 (.mv (V 0))])
def Zdp:PC :=
 (.reg [2,3,13,14,15,16] [I 16 (.bin .lss (.s 15) (.s 14))])
def Zdq:PC :=
 (.reg [2,3,5,13,14,15] [I 17 (.ixS 4 (.s 13) (.s 15)),I 18 (.ld true 4 (.s 17)),I 5 (.box (.v ZK)),J (.st 4 (.s 5) (.s 18))])
def Zdr:PC :=
 (.reg [2,3,13,14,15] [I 19 (.mv (.s 3)),I 20 (.fadr 1 (.s 5)),I 21 (.ld true 3 (.s 20)),I 22 (.bslice false 3 [ZM] [(0,(.s 21))]),I 23 (.app 3 24 (.s 19) (.s 22)),I 3 (.mv (.s 23))])
def Zds:PC :=
 (.reg [2,3,13,14,15] [I 24 (.bin .add (.s 15) (V 1)),I 15 (.mv (.s 24))])
def Zdt:PC :=
 (.seq Zdp
 (.seq (.ite (.s 16)
 .skip
 (.exit 0))
 (.seq (.block 1
 (.seq Zdq
 Zdr))
 Zds)))
def Zat:PC :=
 (.reg [2] [I 25 (.mv (.s 3)),I 26 (C ZDV [(.s 25)]),J (.st 3 (.s 2) (.s 26))])
def ZXU:PF:=⟨false,
 (.seq Zdk
 (.seq (.seq Zdl
 (.ite (.s 8)
 (.seq Zdm
 .ret)
 .skip))
 (.seq Zdn
 (.seq (.seq Zdo
 (.block 0
 (.loop Zdt)))
 (.seq Zat
 .ret))))),
 [.c 2 true 3]⟩
theorem Zha:Zv Proofs.Tryz.prog false ZhZ Proofs.Tryz.f147=some ZXU:=by kernel_rfl
def Zdu:List Hint:=[H [0,4,5],H [0,4,5,22],H [6,7],H [0,4,5,8,9],H [0,4,5,8,9],H [0,4,5,8,9,33],H [0,4,5,8,9,10],H [0,4,5,8,9,10,41],H [6,7],H [0,4,5,8,9,47],H [0,4,5,8,9,10],H [0,4,5,8,9,10,55],H [6,7],H [0,4,5,8,9,57],H [6,7],H [0,4,5,8,9,78],H [6,7],H [0,4,5,8,9,87],H [0,5,8,11],H [8,11,12,13],H [8,11,12,13,107],H [6,7],H [6,7],H [9,10,14],H [9,10,14,127],H [6,7],⟨[6,7],[],[],[],[(4,.blind),(2,.app0),(0,.imm)],[]⟩]
def ZXV:PC :=
 (.reg [0,4,5] [I 4 (.box (.s 1)),I 5 (.box (.s 2)),I 6 (.mv (.v .nils)),I 7 (.mv (V 0))])
def ZXW:PC :=
 (.reg [0,4,5,22] [I 15 (.fadr 1 (.s 4)),I 16 (.ld false 1 (.s 15)),I 17 (.bin .eql (.s 16) (V 0)),I 18 (.mv (.s 17)),G 19 18 true (.fadr 1 (.s 5)),G 20 18 true (.ld false 1 (.s 19)),G 21 18 true (.bin .eql (.s 20) (V 0)),I 22 (.pick (.s 18) (.s 21) (.v (.bool false)))])
def ZXX:PC :=
 (.reg [6,7] [I 23 (.mv (.s 0)),I 24 (.ld true 7 (.s 4)),I 25 (.ld true 7 (.s 5)),I 26 (C ZDW [(.s 23),(.s 24),(.s 25)]),I 27 (.ext (.s 26) 0),I 28 (.ext (.s 26) 1),I 6 (.mv (.s 27)),I 7 (.mv (.s 28))])
def ZXY:PC :=
 (.reg [0,4,5,8,9] [I 8 (.mv (.v .nils)),I 9 (.mv (.v .nils))])
def ZXZ:PC :=
 (.reg [0,4,5,8,9] [I 10 (.mv (V 0))])
def ZXa:PC :=
 (.reg [0,4,5,8,9,33] [I 29 (.fadr 1 (.s 4)),I 30 (.ld false 1 (.s 29)),I 31 (.fadr 1 (.s 5)),I 32 (.ld false 1 (.s 31)),I 33 (.bin .geq (.s 30) (.s 32))])
def ZXb:PC :=
 (.reg [0,4,5,8,9,10] [I 35 (.mv (.s 0)),I 36 (.ld true 7 (.s 4)),I 37 (C J5 [(.s 35),(.s 36)]),I 34 (.mv (.s 37)),I 38 (.ext (.s 34) 0),I 39 (.ext (.s 34) 1),I 8 (.mv (.s 38)),I 10 (.mv (.s 39))])
def ZXc:PC :=
 (.reg [0,4,5,8,9,10,41] [I 40 (.mv (.s 10)),I 41 (.bin .neq (.s 40) (V 0))])
def ZXd:PC :=
 (.reg [6,7] [I 42 (.mv (.s 10)),I 6 (.mv (.v .nils)),I 7 (.mv (.s 42))])
def ZXe:PC :=
 (.reg [0,4,5,8,9,47] [I 43 (.fadr 1 (.s 5)),I 44 (.ld false 1 (.s 43)),I 45 (.fadr 1 (.s 4)),I 46 (.ld false 1 (.s 45)),I 47 (.bin .geq (.s 44) (.s 46))])
def ZTT:PC :=
 (.reg [0,4,5,8,9,10] [I 49 (.mv (.s 0)),I 50 (.ld true 7 (.s 5)),I 51 (C J5 [(.s 49),(.s 50)]),I 48 (.mv (.s 51)),I 52 (.ext (.s 48) 0),I 53 (.ext (.s 48) 1),I 9 (.mv (.s 52)),I 10 (.mv (.s 53))])
def ZTU:PC :=
 (.reg [0,4,5,8,9,10,55] [I 54 (.mv (.s 10)),I 55 (.bin .neq (.s 54) (V 0))])
def ZTV:PC :=
 (.reg [6,7] [I 56 (.mv (.s 10)),I 6 (.mv (.v .nils)),I 7 (.mv (.s 56))])
def ZTW:PC :=
 (.reg [0,4,5,8,9,57] [I 58 (.fadr 1 (.s 4)),I 59 (.ld false 1 (.s 58)),I 60 (.fadr 1 (.s 5)),I 61 (.ld false 1 (.s 60)),I 62 (.bin .eql (.s 59) (.s 61)),I 63 (.mv (.s 62)),G 64 63 true (.mv (.s 8)),G 65 63 true (.len 1 (.s 64)),G 66 63 true (.mv (.s 9)),G 67 63 true (.len 1 (.s 66)),G 68 63 true (.bin .add (.s 65) (.s 67)),G 69 63 true (.bin .leq (.s 68) (V 4)),I 70 (.pick (.s 63) (.s 69) (.v (.bool false))),I 57 (.mv (.s 70))])
def ZTX:PC :=
 (.reg [6,7] [I 71 (.bslice false 7 [] []),I 72 (.mv (.s 8)),I 73 (.app 7 80 (.s 71) (.s 72)),I 74 (.mv (.s 9)),I 75 (.app 7 80 (.s 73) (.s 74)),I 76 (C QP [(.s 75)]),I 77 (.bslice false 7 [ZT] [(0,(.s 76))]),I 6 (.mv (.s 77)),I 7 (.mv (V 0))])
def ZTY:PC :=
 (.reg [0,4,5,8,9,78] [I 79 (.fadr 1 (.s 4)),I 80 (.ld false 1 (.s 79)),I 81 (.fadr 1 (.s 5)),I 82 (.ld false 1 (.s 81)),I 83 (.bin .eql (.s 80) (.s 82)),I 78 (.mv (.s 83))])
def ZTZ:PC :=
 (.reg [6,7] [I 84 (.ld true 7 (.s 4)),I 85 (.ld true 7 (.s 5)),I 86 (.bslice false 7 [ZT,ZT] [(0,(.s 84)),(1,(.s 85))]),I 6 (.mv (.s 86)),I 7 (.mv (V 0))])
def ZTa:PC :=
 (.reg [0,4,5,8,9,87] [I 88 (.fadr 1 (.s 4)),I 89 (.ld false 1 (.s 88)),I 90 (.fadr 1 (.s 5)),I 91 (.ld false 1 (.s 90)),I 92 (.bin .gtr (.s 89) (.s 91)),I 87 (.mv (.s 92))])
def ZTb:PC :=
 (.reg [0,5,8,11] [I 93 (.mv (.s 8)),I 94 (.len 1 (.s 93)),I 95 (.bin .sub (.s 94) (V 1)),I 11 (.mv (.s 95))])
def ZTc:PC :=
 (.reg [8,11,12,13] [I 97 (.mv (.s 0)),I 98 (.mv (.s 8)),I 99 (.mv (.s 11)),I 100 (.ixS 7 (.s 98) (.s 99)),I 101 (.ld true 7 (.s 100)),I 102 (.ld true 7 (.s 5)),I 103 (C ZAH [(.s 97),(.s 101),(.s 102)]),I 96 (.mv (.s 103)),I 104 (.ext (.s 96) 0),I 105 (.ext (.s 96) 1),I 12 (.mv (.s 104)),I 13 (.mv (.s 105))])
def ZTd:PC :=
 (.reg [8,11,12,13,107] [I 106 (.mv (.s 13)),I 107 (.bin .neq (.s 106) (V 0))])
def ZTe:PC :=
 (.reg [6,7] [I 108 (.mv (.s 13)),I 6 (.mv (.v .nils)),I 7 (.mv (.s 108))])
def ZTf:PC :=
 (.reg [6,7] [I 109 (.bslice false 7 [] []),I 110 (.mv (.s 8)),I 111 (.mv (.s 11)),I 112 (.slc 7 (.s 110) none (some (.s 111))),I 113 (.app 7 80 (.s 109) (.s 112)),I 114 (.mv (.s 12)),I 115 (.app 7 80 (.s 113) (.s 114)),I 116 (C ZDD [(.s 115)]),I 6 (.mv (.s 116)),I 7 (.mv (V 0))])
def ZTg:PC :=
 (.reg [9,10,14] [I 118 (.mv (.s 0)),I 119 (.ld true 7 (.s 4)),I 120 (.mv (.s 9)),I 121 (.ixS 7 (.s 120) (V 0)),I 122 (.ld true 7 (.s 121)),I 123 (C ZAH [(.s 118),(.s 119),(.s 122)]),I 117 (.mv (.s 123)),I 124 (.ext (.s 117) 0),I 125 (.ext (.s 117) 1),I 14 (.mv (.s 124)),I 10 (.mv (.s 125))])
def ZTh:PC :=
 (.reg [9,10,14,127] [I 126 (.mv (.s 10)),I 127 (.bin .neq (.s 126) (V 0))])
def ZTi:PC :=
 (.reg [6,7] [I 128 (.mv (.s 10)),I 6 (.mv (.v .nils)),I 7 (.mv (.s 128))])
def ZTj:PC :=
 (.reg [6,7] [I 129 (.w .imm (.bslice false 7 [] [])),I 130 (.mv (.s 14)),I 131 (.w .app0 (.app 7 80 (.s 129) (.s 130))),I 132 (.mv (.s 9)),I 133 (.w .blind (.slc 7 (.s 132) (some (V 1)) none)),I 134 (.app 7 80 (.s 131) (.s 133)),I 135 (C ZDD [(.s 134)]),I 6 (.mv (.s 135)),I 7 (.mv (V 0))])
def ZNS:PF:=⟨false,
 (.seq ZXV
 (.seq (.seq ZXW
 (.ite (.s 22)
 (.seq ZXX
 .ret)
 .skip))
 (.seq ZXY
 (.seq ZXZ
 (.seq (.seq ZXa
 (.ite (.s 33)
 (.seq ZXb
 (.seq ZXc
 (.ite (.s 41)
 (.seq ZXd
 .ret)
 .skip)))
 .skip))
 (.seq (.seq ZXe
 (.ite (.s 47)
 (.seq ZTT
 (.seq ZTU
 (.ite (.s 55)
 (.seq ZTV
 .ret)
 .skip)))
 .skip))
 (.seq (.block 0
 (.seq ZTW
 (.ite (.s 57)
 (.seq ZTX
 .ret)
 (.seq ZTY
 (.ite (.s 78)
 (.seq ZTZ
 .ret)
 (.seq ZTa
 (.ite (.s 87)
 (.seq ZTb
 (.seq ZTc
 (.seq (.seq ZTd
 (.ite (.s 107)
 (.seq ZTe
 .ret)
 .skip))
 (.seq ZTf
 .ret))))
 .skip)))))))
 (.seq ZTg
 (.seq (.seq ZTh
 (.ite (.s 127)
 (.seq ZTi
 .ret)
 .skip))
 (.seq ZTj
 .ret)))))))))),
 [.s 6,.s 7]⟩
theorem Zdv:Zv Proofs.Tryz.prog false Zdu Proofs.Tryz.f154=some ZNS:=by kernel_rfl
def Zfm:List Hint:=[H [0,1],H [0,1,9],H [4,5,6],H [0,1,17],H [4,5,6],H [4,5,6]]
def Zau:PC :=
 (.reg [0,1] [I 4 (.mv (.v (.str []))),I 5 (.mv (.v (.str []))),I 6 (.mv (V 0))])
def Zav:PC :=
 (.reg [0,1,9] [I 7 (.mv (.s 0)),I 8 (C ZAI [(.s 7)]),I 9 (.un .not (.s 8))])
def Zaw:PC :=
 (.reg [4,5,6] [I 4 (.mv (.v (.str []))),I 5 (.mv (.v (.str []))),I 6 (.mv (V 2))])
def Zax:PC :=
 (.reg [0,1,17] [I 10 (.mv (.s 1)),I 11 (.bin .lss (.s 10) (V 0)),I 12 (.mv (.s 11)),G 13 12 false (.mv (.s 1)),G 14 12 false (.mv (.s 0)),G 15 12 false (.len 0 (.s 14)),G 16 12 false (.bin .gtr (.s 13) (.s 15)),I 17 (.pick (.s 12) (.v (.bool true)) (.s 16))])
def Zay:PC :=
 (.reg [4,5,6] [I 4 (.mv (.v (.str []))),I 5 (.mv (.v (.str []))),I 6 (.mv (V 3))])
def Zaz:PC :=
 (.reg [4,5,6] [I 18 (.mv (.s 0)),I 19 (.mv (.s 1)),I 20 (.slcS (.s 18) none (some (.s 19))),I 21 (.mv (.s 0)),I 22 (.mv (.s 1)),I 23 (.slcS (.s 21) (some (.s 22)) none),I 4 (.mv (.s 20)),I 5 (.mv (.s 23)),I 6 (.mv (V 0))])
def ZQ9:PF:=⟨false,
 (.seq Zau
 (.seq (.seq Zav
 (.ite (.s 9)
 (.seq Zaw
 .ret)
 .skip))
 (.seq (.seq Zax
 (.ite (.s 17)
 (.seq Zay
 .ret)
 .skip))
 (.seq Zaz
 .ret)))),
 [.s 4,.s 5,.s 6]⟩
theorem Zfn:Zv Proofs.Tryz.prog false Zfm Proofs.Tryz.f155=some ZQ9:=by kernel_rfl
def ZJn:List Hint:=[H [0,2],H [0,2,4],H [2],⟨[2],[],[(8,.pure),(19,.pure)],[],[],[]⟩]
def ZHI:PC :=
 (.reg [0,2] [I 2 (.box (.v (.agg [(.int .i64 0),(.int .i64 0),(.int .i64 0),(.int .i64 0),(.int .i64 0),(.int .i64 0),(.int .i64 0)])))])
def ZHJ:PC :=
 (.reg [0,2,4] [I 3 (.mv (.s 0)),I 4 (.eqs false 3 [] (.s 3) (.v .nilptr))])
def ZHK:PC :=
 (.reg [2] [I 5 (.build [(.int .i64 0),(.int .i64 0),(.int .i64 0),(.int .i64 0),(.int .i64 0),(.int .i64 0),(.int .i64 0)] []),J (.st 7 (.s 2) (.s 5))])
def ZHL:PC :=
 (.reg [2] [I 6 (.mv (.s 0)),I 7 (.nilck (.s 6)),I 8 (.fadr 0 (.s 7)),I 9 (.ld false 1 (.s 8)),I 10 (.mv (.s 0)),I 11 (.nilck (.s 10)),I 12 (.fadr 1 (.s 11)),I 13 (.ld false 1 (.s 12)),I 14 (.call .pure (.v (.func (.func Y9) [] [])) [(.s 13)]),I 15 (.len 1 (.s 14)),I 16 (.mv (.s 0)),I 17 (.nilck (.s 16)),I 18 (.fadr 2 (.s 17)),I 19 (.ld false 1 (.s 18)),I 20 (.len 2 (.s 19)),I 21 (.mv (.s 0)),I 22 (.nilck (.s 21)),I 23 (.fadr 1 (.s 22)),I 24 (.ld false 1 (.s 23)),I 25 (.call .pure (.v (.func (.func J3) [] [])) [(.s 24)]),I 26 (.len 1 (.s 25)),I 27 (.mv (.s 0)),I 28 (.nilck (.s 27)),I 29 (.fadr 3 (.s 28)),I 30 (.ld false 1 (.s 29)),I 31 (.mv (.s 0)),I 32 (.nilck (.s 31)),I 33 (.fadr 4 (.s 32)),I 34 (.ld false 1 (.s 33)),I 35 (.mv (.s 0)),I 36 (.nilck (.s 35)),I 37 (.fadr 5 (.s 36)),I 38 (.ld false 1 (.s 37)),I 39 (.build [(.int .i64 0),(.int .i64 0),(.int .i64 0),(.int .i64 0),(.int .i64 0),(.int .i64 0),(.int .i64 0)] [(0,1,(.s 9)),(1,1,(.s 15)),(2,1,(.s 20)),(3,1,(.s 26)),(4,1,(.s 30)),(5,1,(.s 34)),(6,1,(.s 38))]),J (.st 7 (.s 2) (.s 39))])
def ZBV:PF:=⟨false,
 (.seq ZHI
 (.seq (.seq ZHJ
 (.ite (.s 4)
 (.seq ZHK
 .ret)
 .skip))
 (.seq ZHL
 .ret))),
 [.c 2 true 7]⟩
theorem ZJo:Zv Proofs.Tryz.prog false ZJn Proofs.Tryz.f158=some ZBV:=by kernel_rfl
def ZXf:List Hint:=[H [0,3],H [0,3,5],H [0,3,5,80],H [0,3,5,95],H [0,5,6],H [0,5,6],H [5],⟨[0,3,5,7],[0],[],[],[],[]⟩,H [0,3,5,7,20,21,22],H [0,3,5,7,20,21,22,23],H [0,3,5,7,9,20,21,22],H [0,3,5,7,10,20,21,22],⟨[0,3,5,7,10,20,21,22],[2],[],[],[],[]⟩,H [0,3,5,7,10,20,21,22],H [0,3,5,7,10,20,21,22],H [0,3,5,7,20,21,22],H [0,3,5,7,20,21,22],H [5],H [4]]
def ZPu:PC :=
 (.reg [0,3] [I 3 (.box (.s 1)),I 4 (.mv (.v .nilptr))])
def ZPv:PC :=
 (.reg [0,3,5] [I 11 (.fadr 1 (.s 3)),I 12 (.ld false 1 (.s 11)),I 13 (.fadr 2 (.s 3)),I 14 (.ld true 3 (.s 13)),I 15 (.fadr 0 (.s 3)),I 16 (.ld false 1 (.s 15)),I 17 (.build [(.int .u64 0),(.int .i64 0),(.int .i64 0),(.int .i64 0),(.int .i64 0)] [(1,1,(.s 12)),(2,3,(.s 14)),(0,1,(.s 16))]),I 18 (.box (.s 17)),I 5 (.mv (.s 18))])
def ZPw:PC :=
 (.reg [0,3,5,80] [I 81 (.fadr 0 (.s 3)),I 82 (.ld false 1 (.s 81)),I 83 (.bin .neq (.s 82) (.v (.int .u64 0))),I 84 (.mv (.s 83)),G 85 84 false (.fadr 5 (.s 3)),G 86 84 false (.ld false 1 (.s 85)),G 87 84 false (.bin .eql (.s 86) (.v (.str []))),G 88 84 false (.mv (.s 87)),G 89 88 true (.fadr 6 (.s 3)),G 90 88 true (.ld false 1 (.s 89)),G 91 88 true (.len 1 (.s 90)),G 92 88 true (.bin .eql (.s 91) (V 0)),G 93 84 false (.pick (.s 88) (.s 92) (.v (.bool false))),I 94 (.pick (.s 84) (.v (.bool true)) (.s 93)),I 80 (.mv (.s 94))])
def ZPx:PC :=
 (.reg [0,3,5,95] [I 96 (.fadr 1 (.s 3)),I 97 (.ld false 1 (.s 96)),I 98 (.bin .eql (.s 97) (V 0)),I 95 (.mv (.s 98))])
def ZPy:PC :=
 (.reg [0,5,6] [I 99 (.fadr 5 (.s 3)),I 100 (.ld false 1 (.s 99)),I 101 (.build [(.int .i64 0),(.str []),.nils] [(1,1,(.s 100))]),I 6 (.box (.v ZN)),J (.st 3 (.s 6) (.s 101))])
def ZPz:PC :=
 (.reg [0,5,6] [I 103 (.mv (.s 5)),I 104 (.ld true 3 (.s 6)),I 105 (C Y7 [(.s 104)]),I 102 (.mv (.s 105)),I 106 (.ext (.s 102) 0),I 107 (.ext (.s 102) 1),I 108 (.nilck (.s 103)),I 109 (.fadr 2 (.s 108)),J (.st 3 (.s 109) (.s 106))])
def ZP0:PC :=
 (.reg [5] [I 110 (.mv (.s 0)),I 111 (.mv (.s 5)),I 112 (.mkf (.func Jv) [] [(.s 6)]),I 113 (C ZAJ [(.s 110),(.s 111),(.s 112)])])
def ZP1:PC :=
 (.reg [0,3,5,7] [I 7 (.boxnil 1)])
def ZP2:PC :=
 (.reg [0,3,5,7,20,21,22] [I 19 (.fadr 6 (.s 3)),I 20 (.ld false 1 (.s 19)),I 21 (.len 1 (.s 20)),I 22 (.mv (V 0))])
def ZP3:PC :=
 (.reg [0,3,5,7,20,21,22,23] [I 23 (.bin .lss (.s 22) (.s 21))])
def ZNT:PC :=
 (.reg [0,3,5,7,9,20,21,22] [I 24 (.ixS 7 (.s 20) (.s 22)),I 25 (.ld true 7 (.s 24)),I 9 (.box (.v ZT)),J (.st 7 (.s 9) (.s 25))])
def ZNU:PC :=
 (.reg [0,3,5,7,10,20,21,22] [I 26 (.mv (.s 0)),I 27 (.ld true 7 (.s 9)),I 28 (C Qt [(.s 26),(.s 27)]),I 10 (.mv (.s 28))])
def ZNV:PC :=
 (.reg [0,3,5,7,10,20,21,22] [I 29 (.ld false 1 (.s 7)),I 30 (.mv (.s 10)),I 31 (.bslice true 1 [.nilptr] [(0,(.s 30))]),I 32 (.app 1 8 (.s 29) (.s 31)),J (.st 1 (.s 7) (.s 32))])
def ZDG:PC :=
 (.reg [0,3,5,7,10,20,21,22] [I 33 (.mv (.s 5)),I 34 (.nilck (.s 33)),I 35 (.fadr 2 (.s 34)),I 36 (.fadr 0 (.s 35)),I 37 (.ld false 1 (.s 36)),I 38 (.mv (.s 10)),I 39 (.nilck (.s 38)),I 40 (.fadr 2 (.s 39)),I 41 (.fadr 0 (.s 40)),I 42 (.ld false 1 (.s 41)),I 43 (.bin .add (.s 37) (.s 42)),I 44 (.nilck (.s 33)),I 45 (.fadr 2 (.s 44)),I 46 (.fadr 0 (.s 45)),J (.st 1 (.s 46) (.s 43))])
def ZDH:PC :=
 (.reg [0,3,5,7,10,20,21,22] [I 47 (.mv (.s 5)),I 48 (.nilck (.s 47)),I 49 (.fadr 2 (.s 48)),I 50 (.fadr 1 (.s 49)),I 51 (.ld false 1 (.s 50)),I 52 (.mv (.s 10)),I 53 (.nilck (.s 52)),I 54 (.fadr 2 (.s 53)),I 55 (.fadr 1 (.s 54)),I 56 (.ld false 1 (.s 55)),I 57 (.bin .add (.s 51) (.s 56)),I 58 (.nilck (.s 47)),I 59 (.fadr 2 (.s 58)),I 60 (.fadr 1 (.s 59)),J (.st 1 (.s 60) (.s 57))])
def ZDI:PC :=
 (.reg [0,3,5,7,20,21,22] [I 61 (.mv (.s 5)),I 62 (.nilck (.s 61)),I 63 (.fadr 2 (.s 62)),I 64 (.fadr 2 (.s 63)),I 65 (.ld false 1 (.s 64)),I 66 (.mv (.s 10)),I 67 (.nilck (.s 66)),I 68 (.fadr 2 (.s 67)),I 69 (.fadr 2 (.s 68)),I 70 (.ld false 1 (.s 69)),I 71 (.bin .add (.s 65) (.s 70)),I 72 (.nilck (.s 61)),I 73 (.fadr 2 (.s 72)),I 74 (.fadr 2 (.s 73)),J (.st 1 (.s 74) (.s 71))])
def ZNW:PC :=
 (.reg [0,3,5,7,20,21,22] [I 75 (.bin .add (.s 22) (V 1)),I 22 (.mv (.s 75))])
def ZNX:PC :=
 (.seq ZP3
 (.seq (.ite (.s 23)
 .skip
 (.exit 1))
 (.seq (.block 2
 (.seq ZNT
 (.seq ZNU
 (.seq ZNV
 (.seq ZDG
 (.seq ZDH
 ZDI))))))
 ZNW)))
def ZNY:PC :=
 (.reg [5] [I 76 (.mv (.s 0)),I 77 (.mv (.s 5)),I 78 (.mkf (.func JS) [] [(.s 3),(.s 7)]),I 79 (C ZAJ [(.s 76),(.s 77),(.s 78)])])
def ZNZ:PC :=
 (.reg [4] [I 114 (.mv (.s 5)),I 4 (.mv (.s 114))])
def ZIZ:PF:=⟨true,
 (.seq ZPu
 (.seq ZPv
 (.seq (.block 0
 (.seq ZPw
 (.ite (.s 80)
 .skip
 (.seq ZPx
 (.ite (.s 95)
 (.seq ZPy
 (.seq ZPz
 ZP0))
 (.seq ZP1
 (.seq (.seq ZP2
 (.block 1
 (.loop ZNX)))
 ZNY)))))))
 (.seq ZNZ
 .ret)))),
 [.s 4]⟩
theorem ZXg:Zv Proofs.Tryz.prog true ZXf Proofs.Tryz.f159=some ZIZ:=by kernel_rfl
def ZXh:List Hint:=[H [1,2,3],H [1,2,3,4],H [2,4],H [2,4,8],H []]
def ZP4:PC :=
 (.reg [1,2,3] [I 3 (.box (.s 0))])
def ZP5:PC :=
 (.reg [1,2,3,4] [I 4 (.box (.v .nilfunc))])
def ZP6:PC :=
 (.reg [2,4] [I 5 (.mkf (.func YL) [] [(.s 1),(.s 3),(.s 4)]),J (.st 1 (.s 4) (.s 5))])
def ZP7:PC :=
 (.reg [2,4,8] [I 6 (.fadr 0 (.s 2)),I 7 (.ld false 1 (.s 6)),I 8 (.bin .neq (.s 7) (.v (.int .u64 0)))])
def ZP8:PC :=
 (.reg [] [I 9 (.ld false 1 (.s 4)),I 10 (.fadr 0 (.s 2)),I 11 (.ld false 1 (.s 10)),I 12 (.call .norm (.s 9) [(.s 11)])])
def ZIa:PF:=⟨false,
 (.seq ZP4
 (.seq ZP5
 (.seq ZP6
 (.seq ZP7
 (.ite (.s 8)
 ZP8
 .skip))))),
 []⟩
theorem ZXi:Zv Proofs.Tryz.prog false ZXh Proofs.Tryz.f161=some ZIa:=by kernel_rfl
def ZP9:List Hint:=[H [0,1,2,3],H [0,2,3,6,7],H [3,6,26],H [5],H [3,28,29,30],H [3,28,29,30,31],H [3,9,28,29,30],H [3,28,29,30,38],H [5],H [3,28,29,30],H [5]]
def ZKu:PC :=
 (.reg [0,1,2,3] [I 5 (.mv (.v (.bool false)))])
def ZKv:PC :=
 (.reg [0,2,3,6,7] [I 11 (.ld false 1 (.s 1)),I 12 (.mv (.s 0)),I 13 (C Qq [(.s 11),(.s 12)]),I 10 (.mv (.s 13)),I 14 (.ext (.s 10) 0),I 15 (.ext (.s 10) 1),I 6 (.box (.v ZN)),J (.st 3 (.s 6) (.s 14)),I 7 (.mv (.s 15))])
def ZKw:PC :=
 (.reg [3,6,26] [I 16 (.ld false 1 (.s 2)),I 17 (.mv (.s 0)),I 18 (.ld true 3 (.s 6)),I 19 (.mv (.s 7)),I 20 (.build [(.int .i64 0),(.str []),.nils,(.int .i64 0)] [(0,3,(.s 18)),(3,1,(.s 19))]),I 21 (.call .norm (.s 16) [(.s 17),(.s 20)]),I 22 (.un .not (.s 21)),I 23 (.mv (.s 22)),G 24 23 false (.mv (.s 7)),G 25 23 false (.bin .neq (.s 24) (V 0)),I 26 (.pick (.s 23) (.v (.bool true)) (.s 25))])
def ZKx:PC :=
 (.reg [5] [I 5 (.mv (.v (.bool false)))])
def ZKy:PC :=
 (.reg [3,28,29,30] [I 27 (.fadr 2 (.s 6)),I 28 (.ld false 1 (.s 27)),I 29 (.len 1 (.s 28)),I 30 (.mv (V 0))])
def ZKz:PC :=
 (.reg [3,28,29,30,31] [I 31 (.bin .lss (.s 30) (.s 29))])
def ZK0:PC :=
 (.reg [3,9,28,29,30] [I 32 (.ixS 4 (.s 28) (.s 30)),I 33 (.ld true 4 (.s 32)),I 9 (.box (.v ZK)),J (.st 4 (.s 9) (.s 33))])
def ZK1:PC :=
 (.reg [3,28,29,30,38] [I 34 (.ld false 1 (.s 3)),I 35 (.fadr 0 (.s 9)),I 36 (.ld false 1 (.s 35)),I 37 (.call .norm (.s 34) [(.s 36)]),I 38 (.un .not (.s 37))])
def ZK2:PC :=
 (.reg [5] [I 5 (.mv (.v (.bool false)))])
def ZK3:PC :=
 (.reg [3,28,29,30] [I 39 (.bin .add (.s 30) (V 1)),I 30 (.mv (.s 39))])
def ZJp:PC :=
 (.seq ZKz
 (.seq (.ite (.s 31)
 .skip
 (.exit 0))
 (.seq (.block 1
 (.seq ZK0
 (.seq ZK1
 (.ite (.s 38)
 (.seq ZK2
 .ret)
 .skip))))
 ZK3)))
def ZJq:PC :=
 (.reg [5] [I 5 (.mv (.v (.bool true)))])
def ZEZ:PF:=⟨false,
 (.seq ZKu
 (.seq ZKv
 (.seq (.seq ZKw
 (.ite (.s 26)
 (.seq ZKx
 .ret)
 .skip))
 (.seq (.seq ZKy
 (.block 0
 (.loop ZJp)))
 (.seq ZJq
 .ret))))),
 [.s 5]⟩
theorem ZQA:Zv Proofs.Tryz.prog false ZP9 Proofs.Tryz.f162=some ZEZ:=by kernel_rfl
def ZTk:List Hint:=[H [0,1,2],H [1,2,9],H [4],H [4]]
def ZNa:PC :=
 (.reg [0,1,2] [I 4 (.mv (V 0))])
def ZNb:PC :=
 (.reg [1,2,9] [I 5 (.mv (.s 0)),I 6 (.ld false 1 (.s 1)),I 7 (.ld false 1 (.s 2)),I 8 (.bin .rem (.s 6) (.s 7)),I 9 (.bin .lss (.s 5) (.s 8))])
def ZNc:PC :=
 (.reg [4] [I 10 (.ld false 1 (.s 1)),I 11 (.ld false 1 (.s 2)),I 12 (.bin .quo (.s 10) (.s 11)),I 13 (.bin .add (.s 12) (V 1)),I 4 (.mv (.s 13))])
def ZNd:PC :=
 (.reg [4] [I 14 (.ld false 1 (.s 1)),I 15 (.ld false 1 (.s 2)),I 16 (.bin .quo (.s 14) (.s 15)),I 4 (.mv (.s 16))])
def ZGM:PF:=⟨false,
 (.seq ZNa
 (.seq (.seq ZNb
 (.ite (.s 9)
 (.seq ZNc
 .ret)
 .skip))
 (.seq ZNd
 .ret))),
 [.s 4]⟩
theorem ZTl:Zv Proofs.Tryz.prog false ZTk Proofs.Tryz.f163=some ZGM:=by kernel_rfl
def Za0:List Hint:=[H [0],H [0,2,3],H [2,3,4,5],H [2,3,4,5,6],H [2,3,4,5],H [2,3,4,5],H [2,3,4,5],H [2,3]]
def ZTm:PC :=
 (.reg [0] [I 2 (.mv (V 0)),I 3 (.mv (V 0))])
def ZTn:PC :=
 (.reg [0,2,3] [I 2 (.mv (V 8)),I 3 (.mv (V 16))])
def ZTo:PC :=
 (.reg [2,3,4,5] [I 4 (.mv (.s 0)),I 5 (.mv (V 0))])
def ZTp:PC :=
 (.reg [2,3,4,5,6] [I 6 (.bin .lss (.s 5) (.s 4))])
def ZTq:PC :=
 (.reg [2,3,4,5] [I 7 (.mv (.s 2)),I 8 (.bin .mul (.s 7) (V 2)),I 2 (.mv (.s 8))])
def ZTr:PC :=
 (.reg [2,3,4,5] [I 9 (.mv (.s 3)),I 10 (.bin .mul (.s 9) (V 4)),I 11 (.mnx false (.s 10) (V 65536)),I 3 (.mv (.s 11))])
def ZTs:PC :=
 (.reg [2,3,4,5] [I 12 (.bin .add (.s 5) (V 1)),I 5 (.mv (.s 12))])
def ZTt:PC :=
 (.seq ZTp
 (.seq (.ite (.s 6)
 .skip
 (.exit 0))
 (.seq (.block 1
 (.seq ZTq
 ZTr))
 ZTs)))
def ZTu:PC :=
 (.reg [2,3] [I 13 (.mv (.s 2)),I 14 (.mv (.s 3)),I 15 (.mnx false (.s 14) (V 65536)),I 2 (.mv (.s 13)),I 3 (.mv (.s 15))])
def ZJ7:PF:=⟨false,
 (.seq ZTm
 (.seq ZTn
 (.seq (.seq ZTo
 (.block 0
 (.loop ZTt)))
 (.seq ZTu
 .ret)))),
 [.s 2,.s 3]⟩
theorem Za1:Zv Proofs.Tryz.prog false Za0 Proofs.Tryz.f164=some ZJ7:=by kernel_rfl
def ZXj:List Hint:=[H [0],H [3,4],H [19],H [2],H [2]]
def ZQB:PC :=
 (.reg [0] [I 2 (.mv (V 0))])
def ZQC:PC :=
 (.reg [3,4] [I 6 (.mv (.s 0)),I 7 (C ZCG [(.s 6)]),I 5 (.mv (.s 7)),I 8 (.ext (.s 5) 0),I 9 (.ext (.s 5) 1),I 3 (.mv (.s 8)),I 4 (.mv (.s 9))])
def ZQD:PC :=
 (.reg [19] [I 10 (.mv (.s 3)),I 11 (.bin .geq (.s 10) (V 16384)),I 12 (.mv (.s 11)),G 13 12 false (.mv (.s 4)),G 14 12 false (.bin .lss (.s 13) (.v (.int .u64 1))),I 15 (.pick (.s 12) (.v (.bool true)) (.s 14)),I 16 (.mv (.s 15)),G 17 16 false (.mv (.s 4)),G 18 16 false (.bin .gtr (.s 17) (.v (.int .u64 4294967295))),I 19 (.pick (.s 16) (.v (.bool true)) (.s 18))])
def ZQE:PC :=
 (.reg [2] [I 2 (.mv (V 2))])
def ZQF:PC :=
 (.reg [2] [I 2 (.mv (V 0))])
def ZIb:PF:=⟨false,
 (.seq ZQB
 (.seq (.seq ZQC
 (.seq ZQD
 (.ite (.s 19)
 (.seq ZQE
 .ret)
 .skip)))
 (.seq ZQF
 .ret))),
 [.s 2]⟩
theorem ZXk:Zv Proofs.Tryz.prog false ZXj Proofs.Tryz.f165=some ZIb:=by kernel_rfl
def Zdw:List Hint:=[H [0,2],H [0,2,3],H [0,2,3,6,7],H [0,2,3,6,7,8],H [0,2,3,4,5,6,7],H [0,2,3,6,7],H [0,2,3,6,7],H [2]]
def ZXl:PC :=
 (.reg [0,2] [I 2 (.box (.v ZM))])
def ZXm:PC :=
 (.reg [0,2,3] [I 3 (.box (.v ZM))])
def ZXn:PC :=
 (.reg [0,2,3,6,7] [I 6 (.build [.nilfunc,.nilfunc,.nilfunc] [(0,1,(.v (.func (.func Xj) [] []))),(1,1,(.v (.func (.func XK) [] []))),(2,1,(.v (.func (.func Xi) [] [])))]),I 7 (.mv (V 0))])
def ZXo:PC :=
 (.reg [0,2,3,6,7,8] [I 8 (.bin .lss (.s 7) (V 3))])
def ZXp:PC :=
 (.reg [0,2,3,4,5,6,7] [I 9 (.mv (.s 7)),I 10 (.ixArr false 3 1 (.s 6) (.s 7)),I 4 (.mv (.s 9)),I 5 (.mv (.s 10))])
def ZXq:PC :=
 (.reg [0,2,3,6,7] [I 11 (.mv (.s 4)),I 12 (.mv (.s 0)),I 13 (.mv (.s 5)),I 14 (C ZBO [(.s 12),(.s 13)]),I 15 (.ixA 3 1 (.s 3) (.s 11)),J (.st 1 (.s 15) (.s 14))])
def ZXr:PC :=
 (.reg [0,2,3,6,7] [I 16 (.bin .add (.s 7) (V 1)),I 7 (.mv (.s 16))])
def ZXs:PC :=
 (.seq ZXo
 (.seq (.ite (.s 8)
 .skip
 (.exit 0))
 (.seq (.block 1
 (.seq ZXp
 ZXq))
 ZXr)))
def ZXt:PC :=
 (.reg [2] [I 17 (.ld true 3 (.s 3)),I 18 (C Yc [(.s 17)]),J (.st 3 (.s 2) (.s 18))])
def ZNe:PF:=⟨false,
 (.seq ZXl
 (.seq ZXm
 (.seq (.seq ZXn
 (.block 0
 (.loop ZXs)))
 (.seq ZXt
 .ret)))),
 [.c 2 true 3]⟩
theorem Zdx:Zv Proofs.Tryz.prog false Zdw Proofs.Tryz.f166=some ZNe:=by kernel_rfl
def Za2:List Hint:=[H [0,2],H [0,2,3],H [2,3,8,9,10],H [2,3,8,9,10,11],H [2,3,5,8,9,10],H [2,3,8,9,10,20,21],H [2,3,8,9,10,20,21,22],H [2,3,6,7,8,9,10,20,21],H [2,3,8,9,10,20,21],H [2,3,8,9,10,20,21],H [2,3,8,9,10],H [2]]
def ZTv:PC :=
 (.reg [0,2] [I 2 (.box (.v ZM))])
def ZTw:PC :=
 (.reg [0,2,3] [I 3 (.box (.v ZM))])
def ZTx:PC :=
 (.reg [2,3,8,9,10] [I 8 (.mv (.s 0)),I 9 (.len 1 (.s 8)),I 10 (.mv (V 0))])
def ZTy:PC :=
 (.reg [2,3,8,9,10,11] [I 11 (.bin .lss (.s 10) (.s 9))])
def ZTz:PC :=
 (.reg [2,3,5,8,9,10] [I 12 (.ixS 3 (.s 8) (.s 10)),I 13 (.ld true 3 (.s 12)),I 5 (.box (.v ZM)),J (.st 3 (.s 5) (.s 13))])
def ZT0:PC :=
 (.reg [2,3,8,9,10,20,21] [I 14 (.fadr 0 (.s 5)),I 15 (.ld false 1 (.s 14)),I 16 (.fadr 1 (.s 5)),I 17 (.ld false 1 (.s 16)),I 18 (.fadr 2 (.s 5)),I 19 (.ld false 1 (.s 18)),I 20 (.build [(.int .i64 0),(.int .i64 0),(.int .i64 0)] [(0,1,(.s 15)),(1,1,(.s 17)),(2,1,(.s 19))]),I 21 (.mv (V 0))])
def ZT1:PC :=
 (.reg [2,3,8,9,10,20,21,22] [I 22 (.bin .lss (.s 21) (V 3))])
def ZT2:PC :=
 (.reg [2,3,6,7,8,9,10,20,21] [I 23 (.mv (.s 21)),I 24 (.ixArr false 3 1 (.s 20) (.s 21)),I 6 (.mv (.s 23)),I 7 (.mv (.s 24))])
def ZT3:PC :=
 (.reg [2,3,8,9,10,20,21] [I 25 (.mv (.s 6)),I 26 (.ixA 3 1 (.s 3) (.s 25)),I 27 (.ld false 1 (.s 26)),I 28 (.mv (.s 7)),I 29 (.bin .add (.s 27) (.s 28)),I 30 (.ixA 3 1 (.s 3) (.s 25)),J (.st 1 (.s 30) (.s 29))])
def ZT4:PC :=
 (.reg [2,3,8,9,10,20,21] [I 31 (.bin .add (.s 21) (V 1)),I 21 (.mv (.s 31))])
def ZQG:PC :=
 (.seq ZT1
 (.seq (.ite (.s 22)
 .skip
 (.exit 2))
 (.seq (.block 3
 (.seq ZT2
 ZT3))
 ZT4)))
def ZQH:PC :=
 (.reg [2,3,8,9,10] [I 32 (.bin .add (.s 10) (V 1)),I 10 (.mv (.s 32))])
def ZQI:PC :=
 (.seq ZTy
 (.seq (.ite (.s 11)
 .skip
 (.exit 0))
 (.seq (.block 1
 (.seq ZTz
 (.seq ZT0
 (.block 2
 (.loop ZQG)))))
 ZQH)))
def ZQJ:PC :=
 (.reg [2] [I 33 (.ld true 3 (.s 3)),I 34 (C Yc [(.s 33)]),J (.st 3 (.s 2) (.s 34))])
def ZJ8:PF:=⟨false,
 (.seq ZTv
 (.seq ZTw
 (.seq (.seq ZTx
 (.block 0
 (.loop ZQI)))
 (.seq ZQJ
 .ret)))),
 [.c 2 true 3]⟩
theorem Za3:Zv Proofs.Tryz.prog false Za2 Proofs.Tryz.f167=some ZJ8:=by kernel_rfl
def Za4:List Hint:=[H [0,4,5],⟨[0,4,5,8,9],[],[(1,.pure)],[],[],[]⟩,H [0,4,5,32],H [6,7],H [0,5,10,11],H [0,5,10,11,43],H [6,7],H [10,11,12],H [10,11,12,52],H [6,7],H [11,13],H [11,13,61],H [6,7],⟨[13,14],[0],[],[],[],[]⟩,H [14,63,64,65],H [14,63,64,65,66],H [14,16,63,64,65],H [14,63,64,65],H [14,63,64,65],H [6,7]]
def ZT5:PC :=
 (.reg [0,4,5] [I 4 (.box (.s 1)),I 5 (.box (.s 2)),I 6 (.mv (.v .nils)),I 7 (.mv (V 0))])
def ZT6:PC :=
 (.reg [0,4,5,8,9] [I 17 (.ld true 7 (.s 4)),I 18 (.call .pure (.v (.func (.func Qa) [] [])) [(.s 17)]),I 19 (.ld true 7 (.s 5)),I 20 (C Qa [(.s 19)]),I 8 (.mv (.s 18)),I 9 (.mv (.s 20))])
def ZT7:PC :=
 (.reg [0,4,5,32] [I 21 (.mv (.s 8)),I 22 (.mv (.s 9)),I 23 (.bin .add (.s 21) (.s 22)),I 24 (.bin .gtr (.s 23) (V 16)),I 25 (.mv (.s 24)),G 26 25 true (.mv (.s 8)),G 27 25 true (.bin .geq (.s 26) (V 8)),I 28 (.pick (.s 25) (.s 27) (.v (.bool false))),I 29 (.mv (.s 28)),G 30 29 true (.mv (.s 9)),G 31 29 true (.bin .geq (.s 30) (V 8)),I 32 (.pick (.s 29) (.s 31) (.v (.bool false)))])
def ZT8:PC :=
 (.reg [6,7] [I 33 (.ld true 7 (.s 4)),I 34 (.ld true 7 (.s 5)),I 35 (.bslice false 7 [ZT,ZT] [(0,(.s 33)),(1,(.s 34))]),I 6 (.mv (.s 35)),I 7 (.mv (V 0))])
def ZT9:PC :=
 (.reg [0,5,10,11] [I 37 (.mv (.s 0)),I 38 (.ld true 7 (.s 4)),I 39 (C X6 [(.s 37),(.s 38)]),I 36 (.mv (.s 39)),I 40 (.ext (.s 36) 0),I 41 (.ext (.s 36) 1),I 10 (.mv (.s 40)),I 11 (.mv (.s 41))])
def ZUA:PC :=
 (.reg [0,5,10,11,43] [I 42 (.mv (.s 11)),I 43 (.bin .neq (.s 42) (V 0))])
def ZUB:PC :=
 (.reg [6,7] [I 44 (.mv (.s 11)),I 6 (.mv (.v .nils)),I 7 (.mv (.s 44))])
def ZUC:PC :=
 (.reg [10,11,12] [I 46 (.mv (.s 0)),I 47 (.ld true 7 (.s 5)),I 48 (C X6 [(.s 46),(.s 47)]),I 45 (.mv (.s 48)),I 49 (.ext (.s 45) 0),I 50 (.ext (.s 45) 1),I 12 (.mv (.s 49)),I 11 (.mv (.s 50))])
def ZUD:PC :=
 (.reg [10,11,12,52] [I 51 (.mv (.s 11)),I 52 (.bin .neq (.s 51) (V 0))])
def ZUE:PC :=
 (.reg [6,7] [I 53 (.mv (.s 11)),I 6 (.mv (.v .nils)),I 7 (.mv (.s 53))])
def ZQK:PC :=
 (.reg [11,13] [I 55 (.mv (.s 10)),I 56 (.mv (.s 12)),I 57 (C ZE7 [(.s 55),(.s 56)]),I 54 (.mv (.s 57)),I 58 (.ext (.s 54) 0),I 59 (.ext (.s 54) 1),I 13 (.mv (.s 58)),I 11 (.mv (.s 59))])
def ZQL:PC :=
 (.reg [11,13,61] [I 60 (.mv (.s 11)),I 61 (.bin .neq (.s 60) (V 0))])
def ZQM:PC :=
 (.reg [6,7] [I 62 (.mv (.s 11)),I 6 (.mv (.v .nils)),I 7 (.mv (.s 62))])
def ZQN:PC :=
 (.reg [13,14] [I 14 (.onil 7)])
def ZQO:PC :=
 (.reg [14,63,64,65] [I 63 (.mv (.s 13)),I 64 (.len 1 (.s 63)),I 65 (.mv (V 0))])
def ZQP:PC :=
 (.reg [14,63,64,65,66] [I 66 (.bin .lss (.s 65) (.s 64))])
def ZQQ:PC :=
 (.reg [14,16,63,64,65] [I 67 (.ixS 1 (.s 63) (.s 65)),I 68 (.ld false 1 (.s 67)),I 16 (.mv (.s 68))])
def ZQR:PC :=
 (.reg [14,63,64,65] [I 69 (.mv (.s 14)),I 70 (.mv (.s 16)),I 71 (.build [(.int .u64 0),(.int .i64 0),(.int .i64 0),(.int .i64 0),(.int .i64 0),(.str []),.nils] [(5,1,(.s 70))]),I 72 (.bslice false 7 [ZT] [(0,(.s 71))]),I 73 (.app 7 80 (.s 69) (.s 72)),I 14 (.mv (.s 73))])
def ZQS:PC :=
 (.reg [14,63,64,65] [I 74 (.bin .add (.s 65) (V 1)),I 65 (.mv (.s 74))])
def ZEa:PC :=
 (.seq ZQP
 (.seq (.ite (.s 66)
 .skip
 (.exit 0))
 (.seq (.block 1
 (.seq ZQQ
 ZQR))
 ZQS)))
def ZQT:PC :=
 (.reg [6,7] [I 75 (.mv (.s 14)),I 6 (.mv (.s 75)),I 7 (.mv (V 0))])
def ZJ9:PF:=⟨false,
 (.seq ZT5
 (.seq ZT6
 (.seq (.seq ZT7
 (.ite (.s 32)
 (.seq ZT8
 .ret)
 .skip))
 (.seq ZT9
 (.seq (.seq ZUA
 (.ite (.s 43)
 (.seq ZUB
 .ret)
 .skip))
 (.seq ZUC
 (.seq (.seq ZUD
 (.ite (.s 52)
 (.seq ZUE
 .ret)
 .skip))
 (.seq ZQK
 (.seq (.seq ZQL
 (.ite (.s 61)
 (.seq ZQM
 .ret)
 .skip))
 (.seq ZQN
 (.seq (.seq ZQO
 (.block 0
 (.loop ZEa)))
 (.seq ZQT
 .ret)))))))))))),
 [.s 6,.s 7]⟩
theorem Za5:Zv Proofs.Tryz.prog false Za4 Proofs.Tryz.f170=some ZJ9:=by kernel_rfl
def Zfo:List Hint:=[H [0],H [0,6],H [2],H [0,3],⟨[2],[],[(3,.pure)],[],[],[]⟩]
def Za6:PC :=
 (.reg [0] [I 2 (.mv (.v .nils))])
def Za7:PC :=
 (.reg [0,6] [I 4 (.mv (.s 0)),I 5 (.len 1 (.s 4)),I 6 (.bin .leq (.s 5) (V 4))])
def Za8:PC :=
 (.reg [2] [I 7 (.mv (.s 0)),I 8 (C QP [(.s 7)]),I 9 (.bslice false 7 [ZT] [(0,(.s 8))]),I 2 (.mv (.s 9))])
def Za9:PC :=
 (.reg [0,3] [I 10 (.mv (.s 0)),I 11 (.len 1 (.s 10)),I 12 (.bin .add (.s 11) (V 1)),I 13 (.bin .quo (.s 12) (V 2)),I 3 (.mv (.s 13))])
def ZbA:PC :=
 (.reg [2] [I 14 (.mv (.s 0)),I 15 (.mv (.s 3)),I 16 (.slc 7 (.s 14) none (some (.s 15))),I 17 (.call .pure (.v (.func (.func QP) [] [])) [(.s 16)]),I 18 (.mv (.s 0)),I 19 (.mv (.s 3)),I 20 (.slc 7 (.s 18) (some (.s 19)) none),I 21 (C QP [(.s 20)]),I 22 (.bslice false 7 [ZT,ZT] [(0,(.s 17)),(1,(.s 21))]),I 2 (.mv (.s 22))])
def ZRA:PF:=⟨false,
 (.seq Za6
 (.seq (.seq Za7
 (.ite (.s 6)
 (.seq Za8
 .ret)
 .skip))
 (.seq Za9
 (.seq ZbA
 .ret)))),
 [.s 2]⟩
theorem Zfp:Zv Proofs.Tryz.prog false Zfo Proofs.Tryz.f171=some ZRA:=by kernel_rfl
def Zdy:List Hint:=[H [0],H [2]]
def ZXu:PC :=
 (.reg [0] [I 2 (.mv (.v (.bool false)))])
def ZXv:PC :=
 (.reg [2] [I 3 (.mv (.s 0)),I 4 (.len 0 (.s 3)),I 5 (.bin .geq (.s 4) (V 1)),I 6 (.mv (.s 5)),G 7 6 true (.mv (.s 0)),G 8 6 true (.len 0 (.s 7)),G 9 6 true (.bin .leq (.s 8) (V 16)),I 10 (.pick (.s 6) (.s 9) (.v (.bool false))),I 2 (.mv (.s 10))])
def ZNf:PF:=⟨false,
 (.seq ZXu
 (.seq ZXv
 .ret)),
 [.s 2]⟩
theorem Zdz:Zv Proofs.Tryz.prog false Zdy Proofs.Tryz.f172=some ZNf:=by kernel_rfl
def ZXw:List Hint:=[H [0],H [2,3]]
def ZQU:PC :=
 (.reg [0] [I 2 (.mv (V 0)),I 3 (.mv (.v (.int .u64 0)))])
def ZQV:PC :=
 (.reg [2,3] [I 4 (.mv (.s 0)),I 5 (.bin .and (.s 4) (.v (.int .u64 65535))),I 6 (.cint .i64 (.s 5)),I 7 (.mv (.s 0)),I 8 (.bin .shr (.s 7) (.v (.int .u64 16))),I 2 (.mv (.s 6)),I 3 (.mv (.s 8))])
def ZIc:PF:=⟨false,
 (.seq ZQU
 (.seq ZQV
 .ret)),
 [.s 2,.s 3]⟩
theorem ZXx:Zv Proofs.Tryz.prog false ZXw Proofs.Tryz.f173=some ZIc:=by kernel_rfl
def ZId:List Hint:=[H [0],H [0,7],H [2],H [0,3],H [3],H [3,4,5],H [3,4,5,25],H [3,4,5],H [3,4,5],H [2]]
def ZFn:PC :=
 (.reg [0] [I 2 (.mv (.v .nils))])
def ZFo:PC :=
 (.reg [0,7] [I 6 (.mv (.s 0)),I 7 (.eqs false 3 [] (.s 6) (.v .nilptr))])
def ZFp:PC :=
 (.reg [2] [I 2 (.mv (.v .nils))])
def ZFq:PC :=
 (.reg [0,3] [I 8 (.mv (.s 0)),I 9 (.nilck (.s 8)),I 10 (.fadr 0 (.s 9)),I 11 (.ld false 1 (.s 10)),I 12 (.len 1 (.s 11)),I 13 (.mkslice 1 8 (.int .i64 0) (.s 12) (.s 12)),I 3 (.mv (.s 13))])
def ZFr:PC :=
 (.reg [3] [I 14 (.mv (.s 3)),I 15 (.mv (.s 0)),I 16 (.nilck (.s 15)),I 17 (.fadr 0 (.s 16)),I 18 (.ld false 1 (.s 17)),I 19 (.cpy 1 (.s 14) (.s 18))])
def ZFs:PC :=
 (.reg [3,4,5] [I 20 (.mv (.s 3)),I 21 (.len 1 (.s 20)),I 22 (.bin .sub (.s 21) (V 1)),I 4 (.mv (V 0)),I 5 (.mv (.s 22))])
def ZFt:PC :=
 (.reg [3,4,5,25] [I 23 (.mv (.s 4)),I 24 (.mv (.s 5)),I 25 (.bin .lss (.s 23) (.s 24))])
def ZFu:PC :=
 (.reg [3,4,5] [I 30 (.mv (.s 3)),I 31 (.mv (.s 4)),I 32 (.mv (.s 3)),I 33 (.mv (.s 5)),I 34 (.mv (.s 3)),I 35 (.mv (.s 5)),I 36 (.ixS 1 (.s 34) (.s 35)),I 37 (.ld false 1 (.s 36)),I 38 (.mv (.s 3)),I 39 (.mv (.s 4)),I 40 (.ixS 1 (.s 38) (.s 39)),I 41 (.ld false 1 (.s 40)),I 42 (.ixS 1 (.s 30) (.s 31)),J (.st 1 (.s 42) (.s 37)),I 43 (.ixS 1 (.s 32) (.s 33)),J (.st 1 (.s 43) (.s 41))])
def ZFv:PC :=
 (.reg [3,4,5] [I 26 (.mv (.s 4)),I 27 (.bin .add (.s 26) (V 1)),I 28 (.mv (.s 5)),I 29 (.bin .sub (.s 28) (V 1)),I 4 (.mv (.s 27)),I 5 (.mv (.s 29))])
def ZFw:PC :=
 (.seq (.seq ZFt
 (.ite (.s 25)
 .skip
 (.exit 0)))
 (.seq (.block 1
 ZFu)
 ZFv))
def ZEb:PC :=
 (.reg [2] [I 44 (.mv (.s 3)),I 2 (.mv (.s 44))])
def ZBA:PF:=⟨false,
 (.seq ZFn
 (.seq (.seq ZFo
 (.ite (.s 7)
 (.seq ZFp
 .ret)
 .skip))
 (.seq ZFq
 (.seq ZFr
 (.seq (.seq ZFs
 (.block 0
 (.loop ZFw)))
 (.seq ZEb
 .ret)))))),
 [.s 2]⟩
theorem ZIe:Zv Proofs.Tryz.prog false ZId Proofs.Tryz.f174=some ZBA:=by kernel_rfl
def ZC4:List Hint:=[H [0],H [2]]
def ZBm:PC :=
 (.reg [0] [I 2 (.mv (.v .nils))])
def ZBn:PC :=
 (.reg [2] [I 3 (.mv (.s 0)),I 4 (C Jz [(.s 3),(.v (.int .u8 2))]),I 2 (.mv (.s 4))])
def XR:PF:=⟨false,
 (.seq ZBm
 (.seq ZBn
 .ret)),
 [.s 2]⟩
theorem ZC5:Zv Proofs.Tryz.prog false ZC4 Proofs.Tryz.f175=some XR:=by kernel_rfl
def ZXy:List Hint:=[H [3,4,5],⟨[],[6],[],[],[(0,(.only (.s 3))),(7,(.grow (.s 3)))],[]⟩]
def ZQW:PC :=
 (.reg [3,4,5] [I 3 (.box (.s 0)),I 4 (.box (.s 1)),I 5 (.box (.s 2))])
def ZQX:PC :=
 (.reg [] [I 6 (.w (.only (.s 3)) (.ld false 1 (.s 3))),I 7 (.ld false 1 (.s 3)),I 8 (.nilck (.s 7)),I 9 (.fadr 1 (.s 8)),I 10 (.ld false 1 (.s 9)),I 11 (.mkf (.func XL) [] [(.s 3),(.s 5),(.s 4)]),I 12 (.bslice true 1 [.nilfunc] [(0,(.s 11))]),I 13 (.w (.grow (.s 3)) (.app 1 8 (.s 10) (.s 12))),I 14 (.nilck (.s 6)),I 15 (.fadr 1 (.s 14)),J (.st 1 (.s 15) (.s 13))])
def ZIf:PF:=⟨true,
 (.seq ZQW
 ZQX),
 []⟩
theorem ZXz:Zv Proofs.Tryz.prog true ZXy Proofs.Tryz.f176=some ZIf:=by kernel_rfl
def ZQY:List Hint:=[H [0,1],H [1]]
def ZK4:PC :=
 (.reg [0,1] [I 1 (.box (.v ZN))])
def ZK5:PC :=
 (.reg [1] [I 2 (.ld true 3 (.s 0)),J (.st 3 (.s 1) (.s 2))])
def ZEc:PF:=⟨false,
 (.seq ZK4
 (.seq ZK5
 .ret)),
 [.c 1 true 3]⟩
theorem ZQZ:Zv Proofs.Tryz.prog false ZQY Proofs.Tryz.f177=some ZEc:=by kernel_rfl
def ZQa:List Hint:=[H [0,1,2],H [1,2,3],H [2,3,9,10,11],H [2,3,9,10,11,12],H [2,3,5,9,10,11],⟨[2,3,9,10,11],[],[],[],[(11,.imm)],[]⟩,H [2,3,9,10,11],H [2]]
def ZK6:PC :=
 (.reg [0,1,2] [I 2 (.box (.v ZN))])
def ZK7:PC :=
 (.reg [1,2,3] [I 6 (.fadr 1 (.s 0)),I 7 (.ld false 1 (.s 6)),I 8 (.build [(.int .i64 0),(.str []),.nils] [(0,1,(.s 7))]),I 3 (.box (.v ZN)),J (.st 3 (.s 3) (.s 8))])
def ZK8:PC :=
 (.reg [2,3,9,10,11] [I 9 (.ld false 1 (.s 1)),I 10 (.len 1 (.s 9)),I 11 (.mv (V 0))])
def ZK9:PC :=
 (.reg [2,3,9,10,11,12] [I 12 (.bin .lss (.s 11) (.s 10))])
def ZLA:PC :=
 (.reg [2,3,5,9,10,11] [I 13 (.ixS 1 (.s 9) (.s 11)),I 14 (.ld false 1 (.s 13)),I 5 (.mv (.s 14))])
def ZLB:PC :=
 (.reg [2,3,9,10,11] [I 15 (.fadr 2 (.s 3)),I 16 (.ld false 1 (.s 15)),I 17 (.mv (.s 5)),I 18 (.nilck (.s 17)),I 19 (.fadr 0 (.s 18)),I 20 (.ld false 1 (.s 19)),I 21 (.mv (.s 5)),I 22 (.nilck (.s 21)),I 23 (.fadr 2 (.s 22)),I 24 (.ld true 3 (.s 23)),I 25 (.build [(.int .u64 0),(.int .i64 0),(.int .i64 0),(.int .i64 0)] [(0,1,(.s 20)),(1,3,(.s 24))]),I 26 (.w .imm (.bslice false 4 [ZK] [(0,(.s 25))])),I 27 (.app 4 32 (.s 16) (.s 26)),I 28 (.fadr 2 (.s 3)),J (.st 1 (.s 28) (.s 27))])
def ZLC:PC :=
 (.reg [2,3,9,10,11] [I 29 (.bin .add (.s 11) (V 1)),I 11 (.mv (.s 29))])
def ZLD:PC :=
 (.seq ZK9
 (.seq (.ite (.s 12)
 .skip
 (.exit 0))
 (.seq (.block 1
 (.seq ZLA
 ZLB))
 ZLC)))
def ZLE:PC :=
 (.reg [2] [I 30 (.ld true 3 (.s 3)),J (.st 3 (.s 2) (.s 30))])
def ZEd:PF:=⟨false,
 (.seq ZK6
 (.seq ZK7
 (.seq (.seq ZK8
 (.block 0
 (.loop ZLD)))
 (.seq ZLE
 .ret)))),
 [.c 2 true 3]⟩
theorem ZQb:Zv Proofs.Tryz.prog false ZQa Proofs.Tryz.f178=some ZEd:=by kernel_rfl
def ZUF:List Hint:=[H [],H [2]]
def ZNg:PC :=
 (.reg [] [I 2 (.mv (.v (.bool false)))])
def ZNh:PC :=
 (.reg [2] [I 2 (.mv (.v (.bool true)))])
def ZGN:PF:=⟨false,
 (.seq ZNg
 (.seq ZNh
 .ret)),
 [.s 2]⟩
theorem ZUG:Zv Proofs.Tryz.prog false ZUF Proofs.Tryz.f179=some ZGN:=by kernel_rfl
def ZLF:List Hint:=[H [1,2],H [1,2,5],H [2],H [2]]
def ZIg:PC :=
 (.reg [1,2] [I 1 (.box (.s 0)),I 2 (.box (.v ZM))])
def ZIh:PC :=
 (.reg [1,2,5] [I 3 (.ld true 3 (.s 1)),I 4 (.build [(.int .i64 0),(.int .i64 0),(.int .i64 0)] []),I 5 (.eqs false 0 [(0,0),(1,0),(2,0)] (.s 3) (.s 4))])
def ZIi:PC :=
 (.reg [2] [I 6 (.build [(.int .i64 0),(.int .i64 0),(.int .i64 0)] []),J (.st 3 (.s 2) (.s 6))])
def ZIj:PC :=
 (.reg [2] [I 7 (.ixA 3 1 (.s 1) (V 0)),I 8 (.ld false 1 (.s 7)),I 9 (.ixA 3 1 (.s 1) (V 1)),I 10 (.ld false 1 (.s 9)),I 11 (.ixA 3 1 (.s 1) (V 2)),I 12 (.ld false 1 (.s 11)),I 13 (.build [(.int .i64 0),(.int .i64 0),(.int .i64 0)] [(0,1,(.s 8)),(1,1,(.s 10)),(2,1,(.s 12))]),J (.st 3 (.s 2) (.s 13))])
def ZCi:PF:=⟨false,
 (.seq ZIg
 (.seq (.seq ZIh
 (.ite (.s 5)
 (.seq ZIi
 .ret)
 .skip))
 (.seq ZIj
 .ret))),
 [.c 2 true 3]⟩
theorem ZLG:Zv Proofs.Tryz.prog false ZLF Proofs.Tryz.f180=some ZCi:=by kernel_rfl
def Zd0:List Hint:=[H [0,1],H [0,1,15],H [4,5],H [0,1,6],H [0,1,6,21],H [4,5],H [0,1,6,31],H [4,5],H [6,7],H [4,5]]
def ZX0:PC :=
 (.reg [0,1] [I 4 (.mv (.v .nils)),I 5 (.mv (V 0))])
def ZX1:PC :=
 (.reg [0,1,15] [I 8 (.mv (.s 0)),I 9 (C ZAI [(.s 8)]),I 10 (.un .not (.s 9)),I 11 (.mv (.s 10)),G 12 11 false (.mv (.s 1)),G 13 11 false (C ZAI [(.s 12)]),G 14 11 false (.un .not (.s 13)),I 15 (.pick (.s 11) (.v (.bool true)) (.s 14))])
def ZX2:PC :=
 (.reg [4,5] [I 4 (.mv (.v .nils)),I 5 (.mv (V 2))])
def ZX3:PC :=
 (.reg [0,1,6] [I 16 (.mv (.s 0)),I 17 (.mv (.s 1)),I 18 (.bin .add (.s 16) (.s 17)),I 6 (.mv (.s 18))])
def ZX4:PC :=
 (.reg [0,1,6,21] [I 19 (.mv (.s 6)),I 20 (.len 0 (.s 19)),I 21 (.bin .leq (.s 20) (V 16))])
def ZX5:PC :=
 (.reg [4,5] [I 22 (.mv (.s 6)),I 23 (.bslice false 1 [(.str [])] [(0,(.s 22))]),I 4 (.mv (.s 23)),I 5 (.mv (V 0))])
def ZX6:PC :=
 (.reg [0,1,6,31] [I 24 (.mv (.s 0)),I 25 (.len 0 (.s 24)),I 26 (.bin .geq (.s 25) (V 8)),I 27 (.mv (.s 26)),G 28 27 true (.mv (.s 1)),G 29 27 true (.len 0 (.s 28)),G 30 27 true (.bin .geq (.s 29) (V 8)),I 31 (.pick (.s 27) (.s 30) (.v (.bool false)))])
def ZX7:PC :=
 (.reg [4,5] [I 32 (.mv (.s 0)),I 33 (.mv (.s 1)),I 34 (.bslice false 1 [(.str []),(.str [])] [(0,(.s 32)),(1,(.s 33))]),I 4 (.mv (.s 34)),I 5 (.mv (V 0))])
def ZX8:PC :=
 (.reg [6,7] [I 35 (.mv (.s 6)),I 36 (.len 0 (.s 35)),I 37 (.bin .add (.s 36) (V 1)),I 38 (.bin .quo (.s 37) (V 2)),I 7 (.mv (.s 38))])
def ZX9:PC :=
 (.reg [4,5] [I 39 (.mv (.s 6)),I 40 (.mv (.s 7)),I 41 (.slcS (.s 39) none (some (.s 40))),I 42 (.mv (.s 6)),I 43 (.mv (.s 7)),I 44 (.slcS (.s 42) (some (.s 43)) none),I 45 (.bslice false 1 [(.str []),(.str [])] [(0,(.s 41)),(1,(.s 44))]),I 4 (.mv (.s 45)),I 5 (.mv (V 0))])
def ZNi:PF:=⟨false,
 (.seq ZX0
 (.seq (.seq ZX1
 (.ite (.s 15)
 (.seq ZX2
 .ret)
 .skip))
 (.seq ZX3
 (.seq (.seq ZX4
 (.ite (.s 21)
 (.seq ZX5
 .ret)
 .skip))
 (.seq (.seq ZX6
 (.ite (.s 31)
 (.seq ZX7
 .ret)
 .skip))
 (.seq ZX8
 (.seq ZX9
 .ret))))))),
 [.s 4,.s 5]⟩
theorem Zd1:Zv Proofs.Tryz.prog false Zd0 Proofs.Tryz.f183=some ZNi:=by kernel_rfl
def ZQc:List Hint:=[H [0,1,2],⟨[2,5,6],[],[(5,.pure)],[],[],[]⟩,H [2,5,6,18],H [5,6],H [3,4]]
def ZLH:PC :=
 (.reg [0,1,2] [I 3 (.mv (.v (.int .u64 0))),I 4 (.mv (V 0))])
def ZLI:PC :=
 (.reg [2,5,6] [I 8 (.ld false 1 (.s 0)),I 9 (.nilck (.s 8)),I 10 (.fadr 0 (.s 9)),I 11 (.ld false 1 (.s 10)),I 12 (.ld false 1 (.s 1)),I 13 (.call .pure (.s 12) []),I 14 (C Jk [(.s 11),(.s 13)]),I 7 (.mv (.s 14)),I 15 (.ext (.s 7) 0),I 16 (.ext (.s 7) 1),I 5 (.mv (.s 15)),I 6 (.mv (.s 16))])
def ZLJ:PC :=
 (.reg [2,5,6,18] [I 17 (.mv (.s 6)),I 18 (.bin .eql (.s 17) (V 0))])
def ZLK:PC :=
 (.reg [5,6] [I 19 (.ld false 1 (.s 2)),I 20 (.mv (.s 5)),I 21 (.nilck (.s 19)),I 22 (.fadr 0 (.s 21)),J (.st 1 (.s 22) (.s 20))])
def ZLL:PC :=
 (.reg [3,4] [I 23 (.mv (.s 5)),I 24 (.mv (.s 6)),I 3 (.mv (.s 23)),I 4 (.mv (.s 24))])
def ZEe:PF:=⟨false,
 (.seq ZLH
 (.seq ZLI
 (.seq (.seq ZLJ
 (.ite (.s 18)
 ZLK
 .skip))
 (.seq ZLL
 .ret)))),
 [.s 3,.s 4]⟩
theorem ZQd:Zv Proofs.Tryz.prog false ZQc Proofs.Tryz.f184=some ZEe:=by kernel_rfl
end Go.Q15
