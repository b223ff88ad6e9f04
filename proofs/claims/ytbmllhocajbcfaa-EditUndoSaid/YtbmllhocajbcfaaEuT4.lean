/- Resolved code, printed by program. No condition. -/
import Derived.Test.YtbmllhocajbcfaaProg
import Derived.KernelRfl
import Derived.Test.YtbmllhocajbcfaaEuT3
set_option linter.unusedVariables false
set_option linter.unusedSimpArgs false
namespace Go.Q15
open Go Go.QAbs
set_option maxRecDepth 100000
abbrev Zlq:FuncId:=1
abbrev ZhA:FuncId:=2
abbrev ZZa:FuncId:=3
abbrev ZZb:FuncId:=4
abbrev ZZc:FuncId:=5
abbrev Zad:FuncId:=6
abbrev ZZd:FuncId:=7
abbrev ZZe:FuncId:=8
abbrev ZZf:FuncId:=9
abbrev JU:FuncId:=10
abbrev Zen:FuncId:=11
abbrev Zeo:FuncId:=12
abbrev ZeB:FuncId:=13
abbrev Zep:FuncId:=14
abbrev ZeC:FuncId:=15
abbrev Zlr:FuncId:=16
abbrev ZA6:FuncId:=17
abbrev XS:FuncId:=18
abbrev ZCr:FuncId:=19
abbrev ZS5:FuncId:=20
abbrev ZcD:FuncId:=21
abbrev Xe:FuncId:=22
abbrev ZKB:FuncId:=23
abbrev Zeq:FuncId:=24
abbrev Zer:FuncId:=25
abbrev XL:FuncId:=26
abbrev J0:FuncId:=27
abbrev ZAL:FuncId:=28
abbrev XM:FuncId:=29
abbrev Zls:FuncId:=30
abbrev Zae:FuncId:=31
abbrev Xf:FuncId:=32
abbrev Zes:FuncId:=33
abbrev ZAt:FuncId:=34
abbrev XC:FuncId:=35
abbrev QY:FuncId:=36
abbrev ZcE:FuncId:=37
abbrev Zc2:FuncId:=38
abbrev ZeD:FuncId:=39
abbrev Zet:FuncId:=40
abbrev Je:FuncId:=41
abbrev Zlt:FuncId:=42
abbrev Zlu:FuncId:=43
abbrev Zeu:FuncId:=44
abbrev JM:FuncId:=45
abbrev Xg:FuncId:=46
abbrev Jx:FuncId:=47
abbrev Zj0:FuncId:=48
abbrev ZAe:FuncId:=49
abbrev ZBa:FuncId:=50
abbrev Jf:FuncId:=51
abbrev Zk0:FuncId:=52
abbrev ZA7:FuncId:=53
abbrev ZZg:FuncId:=54
abbrev J1:FuncId:=55
abbrev XT:FuncId:=56
abbrev Q6:FuncId:=57
abbrev ZeE:FuncId:=58
abbrev Yh:FuncId:=59
abbrev ZBb:FuncId:=60
abbrev YK:FuncId:=61
abbrev ZWu:FuncId:=62
abbrev ZAf:FuncId:=63
abbrev YS:FuncId:=64
abbrev Ql:FuncId:=65
abbrev Xh:FuncId:=66
abbrev ZO3:FuncId:=68
abbrev Zf1:FuncId:=70
abbrev Yi:FuncId:=71
abbrev Jo:FuncId:=72
abbrev Q3:FuncId:=73
abbrev XN:FuncId:=74
abbrev Qc:FuncId:=75
abbrev Z6:FuncId:=76
abbrev ZcF:FuncId:=77
abbrev ZeF:FuncId:=78
abbrev Zlv:FuncId:=79
abbrev Zk1:FuncId:=80
abbrev Zlw:FuncId:=81
abbrev Zk2:FuncId:=82
abbrev Zj1:FuncId:=83
abbrev J2:FuncId:=84
abbrev ZAR:FuncId:=85
abbrev ZCs:FuncId:=86
abbrev Ys:FuncId:=87
abbrev ZGU:FuncId:=88
abbrev Zhk:FuncId:=89
abbrev Zj2:FuncId:=90
abbrev ZBc:FuncId:=91
abbrev J6:FuncId:=92
abbrev ZBd:FuncId:=93
abbrev ZEM:FuncId:=94
abbrev QH:FuncId:=95
abbrev ZCa:FuncId:=96
abbrev Qg:FuncId:=97
abbrev ZBe:FuncId:=98
abbrev ZAM:FuncId:=99
abbrev YT:FuncId:=100
abbrev ZA8:FuncId:=101
abbrev JE:FuncId:=102
abbrev J7:FuncId:=103
abbrev ZSG:FuncId:=104
abbrev Jp:FuncId:=106
abbrev Jg:FuncId:=107
abbrev Jq:FuncId:=108
abbrev Yj:FuncId:=109
abbrev Xi:FuncId:=110
abbrev JZ:FuncId:=111
abbrev Q8:FuncId:=112
abbrev Zj3:FuncId:=113
abbrev Zlx:FuncId:=114
abbrev Zim:FuncId:=115
abbrev Zj4:FuncId:=116
abbrev Zin:FuncId:=117
abbrev ZBf:FuncId:=118
abbrev Zly:FuncId:=119
abbrev ZAS:FuncId:=120
abbrev ZAT:FuncId:=121
abbrev ZGV:FuncId:=122
abbrev Xj:FuncId:=123
abbrev ZAU:FuncId:=126
abbrev ZEN:FuncId:=127
abbrev ZA9:FuncId:=128
abbrev ZBg:FuncId:=129
abbrev Yt:FuncId:=130
abbrev JN:FuncId:=131
abbrev Zhl:FuncId:=132
abbrev Zj5:FuncId:=133
abbrev Zio:FuncId:=134
abbrev Yu:FuncId:=135
abbrev ZAu:FuncId:=136
abbrev ZGW:FuncId:=137
abbrev JD:FuncId:=138
abbrev J8:FuncId:=139
abbrev J9:FuncId:=140
abbrev Jl:FuncId:=141
abbrev Xk:FuncId:=142
abbrev ZCt:FuncId:=143
abbrev ZCb:FuncId:=144
abbrev YA:FuncId:=145
abbrev Yk:FuncId:=146
abbrev ZAV:FuncId:=147
abbrev ZEO:FuncId:=148
abbrev ZCu:FuncId:=149
abbrev Yl:FuncId:=150
abbrev YU:FuncId:=151
abbrev ZEP:FuncId:=152
abbrev ZCv:FuncId:=153
abbrev XD:FuncId:=154
abbrev XE:FuncId:=155
abbrev YL:FuncId:=156
abbrev I (d:Nat) (o:PO):PI:=⟨some d,none,false,o⟩
abbrev G (d g:Nat) (b:Bool) (o:PO):PI:=⟨some d,some (g,b),false,o⟩
abbrev J (o:PO):PI:=⟨none,none,false,o⟩
abbrev C (f:FuncId) (a:List Opd):PO:=.call .norm (.v (.func (.func f) [] [])) a
abbrev H (k:List Nat):Hint:=⟨k,[],[],[],[],[]⟩
abbrev V (i:Int):Opd:=.v (.int .i64 i)
abbrev ZT:AV:=.agg [(.int .u64 0),(.int .i64 0),(.int .i64 0),(.int .i64 0),(.int .i64 0),(.str []),.nils]
abbrev ZR:AV:=.agg [(.int .u64 0),(.int .i64 0),(.int .i64 0),(.int .i64 0),(.int .i64 0)]
abbrev ZM:AV:=.agg [(.int .i64 0),(.int .i64 0),(.int .i64 0)]
abbrev ZN:AV:=.agg [(.int .i64 0),(.str []),.nils]
abbrev ZK:AV:=.agg [(.int .u64 0),(.int .i64 0),(.int .i64 0),(.int .i64 0)]
def ZEQ:List Hint:=[H [0,2,4],H [0,2,4,30],H [6],H [0,2,4,7,8],H [0,2,4,7,41],H [6],H [0,2,4,7,8,9],H [0,2,4,7,9,49],H [6],H [0,2,4,7,9,10],H [0,2,4,7,9,10,11],H [0,2,4,7,9,10,11,12],H [0,2,4,7,9,10,11,12,66],H [0,2,4,7,9,10,11,12,13,14],H [0,2,4,7,9,10,11,12,13,14,15],H [0,2,4,7,9,10,11,12,13,14,15,16,17],H [0,2,4,7,9,10,11,12,13,14,15,16,93],H [6],H [0,2,4,7,9,10,11,12,13,14,15,16,18,19],H [0,2,4,7,9,10,11,12,13,14,15,16,18,19,20,21],H [0,2,4,7,9,10,11,12,16,130],H [6],H [0,2,4,7,9,10,11,12,140],H [6],H [0,2,4,7,9,10,11,12],H [6]]
def ZCw:PC :=
 (.reg [0,2,4] [I 4 (.box (.s 1)),I 6 (.mv (.v (.bool false)))])
def ZCx:PC :=
 (.reg [0,2,4,30] [I 22 (.mv (.s 0)),I 23 (.len 0 (.s 22)),I 24 (.bin .gtr (.s 23) (V 600)),I 25 (.mv (.s 24)),G 26 25 false (.fadr 2 (.s 4)),G 27 25 false (.ld false 1 (.s 26)),G 28 25 false (.len 0 (.s 27)),G 29 25 false (.bin .gtr (.s 28) (V 300)),I 30 (.pick (.s 25) (.v (.bool true)) (.s 29))])
def ZCy:PC :=
 (.reg [6] [I 31 (C JM []),I 6 (.mv (.s 31))])
def ZCz:PC :=
 (.reg [0,2,4,7,8] [I 33 (C ZAe [(V 300),(.v (.int .u64 10))]),I 32 (.mv (.s 33)),I 34 (.ext (.s 32) 0),I 35 (.ext (.s 32) 1),I 7 (.mv (.s 34)),I 8 (.mv (.s 35))])
def ZC0:PC :=
 (.reg [0,2,4,7,41] [I 36 (.mv (.s 7)),I 37 (.eqs false 3 [] (.s 36) (.v .nilptr)),I 38 (.mv (.s 37)),G 39 38 false (.mv (.s 8)),G 40 38 false (.bin .neq (.s 39) (V 0)),I 41 (.pick (.s 38) (.v (.bool true)) (.s 40))])
def ZC1:PC :=
 (.reg [6] [I 6 (.mv (.v (.bool false)))])
def ZC2:PC :=
 (.reg [0,2,4,7,8,9] [I 43 (.mv (.s 7)),I 44 (.mv (.s 0)),I 45 (C ZBa [(.s 43),(.s 44)]),I 42 (.mv (.s 45)),I 46 (.ext (.s 42) 0),I 47 (.ext (.s 42) 1),I 9 (.box (.v ZR)),J (.st 5 (.s 9) (.s 46)),I 8 (.mv (.s 47))])
def ZC3:PC :=
 (.reg [0,2,4,7,9,49] [I 48 (.mv (.s 8)),I 49 (.bin .neq (.s 48) (V 0))])
def ZC4:PC :=
 (.reg [6] [I 6 (.mv (.v (.bool false)))])
def ZC5:PC :=
 (.reg [0,2,4,7,9,10] [I 50 (.fadr 0 (.s 4)),I 51 (.ld false 1 (.s 50)),I 52 (.mv (.s 0)),I 53 (.len 0 (.s 52)),I 54 (C Je [(.s 51),(.s 53)]),I 10 (.mv (.s 54))])
def ZB2:PC :=
 (.reg [0,2,4,7,9,10,11] [I 55 (.fadr 1 (.s 4)),I 56 (.ld false 1 (.s 55)),I 57 (.mv (.s 0)),I 58 (.len 0 (.s 57)),I 59 (.mv (.s 10)),I 60 (.bin .sub (.s 58) (.s 59)),I 61 (C Je [(.s 56),(.s 60)]),I 11 (.mv (.s 61))])
def ZB3:PC :=
 (.reg [0,2,4,7,9,10,11,12] [I 12 (.mv (V 0))])
def ZB4:PC :=
 (.reg [0,2,4,7,9,10,11,12,66] [I 62 (.mv (.s 12)),I 63 (.mv (.s 2)),I 64 (C Je [(.s 63),(V 3)]),I 65 (.bin .add (V 1) (.s 64)),I 66 (.bin .lss (.s 62) (.s 65))])
def ZB5:PC :=
 (.reg [0,2,4,7,9,10,11,12,13,14] [I 70 (.mv (.s 7)),I 71 (C J1 [(.s 70)]),I 69 (.mv (.s 71)),I 72 (.ext (.s 69) 0),I 73 (.ext (.s 69) 1),I 13 (.mv (.s 72)),I 14 (.mv (.s 73))])
def ZB6:PC :=
 (.reg [0,2,4,7,9,10,11,12,13,14,15] [I 74 (.mv (.s 7)),I 75 (C Jf [(.s 74)]),I 15 (.mv (.s 75))])
def ZB7:PC :=
 (.reg [0,2,4,7,9,10,11,12,13,14,15,16,17] [I 77 (.mv (.s 7)),I 78 (.ld true 5 (.s 9)),I 79 (.mv (.s 10)),I 80 (.mv (.s 11)),I 81 (.fadr 2 (.s 4)),I 82 (.ld false 1 (.s 81)),I 83 (C Xg [(.s 77),(.s 78),(.s 79),(.s 80),(.s 82)]),I 76 (.mv (.s 83)),I 84 (.ext (.s 76) 0),I 85 (.ext (.s 76) 1),I 16 (.box (.v (.agg [(.int .u64 0),(.int .i64 0),(.int .i64 0),(.int .i64 0),(.int .i64 0),.nils,.nils]))),J (.st 7 (.s 16) (.s 84)),I 17 (.mv (.s 85))])
def ZB8:PC :=
 (.reg [0,2,4,7,9,10,11,12,13,14,15,16,93] [I 86 (.mv (.s 17)),I 87 (.bin .neq (.s 86) (V 0)),I 88 (.mv (.s 87)),G 89 88 false (.mv (.s 7)),G 90 88 false (.ld true 7 (.s 16)),G 91 88 false (C XT [(.s 89),(.s 90)]),G 92 88 false (.bin .neq (.s 91) (V 0)),I 93 (.pick (.s 88) (.v (.bool true)) (.s 92))])
def ZB9:PC :=
 (.reg [6] [I 6 (.mv (.v (.bool false)))])
def ZCA:PC :=
 (.reg [0,2,4,7,9,10,11,12,13,14,15,16,18,19] [I 95 (.mv (.s 7)),I 96 (C J1 [(.s 95)]),I 94 (.mv (.s 96)),I 97 (.ext (.s 94) 0),I 98 (.ext (.s 94) 1),I 18 (.mv (.s 97)),I 19 (.mv (.s 98))])
def ZCB:PC :=
 (.reg [0,2,4,7,9,10,11,12,13,14,15,16,18,19,20,21] [I 100 (.mv (.s 7)),I 101 (.ld true 5 (.s 9)),I 102 (C XS [(.s 100),(.s 101)]),I 99 (.mv (.s 102)),I 103 (.ext (.s 99) 0),I 104 (.ext (.s 99) 1),I 20 (.mv (.s 103)),I 21 (.mv (.s 104))])
def ZCC:PC :=
 (.reg [0,2,4,7,9,10,11,12,16,130] [I 105 (.mv (.s 13)),I 106 (.mv (.s 18)),I 107 (C Q6 [(.s 105),(.s 106)]),I 108 (.un .not (.s 107)),I 109 (.mv (.s 108)),G 110 109 false (.mv (.s 14)),G 111 109 false (.mv (.s 19)),G 112 109 false (C Q6 [(.s 110),(.s 111)]),G 113 109 false (.un .not (.s 112)),I 114 (.pick (.s 109) (.v (.bool true)) (.s 113)),I 115 (.mv (.s 114)),G 116 115 false (.mv (.s 15)),G 117 115 false (.mv (.s 7)),G 118 115 false (C Jf [(.s 117)]),G 119 115 false (C Jx [(.s 116),(.s 118)]),G 120 115 false (.un .not (.s 119)),I 121 (.pick (.s 115) (.v (.bool true)) (.s 120)),I 122 (.mv (.s 121)),G 123 122 false (.mv (.s 21)),G 124 122 false (.bin .neq (.s 123) (V 0)),I 125 (.pick (.s 122) (.v (.bool true)) (.s 124)),I 126 (.mv (.s 125)),G 127 126 false (.mv (.s 20)),G 128 126 false (.mv (.s 0)),G 129 126 false (.bin .neq (.s 127) (.s 128)),I 130 (.pick (.s 126) (.v (.bool true)) (.s 129))])
def ZCD:PC :=
 (.reg [6] [I 6 (.mv (.v (.bool false)))])
def ZCE:PC :=
 (.reg [0,2,4,7,9,10,11,12,140] [I 131 (.fadr 5 (.s 16)),I 132 (.ld false 1 (.s 131)),I 133 (.len 1 (.s 132)),I 134 (.bin .gtr (.s 133) (V 0)),I 135 (.mv (.s 134)),G 136 135 true (.mv (.s 7)),G 137 135 true (.ld true 7 (.s 16)),G 138 135 true (C XT [(.s 136),(.s 137)]),G 139 135 true (.bin .neq (.s 138) (V 10)),I 140 (.pick (.s 135) (.s 139) (.v (.bool false)))])
def ZCF:PC :=
 (.reg [6] [I 6 (.mv (.v (.bool false)))])
def ZCG:PC :=
 (.reg [0,2,4,7,9,10,11,12] [I 67 (.mv (.s 12)),I 68 (.bin .add (.s 67) (V 1)),I 12 (.mv (.s 68))])
def p_quartolaw19_EditUndo_25:PC :=
 (.seq (.seq ZB4
 (.ite (.s 66)
 .skip
 (.exit 0)))
 (.seq (.block 1
 (.seq ZB5
 (.seq ZB6
 (.seq ZB7
 (.seq (.seq ZB8
 (.ite (.s 93)
 (.seq ZB9
 .ret)
 .skip))
 (.seq ZCA
 (.seq ZCB
 (.seq (.seq ZCC
 (.ite (.s 130)
 (.seq ZCD
 .ret)
 .skip))
 (.seq ZCE
 (.ite (.s 140)
 (.seq ZCF
 .ret)
 .skip))))))))))
 ZCG))
def p_quartolaw19_EditUndo_26:PC :=
 (.reg [6] [I 141 (.mv (.s 7)),I 142 (C J0 [(.s 141)]),I 143 (.fld false 6 1 (.s 142)),I 144 (.bin .eql (.s 143) (V 0)),I 145 (.mv (.s 144)),G 146 145 true (C JM []),I 147 (.pick (.s 145) (.s 146) (.v (.bool false))),I 6 (.mv (.s 147))])
def YM:PF:=⟨false,
 (.seq ZCw
 (.seq (.seq ZCx
 (.ite (.s 30)
 (.seq ZCy
 .ret)
 .skip))
 (.seq ZCz
 (.seq (.seq ZC0
 (.ite (.s 41)
 (.seq ZC1
 .ret)
 .skip))
 (.seq ZC2
 (.seq (.seq ZC3
 (.ite (.s 49)
 (.seq ZC4
 .ret)
 .skip))
 (.seq ZC5
 (.seq ZB2
 (.seq (.seq ZB3
 (.block 0
 (.loop p_quartolaw19_EditUndo_25)))
 (.seq p_quartolaw19_EditUndo_26
 .ret)))))))))),
 [.s 6]⟩
theorem ZER:Zr Go.Proofs.Try.prog false ZEQ Go.Proofs.Try.f10=some YM:=by kernel_rfl
def Zaf:List Hint:=[⟨[0,3,4,5],[2],[],[],[],[]⟩,H [4,5,6,7],H [4,5,6,7,18],⟨[4,5,6],[3],[],[],[],[]⟩,H [4,5,7,26],H [4,5,7,8,10],H [4,5,7,8,10,34],⟨[4,5,6],[3],[],[],[],[]⟩,H [4,5,7],H [4,5,6],H [4,5,6]]
def ZS6:PC :=
 (.reg [0,3,4,5] [I 3 (.box (.s 1)),I 4 (.box (.v ZR)),I 5 (.onil 1),I 6 (.mv (V 0))])
def ZS7:PC :=
 (.reg [4,5,6,7] [I 12 (.mv (.s 0)),I 13 (.ld true 7 (.s 3)),I 14 (C Xf [(.s 12),(.s 13)]),I 11 (.mv (.s 14)),I 15 (.ext (.s 11) 0),I 16 (.ext (.s 11) 1),I 7 (.mv (.s 15)),I 6 (.mv (.s 16))])
def ZS8:PC :=
 (.reg [4,5,6,7,18] [I 17 (.mv (.s 6)),I 18 (.bin .neq (.s 17) (V 0))])
def ZS9:PC :=
 (.reg [4,5,6] [I 19 (.build [(.int .u64 0),(.int .i64 0),(.int .i64 0),(.int .i64 0),(.int .i64 0)] []),I 20 (.mv (.s 6)),J (.st 5 (.s 4) (.s 19)),I 5 (.onil 1),I 6 (.mv (.s 20))])
def ZTA:PC :=
 (.reg [4,5,7,26] [I 21 (.mv (.s 7)),I 22 (.nilck (.s 21)),I 23 (.fadr 1 (.s 22)),I 24 (.ld false 1 (.s 23)),I 25 (.len 1 (.s 24)),I 26 (.bin .gtr (.s 25) (V 0))])
def ZTB:PC :=
 (.reg [4,5,7,8,10] [I 28 (.mv (.s 7)),I 29 (C XC [(.s 28)]),I 27 (.mv (.s 29)),I 30 (.ext (.s 27) 0),I 31 (.ext (.s 27) 1),I 32 (.ext (.s 27) 2),I 8 (.mv (.s 30)),I 9 (.mv (.s 31)),I 10 (.mv (.s 32))])
def ZTC:PC :=
 (.reg [4,5,7,8,10,34] [I 33 (.mv (.s 10)),I 34 (.bin .neq (.s 33) (V 0))])
def ZTD:PC :=
 (.reg [4,5,6] [I 35 (.build [(.int .u64 0),(.int .i64 0),(.int .i64 0),(.int .i64 0),(.int .i64 0)] []),I 36 (.mv (.s 10)),J (.st 5 (.s 4) (.s 35)),I 5 (.onil 1),I 6 (.mv (.s 36))])
def ZTE:PC :=
 (.reg [4,5,7] [I 37 (.mv (.s 5)),I 38 (.mv (.s 8)),I 39 (.bslice false 1 [(.int .u64 0)] [(0,(.s 38))]),I 40 (.app 1 8 (.s 37) (.s 39)),I 5 (.mv (.s 40))])
def ZTF:PC :=
 (.seq (.seq ZTA
 (.ite (.s 26)
 .skip
 (.exit 0)))
 (.block 1
 (.seq ZTB
 (.seq (.seq ZTC
 (.ite (.s 34)
 (.seq ZTD
 .ret)
 .skip))
 ZTE))))
def ZPT:PC :=
 (.reg [4,5,6] [I 42 (.mv (.s 7)),I 43 (C ZAt [(.s 42)]),I 41 (.mv (.s 43)),I 44 (.ext (.s 41) 0),I 45 (.ext (.s 41) 1),J (.st 5 (.s 4) (.s 44)),I 6 (.mv (.s 45))])
def ZPU:PC :=
 (.reg [4,5,6] [I 46 (.ld true 5 (.s 4)),I 47 (.mv (.s 5)),I 48 (.mv (.s 6)),J (.st 5 (.s 4) (.s 46)),I 5 (.mv (.s 47)),I 6 (.mv (.s 48))])
def ZKC:PF:=⟨false,
 (.seq ZS6
 (.seq ZS7
 (.seq (.seq ZS8
 (.ite (.s 18)
 (.seq ZS9
 .ret)
 .skip))
 (.seq (.block 0
 (.loop ZTF))
 (.seq ZPT
 (.seq ZPU
 .ret)))))),
 [.c 4 true 5,.s 5,.s 6]⟩
theorem Zag:Zr Go.Proofs.Try.prog false Zaf Go.Proofs.Try.f17=some ZKC:=by kernel_rfl
def Zc3:List Hint:=[H [0,3],H [6,7],H [6,7,18],H [4,5],⟨[6,8],[0],[],[],[],[]⟩,H [8,20,21,22],H [8,20,21,22,23],H [8,10,20,21,22],H [8,20,21,22],H [8,20,21,22],H [4,5]]
def ZWv:PC :=
 (.reg [0,3] [I 3 (.box (.s 1)),I 4 (.mv (.v (.str []))),I 5 (.mv (V 0))])
def ZWw:PC :=
 (.reg [6,7] [I 12 (.mv (.s 0)),I 13 (.ld true 5 (.s 3)),I 14 (C ZCr [(.s 12),(.s 13)]),I 11 (.mv (.s 14)),I 15 (.ext (.s 11) 0),I 16 (.ext (.s 11) 1),I 6 (.mv (.s 15)),I 7 (.mv (.s 16))])
def ZWx:PC :=
 (.reg [6,7,18] [I 17 (.mv (.s 7)),I 18 (.bin .neq (.s 17) (V 0))])
def ZWy:PC :=
 (.reg [4,5] [I 19 (.mv (.s 7)),I 4 (.mv (.v (.str []))),I 5 (.mv (.s 19))])
def ZWz:PC :=
 (.reg [6,8] [I 8 (.onil 1)])
def ZW0:PC :=
 (.reg [8,20,21,22] [I 20 (.mv (.s 6)),I 21 (.len 1 (.s 20)),I 22 (.mv (V 0))])
def ZW1:PC :=
 (.reg [8,20,21,22,23] [I 23 (.bin .lss (.s 22) (.s 21))])
def ZW2:PC :=
 (.reg [8,10,20,21,22] [I 24 (.ixS 1 (.s 20) (.s 22)),I 25 (.ld false 1 (.s 24)),I 10 (.mv (.s 25))])
def ZW3:PC :=
 (.reg [8,20,21,22] [I 26 (.mv (.s 8)),I 27 (.mv (.s 10)),I 28 (.app 1 1 (.s 26) (.s 27)),I 8 (.mv (.s 28))])
def ZW4:PC :=
 (.reg [8,20,21,22] [I 29 (.bin .add (.s 22) (V 1)),I 22 (.mv (.s 29))])
def ZTG:PC :=
 (.seq ZW1
 (.seq (.ite (.s 23)
 .skip
 (.exit 0))
 (.seq (.block 1
 (.seq ZW2
 ZW3))
 ZW4)))
def ZTH:PC :=
 (.reg [4,5] [I 30 (.mv (.s 8)),I 31 (.b2s (.s 30)),I 4 (.mv (.s 31)),I 5 (.mv (V 0))])
def ZGX:PF:=⟨false,
 (.seq ZWv
 (.seq ZWw
 (.seq (.seq ZWx
 (.ite (.s 18)
 (.seq ZWy
 .ret)
 .skip))
 (.seq ZWz
 (.seq (.seq ZW0
 (.block 0
 (.loop ZTG)))
 (.seq ZTH
 .ret)))))),
 [.s 4,.s 5]⟩
theorem Zc4:Zr Go.Proofs.Try.prog false Zc3 Go.Proofs.Try.f18=some ZGX:=by kernel_rfl
def ZW5:List Hint:=[H [0,3,20],H [0,3,6,20],H [0,3,6,14,20],H [4,5],⟨[0,3,7,20],[0],[],[],[],[]⟩,H [7,18,20],H [7,9],H [7,9,24],H [7],H [4,5]]
def ZPV:PC :=
 (.reg [0,3,20] [I 3 (.box (.s 1)),I 4 (.mv (.v .nils)),I 5 (.mv (V 0))])
def ZPW:PC :=
 (.reg [0,3,6,20] [I 10 (.mv (.s 0)),I 11 (.ld true 5 (.s 3)),I 12 (C Xe [(.s 10),(.s 11)]),I 6 (.mv (.s 12))])
def ZPX:PC :=
 (.reg [0,3,6,14,20] [I 13 (.mv (.s 6)),I 14 (.bin .neq (.s 13) (V 0))])
def ZPY:PC :=
 (.reg [4,5] [I 15 (.mv (.s 6)),I 4 (.mv (.v .nils)),I 5 (.mv (.s 15))])
def ZPZ:PC :=
 (.reg [0,3,7,20] [I 7 (.boxnil 1)])
def ZPa:PC :=
 (.reg [7,18,20] [I 16 (.mv (.s 0)),I 17 (.ld true 5 (.s 3)),I 18 (C Xh [(.s 16),(.s 17)])])
def ZPb:PC :=
 (.reg [7,9] [I 9 (.box (.v (.agg [(.int .i64 0),(.str []),.nils,(.int .i64 0)]))),J (.st 4 (.s 9) (.s 20))])
def ZPc:PC :=
 (.reg [7,9,24] [I 21 (.fadr 0 (.s 9)),I 22 (.fadr 0 (.s 21)),I 23 (.ld false 1 (.s 22)),I 24 (.bin .eql (.s 23) (V 0))])
def ZPd:PC :=
 (.reg [7] [I 25 (.ld false 1 (.s 7)),I 26 (.fadr 0 (.s 9)),I 27 (.fadr 1 (.s 26)),I 28 (.ld false 1 (.s 27)),I 29 (.bslice false 1 [(.str [])] [(0,(.s 28))]),I 30 (.app 1 16 (.s 25) (.s 29)),J (.st 1 (.s 7) (.s 30))])
def ZPe:PC :=
 (.reg [4,5] [I 31 (.ld false 1 (.s 7)),I 4 (.mv (.s 31)),I 5 (.mv (V 0))])
def p_rope_Leaves:RF:=⟨32,
 (.seq ZPV
 (.seq (.seq ZPW
 (.seq ZPX
 (.ite (.s 14)
 (.seq ZPY
 .ret)
 .skip)))
 (.seq ZPZ
 (.seq ZPa
 .skip)))),
 ⟨(.s 18),[19,20],
 ZPb,
 (.block 1
 (.seq ZPc
 (.ite (.s 24)
 ZPd
 .skip)))⟩,
 (.seq .skip
 (.seq ZPe
 .ret)),
 [.s 4,.s 5]⟩
theorem ZW6:ZSx Go.Proofs.Try.prog ZW5 Go.Proofs.Try.f19=some p_rope_Leaves:=by kernel_rfl
def Zah:List Hint:=[H [0,3,23],H [0,3,6,23],H [0,3,6,17,23],H [4],H [0,3,7,23],H [7,21,23],H [7,9],H [7,9,26],H [7],H [4]]
def ZTI:PC :=
 (.reg [0,3,23] [I 3 (.box (.s 1)),I 4 (.mv (V 0))])
def ZTJ:PC :=
 (.reg [0,3,6,23] [I 11 (.mv (.s 0)),I 12 (.ld true 5 (.s 3)),I 13 (C Yh [(.s 11),(.s 12)]),I 10 (.mv (.s 13)),I 14 (.ext (.s 10) 0),I 15 (.ext (.s 10) 1),I 5 (.box (.v ZT)),J (.st 7 (.s 5) (.s 14)),I 6 (.mv (.s 15))])
def ZTK:PC :=
 (.reg [0,3,6,17,23] [I 16 (.mv (.s 6)),I 17 (.bin .neq (.s 16) (V 0))])
def ZTL:PC :=
 (.reg [4] [I 18 (.mv (.s 6)),I 4 (.mv (.s 18))])
def ZTM:PC :=
 (.reg [0,3,7,23] [I 7 (.box (V 0)),J (.st 1 (.s 7) (V 0))])
def ZTN:PC :=
 (.reg [7,21,23] [I 19 (.mv (.s 0)),I 20 (.ld true 5 (.s 3)),I 21 (C Xh [(.s 19),(.s 20)])])
def ZTO:PC :=
 (.reg [7,9] [I 9 (.box (.v (.agg [(.int .i64 0),(.str []),.nils,(.int .i64 0)]))),J (.st 4 (.s 9) (.s 23))])
def ZTP:PC :=
 (.reg [7,9,26] [I 24 (.fadr 3 (.s 9)),I 25 (.ld false 1 (.s 24)),I 26 (.bin .neq (.s 25) (V 0))])
def ZTQ:PC :=
 (.reg [7] [I 27 (.fadr 3 (.s 9)),I 28 (.ld false 1 (.s 27)),J (.st 1 (.s 7) (.s 28))])
def ZTR:PC :=
 (.reg [4] [I 29 (.ld false 1 (.s 7)),I 4 (.mv (.s 29))])
def p_rope_Check:RF:=⟨30,
 (.seq ZTI
 (.seq (.seq ZTJ
 (.seq ZTK
 (.ite (.s 17)
 (.seq ZTL
 .ret)
 .skip)))
 (.seq ZTM
 (.seq .skip
 (.seq ZTN
 .skip))))),
 ⟨(.s 21),[22,23],
 ZTO,
 (.block 1
 (.seq ZTP
 (.ite (.s 26)
 (.seq ZTQ
 (.exit 0))
 .skip)))⟩,
 (.seq .skip
 (.seq ZTR
 .ret)),
 [.s 4]⟩
theorem Zai:ZSx Go.Proofs.Try.prog Zah Go.Proofs.Try.f22=some p_rope_Check:=by kernel_rfl
def Zaj:List Hint:=[H [0,3,20],H [0,3,6,20],H [0,3,6,14,20],H [4,5],⟨[0,3,7,20],[0],[],[],[],[]⟩,H [0,3,7,8,20],H [7,8,19,20],H [7,8,9],H [7,8,9,25],H [7,9],H [7],H [4,5]]
def ZTS:PC :=
 (.reg [0,3,20] [I 3 (.box (.s 1)),I 4 (.mv (.v .nils)),I 5 (.mv (V 0))])
def ZTT:PC :=
 (.reg [0,3,6,20] [I 10 (.mv (.s 0)),I 11 (.ld true 5 (.s 3)),I 12 (C Xe [(.s 10),(.s 11)]),I 6 (.mv (.s 12))])
def ZTU:PC :=
 (.reg [0,3,6,14,20] [I 13 (.mv (.s 6)),I 14 (.bin .neq (.s 13) (V 0))])
def ZTV:PC :=
 (.reg [4,5] [I 15 (.mv (.s 6)),I 4 (.mv (.v .nils)),I 5 (.mv (.s 15))])
def ZTW:PC :=
 (.reg [0,3,7,20] [I 7 (.boxnil 1)])
def ZTX:PC :=
 (.reg [0,3,7,8,20] [I 16 (.mkmap),I 8 (.box (.v .nilmap)),J (.st 1 (.s 8) (.s 16))])
def ZTY:PC :=
 (.reg [7,8,19,20] [I 17 (.mv (.s 0)),I 18 (.ld true 5 (.s 3)),I 19 (C Xh [(.s 17),(.s 18)])])
def ZTZ:PC :=
 (.reg [7,8,9] [I 9 (.mv (.s 20))])
def ZTa:PC :=
 (.reg [7,8,9,25] [I 22 (.ld false 1 (.s 8)),I 23 (.mv (.s 9)),I 24 (.look 0 (.bool false) false (.s 22) (.s 23)),I 25 (.un .not (.s 24))])
def ZTb:PC :=
 (.reg [7,9] [I 26 (.ld false 1 (.s 8)),I 27 (.mv (.s 9)),J (.mupd 0 (.s 26) (.s 27) (.v (.bool true)))])
def ZPf:PC :=
 (.reg [7] [I 28 (.ld false 1 (.s 7)),I 29 (.mv (.s 9)),I 30 (.bslice false 1 [(.int .u64 0)] [(0,(.s 29))]),I 31 (.app 1 8 (.s 28) (.s 30)),J (.st 1 (.s 7) (.s 31))])
def ZPg:PC :=
 (.reg [4,5] [I 32 (.ld false 1 (.s 7)),I 4 (.mv (.s 32)),I 5 (.mv (V 0))])
def ZES:RF:=⟨33,
 (.seq ZTS
 (.seq (.seq ZTT
 (.seq ZTU
 (.ite (.s 14)
 (.seq ZTV
 .ret)
 .skip)))
 (.seq ZTW
 (.seq ZTX
 (.seq ZTY
 .skip))))),
 ⟨(.s 19),[20,21],
 ZTZ,
 (.block 1
 (.seq ZTa
 (.ite (.s 25)
 (.seq ZTb
 ZPf)
 .skip)))⟩,
 (.seq .skip
 (.seq ZPg
 .ret)),
 [.s 4,.s 5]⟩
theorem Zak:ZSx Go.Proofs.Try.prog Zaj Go.Proofs.Try.f23=some ZES:=by kernel_rfl
def ZIo:List Hint:=[H [0,1],H [0,1,6],H [4],H [4]]
def ZGY:PC :=
 (.reg [0,1] [I 4 (.mv (.v (.bool false)))])
def ZGZ:PC :=
 (.reg [0,1,6] [I 5 (.mv (.s 0)),I 6 (.eqs false 3 [] (.s 5) (.v .nilptr))])
def ZGa:PC :=
 (.reg [4] [I 4 (.mv (.v (.bool false)))])
def ZGb:PC :=
 (.reg [4] [I 7 (.mv (.s 0)),I 8 (.nilck (.s 7)),I 9 (.fadr 1 (.s 8)),I 10 (.ld false 1 (.s 9)),I 11 (.mv (.s 1)),I 12 (C Yi [(.s 10),(.s 11)]),I 4 (.mv (.s 12))])
def ZBh:PF:=⟨false,
 (.seq ZGY
 (.seq (.seq ZGZ
 (.ite (.s 6)
 (.seq ZGa
 .ret)
 .skip))
 (.seq ZGb
 .ret))),
 [.s 4]⟩
theorem ZIp:Zr Go.Proofs.Try.prog false ZIo Go.Proofs.Try.f26=some ZBh:=by kernel_rfl
def ZHo:List Hint:=[H [0,2],H [0,2,4],H [2],⟨[2],[],[(8,.pure),(19,.pure)],[],[],[]⟩]
def ZFm:PC :=
 (.reg [0,2] [I 2 (.box (.v (.agg [(.int .i64 0),(.int .i64 0),(.int .i64 0),(.int .i64 0),(.int .i64 0),(.int .i64 0),(.int .i64 0)])))])
def ZFn:PC :=
 (.reg [0,2,4] [I 3 (.mv (.s 0)),I 4 (.eqs false 3 [] (.s 3) (.v .nilptr))])
def ZFo:PC :=
 (.reg [2] [I 5 (.build [(.int .i64 0),(.int .i64 0),(.int .i64 0),(.int .i64 0),(.int .i64 0),(.int .i64 0),(.int .i64 0)] []),J (.st 7 (.s 2) (.s 5))])
def ZFp:PC :=
 (.reg [2] [I 6 (.mv (.s 0)),I 7 (.nilck (.s 6)),I 8 (.fadr 0 (.s 7)),I 9 (.ld false 1 (.s 8)),I 10 (.mv (.s 0)),I 11 (.nilck (.s 10)),I 12 (.fadr 1 (.s 11)),I 13 (.ld false 1 (.s 12)),I 14 (.call .pure (.v (.func (.func Jo) [] [])) [(.s 13)]),I 15 (.len 1 (.s 14)),I 16 (.mv (.s 0)),I 17 (.nilck (.s 16)),I 18 (.fadr 2 (.s 17)),I 19 (.ld false 1 (.s 18)),I 20 (.len 2 (.s 19)),I 21 (.mv (.s 0)),I 22 (.nilck (.s 21)),I 23 (.fadr 1 (.s 22)),I 24 (.ld false 1 (.s 23)),I 25 (.call .pure (.v (.func (.func Q3) [] [])) [(.s 24)]),I 26 (.len 1 (.s 25)),I 27 (.mv (.s 0)),I 28 (.nilck (.s 27)),I 29 (.fadr 3 (.s 28)),I 30 (.ld false 1 (.s 29)),I 31 (.mv (.s 0)),I 32 (.nilck (.s 31)),I 33 (.fadr 4 (.s 32)),I 34 (.ld false 1 (.s 33)),I 35 (.mv (.s 0)),I 36 (.nilck (.s 35)),I 37 (.fadr 5 (.s 36)),I 38 (.ld false 1 (.s 37)),I 39 (.build [(.int .i64 0),(.int .i64 0),(.int .i64 0),(.int .i64 0),(.int .i64 0),(.int .i64 0),(.int .i64 0)] [(0,1,(.s 9)),(1,1,(.s 15)),(2,1,(.s 20)),(3,1,(.s 26)),(4,1,(.s 30)),(5,1,(.s 34)),(6,1,(.s 38))]),J (.st 7 (.s 2) (.s 39))])
def ZAw:PF:=⟨false,
 (.seq ZFm
 (.seq (.seq ZFn
 (.ite (.s 4)
 (.seq ZFo
 .ret)
 .skip))
 (.seq ZFp
 .ret))),
 [.c 2 true 7]⟩
theorem ZHp:Zr Go.Proofs.Try.prog false ZHo Go.Proofs.Try.f27=some ZAw:=by kernel_rfl
def Zev:List Hint:=[H [1],H [1,3],H [1,3,4],H [1,3,14],H [1,3],H [3,16,17,18],H [3,16,17,18,19],H [3,6,16,17,18],H [3,16,17,18],H [3,16,17,18],H [2]]
def Zal:PC :=
 (.reg [1] [I 1 (.box (.s 0)),I 2 (.mv (V 0))])
def Zam:PC :=
 (.reg [1,3] [I 3 (.mv (V 0))])
def Zan:PC :=
 (.reg [1,3,4] [I 7 (.ld true 7 (.s 1)),I 8 (C Ql [(.s 7)]),I 4 (.mv (.s 8))])
def Zao:PC :=
 (.reg [1,3,14] [I 9 (.mv (.s 4)),I 10 (.bin .eql (.s 9) (V 3)),I 11 (.mv (.s 10)),G 12 11 false (.mv (.s 4)),G 13 11 false (.bin .eql (.s 12) (V 4)),I 14 (.pick (.s 11) (.v (.bool true)) (.s 13))])
def Zap:PC :=
 (.reg [1,3] [I 3 (.mv (V 1))])
def Zaq:PC :=
 (.reg [3,16,17,18] [I 15 (.fadr 6 (.s 1)),I 16 (.ld false 1 (.s 15)),I 17 (.len 1 (.s 16)),I 18 (.mv (V 0))])
def Zar:PC :=
 (.reg [3,16,17,18,19] [I 19 (.bin .lss (.s 18) (.s 17))])
def Zas:PC :=
 (.reg [3,6,16,17,18] [I 20 (.ixS 7 (.s 16) (.s 18)),I 21 (.ld true 7 (.s 20)),I 6 (.box (.v ZT)),J (.st 7 (.s 6) (.s 21))])
def Zat:PC :=
 (.reg [3,16,17,18] [I 22 (.mv (.s 3)),I 23 (.ld true 7 (.s 6)),I 24 (C ZAL [(.s 23)]),I 25 (.bin .add (.s 22) (.s 24)),I 3 (.mv (.s 25))])
def Zau:PC :=
 (.reg [3,16,17,18] [I 26 (.bin .add (.s 18) (V 1)),I 18 (.mv (.s 26))])
def ZW7:PC :=
 (.seq Zar
 (.seq (.ite (.s 19)
 .skip
 (.exit 0))
 (.seq (.block 1
 (.seq Zas
 Zat))
 Zau)))
def ZW8:PC :=
 (.reg [2] [I 27 (.mv (.s 3)),I 2 (.mv (.s 27))])
def ZTc:PF:=⟨false,
 (.seq Zal
 (.seq Zam
 (.seq (.seq Zan
 (.seq Zao
 (.ite (.s 14)
 Zap
 .skip)))
 (.seq (.seq Zaq
 (.block 0
 (.loop ZW7)))
 (.seq ZW8
 .ret))))),
 [.s 2]⟩
theorem Zew:Zr Go.Proofs.Try.prog false Zev Go.Proofs.Try.f28=some ZTc:=by kernel_rfl
def ZIq:List Hint:=[H [0,1],H [4]]
def ZGc:PC :=
 (.reg [0,1] [I 4 (.mv (V 0))])
def ZGd:PC :=
 (.reg [4] [I 5 (.mv (.s 0)),I 6 (.cint .u64 (.s 5)),I 7 (.mv (.s 1)),I 8 (.bin .add (.s 7) (V 1)),I 9 (.cint .u64 (.s 8)),I 10 (.bin .rem (.s 6) (.s 9)),I 11 (.cint .i64 (.s 10)),I 4 (.mv (.s 11))])
def ZBi:PF:=⟨false,
 (.seq ZGc
 (.seq ZGd
 .ret)),
 [.s 4]⟩
theorem ZIr:Zr Go.Proofs.Try.prog false ZIq Go.Proofs.Try.f29=some ZBi:=by kernel_rfl
def Zav:List Hint:=[H [0,3],H [0,3,6],H [0,3,6,12],H [4,5],H [0,3,19],H [4,5],H [3,7],H [7],H [4,5]]
def ZTd:PC :=
 (.reg [0,3] [I 3 (.box (.s 1)),I 4 (.mv (.v .nilptr)),I 5 (.mv (V 0))])
def ZTe:PC :=
 (.reg [0,3,6] [I 8 (.mv (.s 0)),I 9 (.ld true 7 (.s 3)),I 10 (C YK [(.s 8),(.s 9)]),I 6 (.mv (.s 10))])
def ZTf:PC :=
 (.reg [0,3,6,12] [I 11 (.mv (.s 6)),I 12 (.bin .neq (.s 11) (V 0))])
def ZTg:PC :=
 (.reg [4,5] [I 13 (.mv (.s 6)),I 4 (.mv (.v .nilptr)),I 5 (.mv (.s 13))])
def ZTh:PC :=
 (.reg [0,3,19] [I 14 (.ld true 7 (.s 3)),I 15 (C ZAL [(.s 14)]),I 16 (.mv (.s 0)),I 17 (C J0 [(.s 16)]),I 18 (.fld false 1 1 (.s 17)),I 19 (.bin .gtr (.s 15) (.s 18))])
def ZTi:PC :=
 (.reg [4,5] [I 4 (.mv (.v .nilptr)),I 5 (.mv (V 6))])
def ZTj:PC :=
 (.reg [3,7] [I 20 (.mv (.s 0)),I 21 (.build [.nilptr,.nils,.nilptr] [(0,1,(.s 20))]),I 22 (.box (.s 21)),I 7 (.mv (.s 22))])
def ZTk:PC :=
 (.reg [7] [I 23 (.mv (.s 7)),I 24 (.mv (.s 7)),I 25 (.ld true 7 (.s 3)),I 26 (C Qc [(.s 24),(.s 25)]),I 27 (.nilck (.s 23)),I 28 (.fadr 2 (.s 27)),J (.st 1 (.s 28) (.s 26))])
def ZTl:PC :=
 (.reg [4,5] [I 29 (.mv (.s 7)),I 4 (.mv (.s 29)),I 5 (.mv (V 0))])
def ZKD:PF:=⟨true,
 (.seq ZTd
 (.seq (.seq ZTe
 (.seq ZTf
 (.ite (.s 12)
 (.seq ZTg
 .ret)
 .skip)))
 (.seq (.seq ZTh
 (.ite (.s 19)
 (.seq ZTi
 .ret)
 .skip))
 (.seq ZTj
 (.seq ZTk
 (.seq ZTl
 .ret)))))),
 [.s 4,.s 5]⟩
theorem Zaw:Zr Go.Proofs.Try.prog true Zav Go.Proofs.Try.f32=some ZKD:=by kernel_rfl
def ZPh:List Hint:=[H [0,2],H [0,2,5],H [2,3],H [0,2,12],H [2,3],H [2,3]]
def ZKE:PC :=
 (.reg [0,2] [I 2 (.box (.v ZR)),I 3 (.mv (V 0))])
def ZKF:PC :=
 (.reg [0,2,5] [I 4 (.mv (.s 0)),I 5 (.eqs false 3 [] (.s 4) (.v .nilptr))])
def ZKG:PC :=
 (.reg [2,3] [I 6 (.build [(.int .u64 0),(.int .i64 0),(.int .i64 0),(.int .i64 0),(.int .i64 0)] []),J (.st 5 (.s 2) (.s 6)),I 3 (.mv (V 1))])
def ZKH:PC :=
 (.reg [0,2,12] [I 7 (.mv (.s 0)),I 8 (.nilck (.s 7)),I 9 (.fadr 1 (.s 8)),I 10 (.ld false 1 (.s 9)),I 11 (.len 1 (.s 10)),I 12 (.bin .gtr (.s 11) (V 0))])
def ZKI:PC :=
 (.reg [2,3] [I 13 (.build [(.int .u64 0),(.int .i64 0),(.int .i64 0),(.int .i64 0),(.int .i64 0)] []),J (.st 5 (.s 2) (.s 13)),I 3 (.mv (V 8))])
def ZKJ:PC :=
 (.reg [2,3] [I 14 (.mv (.s 0)),I 15 (.nilck (.s 14)),I 16 (.fadr 2 (.s 15)),I 17 (.ld false 1 (.s 16)),I 18 (.nilck (.s 17)),I 19 (.ld true 5 (.s 18)),J (.st 5 (.s 2) (.s 19)),I 3 (.mv (V 0))])
def ZFX:PF:=⟨false,
 (.seq ZKE
 (.seq (.seq ZKF
 (.ite (.s 5)
 (.seq ZKG
 .ret)
 .skip))
 (.seq (.seq ZKH
 (.ite (.s 12)
 (.seq ZKI
 .ret)
 .skip))
 (.seq ZKJ
 .ret)))),
 [.c 2 true 5,.s 3]⟩
theorem ZPi:Zr Go.Proofs.Try.prog false ZPh Go.Proofs.Try.f34=some ZFX:=by kernel_rfl
def ZPj:List Hint:=[H [0],H [0,6],H [2,3,4],H [0,12],H [2,3,4],H [0,2,4],H [0,2,4,24],H [2,3,4],H [0,2],H [2,3,4]]
def ZKK:PC :=
 (.reg [0] [I 2 (.mv (.v (.int .u64 0))),I 3 (.mv (.v (.bool false))),I 4 (.mv (V 0))])
def ZKL:PC :=
 (.reg [0,6] [I 5 (.mv (.s 0)),I 6 (.eqs false 3 [] (.s 5) (.v .nilptr))])
def ZKM:PC :=
 (.reg [2,3,4] [I 2 (.mv (.v (.int .u64 0))),I 3 (.mv (.v (.bool false))),I 4 (.mv (V 1))])
def ZKN:PC :=
 (.reg [0,12] [I 7 (.mv (.s 0)),I 8 (.nilck (.s 7)),I 9 (.fadr 1 (.s 8)),I 10 (.ld false 1 (.s 9)),I 11 (.len 1 (.s 10)),I 12 (.bin .eql (.s 11) (V 0))])
def ZKO:PC :=
 (.reg [2,3,4] [I 2 (.mv (.v (.int .u64 0))),I 3 (.mv (.v (.bool true))),I 4 (.mv (V 0))])
def ZKP:PC :=
 (.reg [0,2,4] [I 14 (.mv (.s 0)),I 15 (.nilck (.s 14)),I 16 (.fadr 1 (.s 15)),I 17 (.ld false 1 (.s 16)),I 18 (.ixS 1 (.s 17) (V 0)),I 19 (.ld false 1 (.s 18)),I 20 (.call .norm (.s 19) []),I 13 (.mv (.s 20)),I 21 (.ext (.s 13) 0),I 22 (.ext (.s 13) 1),I 2 (.mv (.s 21)),I 4 (.mv (.s 22))])
def ZKQ:PC :=
 (.reg [0,2,4,24] [I 23 (.mv (.s 4)),I 24 (.bin .neq (.s 23) (V 0))])
def ZKR:PC :=
 (.reg [2,3,4] [I 25 (.mv (.s 4)),I 2 (.mv (.v (.int .u64 0))),I 3 (.mv (.v (.bool false))),I 4 (.mv (.s 25))])
def ZKS:PC :=
 (.reg [0,2] [I 26 (.mv (.s 0)),I 27 (.mv (.s 0)),I 28 (.nilck (.s 27)),I 29 (.fadr 1 (.s 28)),I 30 (.ld false 1 (.s 29)),I 31 (.slc 1 (.s 30) (some (V 1)) none),I 32 (.nilck (.s 26)),I 33 (.fadr 1 (.s 32)),J (.st 1 (.s 33) (.s 31))])
def ZKT:PC :=
 (.reg [2,3,4] [I 34 (.mv (.s 2)),I 35 (.mv (.s 0)),I 36 (.nilck (.s 35)),I 37 (.fadr 1 (.s 36)),I 38 (.ld false 1 (.s 37)),I 39 (.len 1 (.s 38)),I 40 (.bin .eql (.s 39) (V 0)),I 2 (.mv (.s 34)),I 3 (.mv (.s 40)),I 4 (.mv (V 0))])
def ZFY:PF:=⟨false,
 (.seq ZKK
 (.seq (.seq ZKL
 (.ite (.s 6)
 (.seq ZKM
 .ret)
 .skip))
 (.seq (.seq ZKN
 (.ite (.s 12)
 (.seq ZKO
 .ret)
 .skip))
 (.seq ZKP
 (.seq (.seq ZKQ
 (.ite (.s 24)
 (.seq ZKR
 .ret)
 .skip))
 (.seq ZKS
 (.seq ZKT
 .ret))))))),
 [.s 2,.s 3,.s 4]⟩
theorem ZPk:Zr Go.Proofs.Try.prog false ZPj Go.Proofs.Try.f35=some ZFY:=by kernel_rfl
def ZKU:List Hint:=[H [0,1,4],H [0,1,4,9],H [4,5],H [0,4,6,7],H [0,4,6,21],H [4],H [4,5],H [4,6],H [4,5]]
def ZHq:PC :=
 (.reg [0,1,4] [I 4 (.box (.v ZN)),I 5 (.mv (V 0))])
def ZHr:PC :=
 (.reg [0,1,4,9] [I 8 (.mv (.s 0)),I 9 (.eqs false 3 [] (.s 8) (.v .nilptr))])
def ZHs:PC :=
 (.reg [4,5] [I 10 (.build [(.int .i64 0),(.str []),.nils] []),J (.st 3 (.s 4) (.s 10)),I 5 (.mv (V 1))])
def ZHt:PC :=
 (.reg [0,4,6,7] [I 12 (.mv (.s 0)),I 13 (.nilck (.s 12)),I 14 (.fadr 2 (.s 13)),I 15 (.ld false 1 (.s 14)),I 16 (.mv (.s 1)),I 17 (.look 0 ZN true (.s 15) (.s 16)),I 11 (.mv (.s 17)),I 18 (.ext (.s 11) 0),I 19 (.ext (.s 11) 1),I 6 (.box (.v ZN)),J (.st 3 (.s 6) (.s 18)),I 7 (.mv (.s 19))])
def ZHu:PC :=
 (.reg [0,4,6,21] [I 20 (.mv (.s 7)),I 21 (.un .not (.s 20))])
def ZHv:PC :=
 (.reg [4] [I 22 (.mv (.s 0)),I 23 (.nilck (.s 22)),I 24 (.fadr 5 (.s 23)),I 25 (.ld false 1 (.s 24)),I 26 (.bin .add (.s 25) (V 1)),I 27 (.nilck (.s 22)),I 28 (.fadr 5 (.s 27)),J (.st 1 (.s 28) (.s 26))])
def ZHw:PC :=
 (.reg [4,5] [I 29 (.build [(.int .i64 0),(.str []),.nils] []),J (.st 3 (.s 4) (.s 29)),I 5 (.mv (V 10))])
def ZHx:PC :=
 (.reg [4,6] [I 30 (.fadr 2 (.s 6)),I 31 (.ld false 1 (.s 30)),I 32 (C Z6 [(.s 31)]),I 33 (.fadr 2 (.s 6)),J (.st 1 (.s 33) (.s 32))])
def ZHy:PC :=
 (.reg [4,5] [I 34 (.ld true 3 (.s 6)),J (.st 3 (.s 4) (.s 34)),I 5 (.mv (V 0))])
def ZCc:PF:=⟨false,
 (.seq ZHq
 (.seq (.seq ZHr
 (.ite (.s 9)
 (.seq ZHs
 .ret)
 .skip))
 (.seq ZHt
 (.seq (.seq ZHu
 (.ite (.s 21)
 (.seq ZHv
 (.seq ZHw
 .ret))
 .skip))
 (.seq ZHx
 (.seq ZHy
 .ret)))))),
 [.c 4 true 3,.s 5]⟩
theorem ZKV:Zr Go.Proofs.Try.prog false ZKU Go.Proofs.Try.f36=some ZCc:=by kernel_rfl
def ZIs:List Hint:=[H [0,1],H [4]]
def ZGe:PC :=
 (.reg [0,1] [I 4 (.mv (V 0))])
def ZGf:PC :=
 (.reg [4] [I 5 (.mv (.s 0)),I 6 (.mv (.s 1)),I 7 (C XM [(.s 5),(.s 6)]),I 4 (.mv (.s 7))])
def ZBj:PF:=⟨false,
 (.seq ZGe
 (.seq ZGf
 .ret)),
 [.s 4]⟩
theorem ZIt:Zr Go.Proofs.Try.prog false ZIs Go.Proofs.Try.f41=some ZBj:=by kernel_rfl
def ZHz:List Hint:=[H [],H [1,2,3],H [1,2,14],H [0],H [1,4,5],H [5,6,7],H [0]]
def ZFq:PC :=
 (.reg [] [I 0 (.mv (.v (.bool false)))])
def ZFr:PC :=
 (.reg [1,2,3] [I 9 (C J2 []),I 8 (.mv (.s 9)),I 10 (.ext (.s 8) 0),I 11 (.ext (.s 8) 1),I 12 (.ext (.s 8) 2),I 2 (.box (.v ZR)),I 1 (.mv (.s 10)),J (.st 5 (.s 2) (.s 11)),I 3 (.mv (.s 12))])
def ZFs:PC :=
 (.reg [1,2,14] [I 13 (.mv (.s 3)),I 14 (.un .not (.s 13))])
def ZFt:PC :=
 (.reg [0] [I 0 (.mv (.v (.bool false)))])
def ZFu:PC :=
 (.reg [1,4,5] [I 16 (.mv (.s 1)),I 17 (.ld true 5 (.s 2)),I 18 (C ZAR [(.s 16),(.s 17),(V 9),(.v (.str [120,121,122]))]),I 15 (.mv (.s 18)),I 19 (.ext (.s 15) 0),I 20 (.ext (.s 15) 1),I 4 (.box (.v (.agg [(.int .u64 0),(.int .i64 0),(.int .i64 0),(.int .i64 0),(.int .i64 0),.nils,.nils]))),J (.st 7 (.s 4) (.s 19)),I 5 (.mv (.s 20))])
def ZFv:PC :=
 (.reg [5,6,7] [I 22 (.mv (.s 1)),I 23 (.fadr 0 (.s 4)),I 24 (.ld true 5 (.s 23)),I 25 (C XS [(.s 22),(.s 24)]),I 21 (.mv (.s 25)),I 26 (.ext (.s 21) 0),I 27 (.ext (.s 21) 1),I 6 (.mv (.s 26)),I 7 (.mv (.s 27))])
def ZFw:PC :=
 (.reg [0] [I 28 (.mv (.s 5)),I 29 (.bin .eql (.s 28) (V 0)),I 30 (.mv (.s 29)),G 31 30 true (.mv (.s 7)),G 32 30 true (.bin .eql (.s 31) (V 0)),I 33 (.pick (.s 30) (.s 32) (.v (.bool false))),I 34 (.mv (.s 33)),G 35 34 true (.mv (.s 6)),G 36 34 true (.bin .eql (.s 35) (.v (.str [97,98,99,100,101,102,103,104,105,120,121,122,106,107,108,109,110,111,112,113]))),I 37 (.pick (.s 34) (.s 36) (.v (.bool false))),I 0 (.mv (.s 37))])
def Y0:PF:=⟨false,
 (.seq ZFq
 (.seq ZFr
 (.seq (.seq ZFs
 (.ite (.s 14)
 (.seq ZFt
 .ret)
 .skip))
 (.seq ZFu
 (.seq ZFv
 (.seq ZFw
 .ret)))))),
 [.s 0]⟩
theorem ZH0:Zr Go.Proofs.Try.prog false ZHz Go.Proofs.Try.f45=some Y0:=by kernel_rfl
def ZTm:List Hint:=[H [5,6,7,8,9,10],H [10,11]]
def ZMc:PC :=
 (.reg [5,6,7,8,9,10] [I 5 (.box (.s 0)),I 6 (.box (.s 1)),I 7 (.box (.s 2)),I 8 (.box (.s 3)),I 9 (.box (.s 4)),I 10 (.box (.v (.agg [(.int .u64 0),(.int .i64 0),(.int .i64 0),(.int .i64 0),(.int .i64 0),.nils,.nils]))),I 11 (.mv (V 0))])
def ZMd:PC :=
 (.reg [10,11] [I 12 (.ld false 1 (.s 5)),I 13 (.mkf (.func Ys) [] [(.s 5),(.s 6),(.s 7),(.s 8),(.s 9)]),I 14 (.ld true 5 (.s 6)),I 15 (.bslice false 5 [ZR] [(0,(.s 14))]),I 16 (C ZCs [(.s 12),(.s 13),(.s 15)]),I 17 (.ext (.s 16) 0),I 18 (.ext (.s 16) 1),J (.st 7 (.s 10) (.s 17)),I 11 (.mv (.s 18))])
def ZGg:PF:=⟨false,
 (.seq ZMc
 (.seq ZMd
 .ret)),
 [.c 10 true 7,.s 11]⟩
theorem ZTn:Zr Go.Proofs.Try.prog false ZTm Go.Proofs.Try.f46=some ZGg:=by kernel_rfl
def ZC6:List Hint:=[H [0,1],H [0,1,10],H [4],H [0,1,5],H [0,1,5,14],H [0,1,5,25],H [4],H [0,1,5],H [4]]
def ZBk:PC :=
 (.reg [0,1] [I 4 (.mv (.v (.bool false)))])
def ZBl:PC :=
 (.reg [0,1,10] [I 6 (.mv (.s 0)),I 7 (.len 1 (.s 6)),I 8 (.mv (.s 1)),I 9 (.len 1 (.s 8)),I 10 (.bin .neq (.s 7) (.s 9))])
def ZBm:PC :=
 (.reg [4] [I 4 (.mv (.v (.bool false)))])
def ZBn:PC :=
 (.reg [0,1,5] [I 5 (.mv (V 0))])
def ZBo:PC :=
 (.reg [0,1,5,14] [I 11 (.mv (.s 5)),I 12 (.mv (.s 0)),I 13 (.len 1 (.s 12)),I 14 (.bin .lss (.s 11) (.s 13))])
def ZBp:PC :=
 (.reg [0,1,5,25] [I 17 (.mv (.s 0)),I 18 (.mv (.s 5)),I 19 (.ixS 1 (.s 17) (.s 18)),I 20 (.ld false 1 (.s 19)),I 21 (.mv (.s 1)),I 22 (.mv (.s 5)),I 23 (.ixS 1 (.s 21) (.s 22)),I 24 (.ld false 1 (.s 23)),I 25 (.bin .neq (.s 20) (.s 24))])
def ZBq:PC :=
 (.reg [4] [I 4 (.mv (.v (.bool false)))])
def ZBr:PC :=
 (.reg [0,1,5] [I 15 (.mv (.s 5)),I 16 (.bin .add (.s 15) (V 1)),I 5 (.mv (.s 16))])
def ZBs:PC :=
 (.seq (.seq ZBo
 (.ite (.s 14)
 .skip
 (.exit 0)))
 (.seq (.block 1
 (.seq ZBp
 (.ite (.s 25)
 (.seq ZBq
 .ret)
 .skip)))
 ZBr))
def ZBt:PC :=
 (.reg [4] [I 4 (.mv (.v (.bool true)))])
def Y5:PF:=⟨false,
 (.seq ZBk
 (.seq (.seq ZBl
 (.ite (.s 10)
 (.seq ZBm
 .ret)
 .skip))
 (.seq (.seq ZBn
 (.block 0
 (.loop ZBs)))
 (.seq ZBt
 .ret)))),
 [.s 4]⟩
theorem ZC7:Zr Go.Proofs.Try.prog false ZC6 Go.Proofs.Try.f47=some Y5:=by kernel_rfl
def Zc5:List Hint:=[H [0,1],H [0,6,7],H [0,6,7,15],H [4,5],H [4,5]]
def ZW9:PC :=
 (.reg [0,1] [I 4 (.mv (.v .nilptr)),I 5 (.mv (V 0))])
def ZXA:PC :=
 (.reg [0,6,7] [I 9 (.mv (.s 0)),I 10 (.mv (.s 1)),I 11 (C ZBc [(.s 9),(.s 10)]),I 8 (.mv (.s 11)),I 12 (.ext (.s 8) 0),I 13 (.ext (.s 8) 1),I 6 (.mv (.s 12)),I 7 (.mv (.s 13))])
def ZXB:PC :=
 (.reg [0,6,7,15] [I 14 (.mv (.s 7)),I 15 (.bin .neq (.s 14) (V 0))])
def ZXC:PC :=
 (.reg [4,5] [I 16 (.mv (.s 7)),I 4 (.mv (.v .nilptr)),I 5 (.mv (.s 16))])
def ZXD:PC :=
 (.reg [4,5] [I 17 (.mv (.s 0)),I 18 (.mv (.s 6)),I 19 (.mkmap),I 20 (.build [(.int .i64 0),.nilptr,.nilmap,(.int .i64 0),(.int .i64 0),(.int .i64 0)] [(0,1,(.s 17)),(1,1,(.s 18)),(2,1,(.s 19))]),I 21 (.box (.s 20)),I 4 (.mv (.s 21)),I 5 (.mv (V 0))])
def ZO4:PF:=⟨true,
 (.seq ZW9
 (.seq ZXA
 (.seq (.seq ZXB
 (.ite (.s 15)
 (.seq ZXC
 .ret)
 .skip))
 (.seq ZXD
 .ret)))),
 [.s 4,.s 5]⟩
theorem Zc6:Zr Go.Proofs.Try.prog true Zc5 Go.Proofs.Try.f49=some ZO4:=by kernel_rfl
def Zex:List Hint:=[H [0,1,4],H [0,1,4,11],H [4,5],H [0,4,6,7],H [0,4,6,7,19],H [4,5],H [4,7,8],H [4,5]]
def Zax:PC :=
 (.reg [0,1,4] [I 4 (.box (.v ZR)),I 5 (.mv (V 0))])
def Zay:PC :=
 (.reg [0,1,4,11] [I 10 (.mv (.s 0)),I 11 (.eqs false 3 [] (.s 10) (.v .nilptr))])
def Zaz:PC :=
 (.reg [4,5] [I 12 (.build [(.int .u64 0),(.int .i64 0),(.int .i64 0),(.int .i64 0),(.int .i64 0)] []),J (.st 5 (.s 4) (.s 12)),I 5 (.mv (V 1))])
def Za0:PC :=
 (.reg [0,4,6,7] [I 14 (.mv (.s 1)),I 15 (C ZA7 [(.s 14)]),I 13 (.mv (.s 15)),I 16 (.ext (.s 13) 0),I 17 (.ext (.s 13) 1),I 6 (.box (.v ZT)),J (.st 7 (.s 6) (.s 16)),I 7 (.mv (.s 17))])
def Za1:PC :=
 (.reg [0,4,6,7,19] [I 18 (.mv (.s 7)),I 19 (.bin .neq (.s 18) (V 0))])
def Za2:PC :=
 (.reg [4,5] [I 20 (.build [(.int .u64 0),(.int .i64 0),(.int .i64 0),(.int .i64 0),(.int .i64 0)] []),I 21 (.mv (.s 7)),J (.st 5 (.s 4) (.s 20)),I 5 (.mv (.s 21))])
def Za3:PC :=
 (.reg [4,7,8] [I 23 (.mv (.s 0)),I 24 (.ld true 7 (.s 6)),I 25 (C ZA6 [(.s 23),(.s 24)]),I 22 (.mv (.s 25)),I 26 (.ext (.s 22) 0),I 27 (.ext (.s 22) 1),I 28 (.ext (.s 22) 2),I 8 (.box (.v ZR)),J (.st 5 (.s 8) (.s 26)),I 9 (.mv (.s 27)),I 7 (.mv (.s 28))])
def Za4:PC :=
 (.reg [4,5] [I 29 (.ld true 5 (.s 8)),I 30 (.mv (.s 7)),J (.st 5 (.s 4) (.s 29)),I 5 (.mv (.s 30))])
def ZTo:PF:=⟨false,
 (.seq Zax
 (.seq (.seq Zay
 (.ite (.s 11)
 (.seq Zaz
 .ret)
 .skip))
 (.seq Za0
 (.seq (.seq Za1
 (.ite (.s 19)
 (.seq Za2
 .ret)
 .skip))
 (.seq Za3
 (.seq Za4
 .ret)))))),
 [.c 4 true 5,.s 5]⟩
theorem Zey:Zr Go.Proofs.Try.prog false Zex Go.Proofs.Try.f50=some ZTo:=by kernel_rfl
def ZFx:List Hint:=[H [0],H [0,4],H [2],H [2]]
def ZDL:PC :=
 (.reg [0] [I 2 (.mv (.v .nils))])
def ZDM:PC :=
 (.reg [0,4] [I 3 (.mv (.s 0)),I 4 (.eqs false 3 [] (.s 3) (.v .nilptr))])
def ZDN:PC :=
 (.reg [2] [I 2 (.mv (.v .nils))])
def ZDO:PC :=
 (.reg [2] [I 5 (.mv (.s 0)),I 6 (.nilck (.s 5)),I 7 (.fadr 1 (.s 6)),I 8 (.ld false 1 (.s 7)),I 9 (C J6 [(.s 8)]),I 2 (.mv (.s 9))])
def X5:PF:=⟨false,
 (.seq ZDL
 (.seq (.seq ZDM
 (.ite (.s 4)
 (.seq ZDN
 .ret)
 .skip))
 (.seq ZDO
 .ret))),
 [.s 2]⟩
theorem ZFy:Zr Go.Proofs.Try.prog false ZFx Go.Proofs.Try.f51=some X5:=by kernel_rfl
def Za5:List Hint:=[H [0,2],H [0,2,14],H [2,3],⟨[0,2,4],[0],[],[],[],[]⟩,H [2,4,17,18,19],H [2,4,17,18,19,20],H [2,4,6,17,18,19],H [2,4,17,18,19],H [2,4,17,18,19],H [2,4,31],H [2,4,7,8],H [2,4,7,8,39],H [2,3],⟨[2,4,7,9],[0],[],[],[],[]⟩,H [2,4,9,42,43,44],H [2,4,9,42,43,44,45],H [2,4,9,11,42,43,44],H [2,4,9,11,42,43,44],H [2,4,9,42,43,44],H [2,4,9,42,43,44],H [2,4],H [2,3]]
def ZTp:PC :=
 (.reg [0,2] [I 2 (.box (.v ZT)),I 3 (.mv (V 0))])
def ZTq:PC :=
 (.reg [0,2,14] [I 12 (.mv (.s 0)),I 13 (.len 0 (.s 12)),I 14 (.bin .gtr (.s 13) (V 65536))])
def ZTr:PC :=
 (.reg [2,3] [I 15 (.build [(.int .u64 0),(.int .i64 0),(.int .i64 0),(.int .i64 0),(.int .i64 0),(.str []),.nils] []),J (.st 7 (.s 2) (.s 15)),I 3 (.mv (V 5))])
def ZTs:PC :=
 (.reg [0,2,4] [I 4 (.onil 7)])
def ZTt:PC :=
 (.reg [2,4,17,18,19] [I 16 (.mv (.s 0)),I 17 (C ZBd [(.s 16)]),I 18 (.len 1 (.s 17)),I 19 (.mv (V 0))])
def ZTu:PC :=
 (.reg [2,4,17,18,19,20] [I 20 (.bin .lss (.s 19) (.s 18))])
def ZTv:PC :=
 (.reg [2,4,6,17,18,19] [I 21 (.ixS 1 (.s 17) (.s 19)),I 22 (.ld false 1 (.s 21)),I 6 (.mv (.s 22))])
def ZTw:PC :=
 (.reg [2,4,17,18,19] [I 23 (.mv (.s 4)),I 24 (.mv (.s 6)),I 25 (.build [(.int .u64 0),(.int .i64 0),(.int .i64 0),(.int .i64 0),(.int .i64 0),(.str []),.nils] [(5,1,(.s 24))]),I 26 (.bslice false 7 [ZT] [(0,(.s 25))]),I 27 (.app 7 80 (.s 23) (.s 26)),I 4 (.mv (.s 27))])
def ZTx:PC :=
 (.reg [2,4,17,18,19] [I 28 (.bin .add (.s 19) (V 1)),I 19 (.mv (.s 28))])
def ZTy:PC :=
 (.seq ZTu
 (.seq (.ite (.s 20)
 .skip
 (.exit 0))
 (.seq (.block 1
 (.seq ZTv
 ZTw))
 ZTx)))
def ZPl:PC :=
 (.reg [2,4,31] [I 29 (.mv (.s 4)),I 30 (.len 1 (.s 29)),I 31 (.bin .gtr (.s 30) (V 1))])
def ZPm:PC :=
 (.reg [2,4,7,8] [I 33 (.mv (.s 4)),I 34 (.len 1 (.s 33)),I 35 (C ZEM [(.s 34),(V 4)]),I 32 (.mv (.s 35)),I 36 (.ext (.s 32) 0),I 37 (.ext (.s 32) 1),I 7 (.mv (.s 36)),I 8 (.mv (.s 37))])
def ZPn:PC :=
 (.reg [2,4,7,8,39] [I 38 (.mv (.s 8)),I 39 (.bin .neq (.s 38) (V 0))])
def ZPo:PC :=
 (.reg [2,3] [I 40 (.build [(.int .u64 0),(.int .i64 0),(.int .i64 0),(.int .i64 0),(.int .i64 0),(.str []),.nils] []),I 41 (.mv (.s 8)),J (.st 7 (.s 2) (.s 40)),I 3 (.mv (.s 41))])
def ZPp:PC :=
 (.reg [2,4,7,9] [I 9 (.onil 7)])
def ZPq:PC :=
 (.reg [2,4,9,42,43,44] [I 42 (.mv (.s 7)),I 43 (.len 1 (.s 42)),I 44 (.mv (V 0))])
def ZPr:PC :=
 (.reg [2,4,9,42,43,44,45] [I 45 (.bin .lss (.s 44) (.s 43))])
def ZPs:PC :=
 (.reg [2,4,9,11,42,43,44] [I 46 (.ixS 1 (.s 42) (.s 44)),I 47 (.ld false 1 (.s 46)),I 11 (.mv (.s 47))])
def ZPt:PC :=
 (.reg [2,4,9,11,42,43,44] [I 48 (.mv (.s 9)),I 49 (.mv (.s 4)),I 50 (.mv (.s 11)),I 51 (.slc 7 (.s 49) none (some (.s 50))),I 52 (C QH [(.s 51)]),I 53 (.bslice false 7 [ZT] [(0,(.s 52))]),I 54 (.app 7 80 (.s 48) (.s 53)),I 9 (.mv (.s 54))])
def ZPu:PC :=
 (.reg [2,4,9,42,43,44] [I 55 (.mv (.s 4)),I 56 (.mv (.s 11)),I 57 (.slc 7 (.s 55) (some (.s 56)) none),I 4 (.mv (.s 57))])
def ZPv:PC :=
 (.reg [2,4,9,42,43,44] [I 58 (.bin .add (.s 44) (V 1)),I 44 (.mv (.s 58))])
def ZPw:PC :=
 (.seq ZPr
 (.seq (.ite (.s 45)
 .skip
 (.exit 4))
 (.seq (.block 5
 (.seq ZPs
 (.seq ZPt
 ZPu)))
 ZPv)))
def ZPx:PC :=
 (.reg [2,4] [I 59 (.mv (.s 9)),I 4 (.mv (.s 59))])
def ZFZ:PC :=
 (.seq (.seq ZPl
 (.ite (.s 31)
 .skip
 (.exit 2)))
 (.block 3
 (.seq ZPm
 (.seq (.seq ZPn
 (.ite (.s 39)
 (.seq ZPo
 .ret)
 .skip))
 (.seq ZPp
 (.seq (.seq ZPq
 (.block 4
 (.loop ZPw)))
 ZPx))))))
def ZFa:PC :=
 (.reg [2,3] [I 60 (.mv (.s 4)),I 61 (C QH [(.s 60)]),J (.st 7 (.s 2) (.s 61)),I 3 (.mv (V 0))])
def ZKW:PF:=⟨false,
 (.seq ZTp
 (.seq (.seq ZTq
 (.ite (.s 14)
 (.seq ZTr
 .ret)
 .skip))
 (.seq ZTs
 (.seq (.seq ZTt
 (.block 0
 (.loop ZTy)))
 (.seq (.block 2
 (.loop ZFZ))
 (.seq ZFa
 .ret)))))),
 [.c 2 true 7,.s 3]⟩
theorem Za6:Zr Go.Proofs.Try.prog false Za5 Go.Proofs.Try.f53=some ZKW:=by kernel_rfl
def ZH1:List Hint:=[H [0],H [0,5],H [2,3],⟨[2,3],[],[(4,.pure)],[],[],[]⟩]
def ZFz:PC :=
 (.reg [0] [I 2 (.mv (.v .nils)),I 3 (.mv (.v .nils))])
def ZF0:PC :=
 (.reg [0,5] [I 4 (.mv (.s 0)),I 5 (.eqs false 3 [] (.s 4) (.v .nilptr))])
def ZF1:PC :=
 (.reg [2,3] [I 2 (.mv (.v .nils)),I 3 (.mv (.v .nils))])
def ZF2:PC :=
 (.reg [2,3] [I 6 (.mv (.s 0)),I 7 (.nilck (.s 6)),I 8 (.fadr 1 (.s 7)),I 9 (.ld false 1 (.s 8)),I 10 (.call .pure (.v (.func (.func Jo) [] [])) [(.s 9)]),I 11 (.mv (.s 0)),I 12 (.nilck (.s 11)),I 13 (.fadr 1 (.s 12)),I 14 (.ld false 1 (.s 13)),I 15 (C Q3 [(.s 14)]),I 2 (.mv (.s 10)),I 3 (.mv (.s 15))])
def ZAx:PF:=⟨false,
 (.seq ZFz
 (.seq (.seq ZF0
 (.ite (.s 5)
 (.seq ZF1
 .ret)
 .skip))
 (.seq ZF2
 .ret))),
 [.s 2,.s 3]⟩
theorem ZH2:Zr Go.Proofs.Try.prog false ZH1 Go.Proofs.Try.f55=some ZAx:=by kernel_rfl
def Zc7:List Hint:=[H [0,3],H [0,3,13],H [4],H [0,3,5],H [0,3,5,16,17,18],H [0,3,5,16,17,18,19],H [0,3,5,7,16,17,18],H [0,3,5,7,16,17,18,24],H [4],H [0,3,5,16,17,18],H [0,3,5,16,17,18],H [0,3,29,30,31],H [0,3,29,30,31,32],H [0,3,9,29,30,31],H [0,3,29,30,31,38],H [4],H [0,3,29,30,31],H [0,3,10],H [0,3,10,45],H [0,3,10,11],H [0,3,10,11,56],H [4],H [0,3,10],H [4]]
def ZXE:PC :=
 (.reg [0,3] [I 3 (.box (.s 1)),I 4 (.mv (V 0))])
def ZXF:PC :=
 (.reg [0,3,13] [I 12 (.mv (.s 0)),I 13 (.eqs false 3 [] (.s 12) (.v .nilptr))])
def ZXG:PC :=
 (.reg [4] [I 4 (.mv (V 1))])
def ZXH:PC :=
 (.reg [0,3,5] [I 14 (.mkmap),I 5 (.mv (.s 14))])
def ZXI:PC :=
 (.reg [0,3,5,16,17,18] [I 15 (.fadr 5 (.s 3)),I 16 (.ld false 1 (.s 15)),I 17 (.len 1 (.s 16)),I 18 (.mv (V 0))])
def ZXJ:PC :=
 (.reg [0,3,5,16,17,18,19] [I 19 (.bin .lss (.s 18) (.s 17))])
def ZXK:PC :=
 (.reg [0,3,5,7,16,17,18] [I 20 (.ixS 1 (.s 16) (.s 18)),I 21 (.ld false 1 (.s 20)),I 7 (.mv (.s 21))])
def ZXL:PC :=
 (.reg [0,3,5,7,16,17,18,24] [I 22 (.mv (.s 5)),I 23 (.mv (.s 7)),I 24 (.look 0 (.bool false) false (.s 22) (.s 23))])
def ZXM:PC :=
 (.reg [4] [I 4 (.mv (V 9))])
def ZXN:PC :=
 (.reg [0,3,5,16,17,18] [I 25 (.mv (.s 5)),I 26 (.mv (.s 7)),J (.mupd 0 (.s 25) (.s 26) (.v (.bool true)))])
def ZTz:PC :=
 (.reg [0,3,5,16,17,18] [I 27 (.bin .add (.s 18) (V 1)),I 18 (.mv (.s 27))])
def ZT0:PC :=
 (.seq ZXJ
 (.seq (.ite (.s 19)
 .skip
 (.exit 0))
 (.seq (.block 1
 (.seq ZXK
 (.seq (.seq ZXL
 (.ite (.s 24)
 (.seq ZXM
 .ret)
 .skip))
 ZXN)))
 ZTz)))
def ZT1:PC :=
 (.reg [0,3,29,30,31] [I 28 (.fadr 5 (.s 3)),I 29 (.ld false 1 (.s 28)),I 30 (.len 1 (.s 29)),I 31 (.mv (V 0))])
def ZT2:PC :=
 (.reg [0,3,29,30,31,32] [I 32 (.bin .lss (.s 31) (.s 30))])
def ZT3:PC :=
 (.reg [0,3,9,29,30,31] [I 33 (.ixS 1 (.s 29) (.s 31)),I 34 (.ld false 1 (.s 33)),I 9 (.mv (.s 34))])
def ZT4:PC :=
 (.reg [0,3,29,30,31,38] [I 35 (.mv (.s 0)),I 36 (.mv (.s 9)),I 37 (C XL [(.s 35),(.s 36)]),I 38 (.un .not (.s 37))])
def ZT5:PC :=
 (.reg [4] [I 4 (.mv (V 10))])
def ZT6:PC :=
 (.reg [0,3,29,30,31] [I 39 (.bin .add (.s 31) (V 1)),I 31 (.mv (.s 39))])
def ZT7:PC :=
 (.seq ZT2
 (.seq (.ite (.s 32)
 .skip
 (.exit 2))
 (.seq (.block 3
 (.seq ZT3
 (.seq ZT4
 (.ite (.s 38)
 (.seq ZT5
 .ret)
 .skip))))
 ZT6)))
def ZT8:PC :=
 (.reg [0,3,10] [I 40 (.fadr 5 (.s 3)),I 41 (.ld false 1 (.s 40)),I 42 (.len 1 (.s 41)),I 43 (.bin .sub (.s 42) (V 1)),I 10 (.mv (.s 43))])
def ZT9:PC :=
 (.reg [0,3,10,45] [I 44 (.mv (.s 10)),I 45 (.bin .geq (.s 44) (V 0))])
def ZUA:PC :=
 (.reg [0,3,10,11] [I 48 (.mv (.s 0)),I 49 (.fadr 5 (.s 3)),I 50 (.ld false 1 (.s 49)),I 51 (.mv (.s 10)),I 52 (.ixS 1 (.s 50) (.s 51)),I 53 (.ld false 1 (.s 52)),I 54 (C XN [(.s 48),(.s 53)]),I 11 (.mv (.s 54))])
def ZUB:PC :=
 (.reg [0,3,10,11,56] [I 55 (.mv (.s 11)),I 56 (.bin .neq (.s 55) (V 0))])
def ZUC:PC :=
 (.reg [4] [I 57 (.mv (.s 11)),I 4 (.mv (.s 57))])
def ZUD:PC :=
 (.reg [0,3,10] [I 46 (.mv (.s 10)),I 47 (.bin .sub (.s 46) (V 1)),I 10 (.mv (.s 47))])
def ZUE:PC :=
 (.seq (.seq ZT9
 (.ite (.s 45)
 .skip
 (.exit 4)))
 (.seq (.block 5
 (.seq ZUA
 (.seq ZUB
 (.ite (.s 56)
 (.seq ZUC
 .ret)
 .skip))))
 ZUD))
def ZUF:PC :=
 (.reg [4] [I 4 (.mv (V 0))])
def ZO5:PF:=⟨false,
 (.seq ZXE
 (.seq (.seq ZXF
 (.ite (.s 13)
 (.seq ZXG
 .ret)
 .skip))
 (.seq ZXH
 (.seq (.seq ZXI
 (.block 0
 (.loop ZT0)))
 (.seq (.seq ZT1
 (.block 2
 (.loop ZT7)))
 (.seq (.seq ZT8
 (.block 4
 (.loop ZUE)))
 (.seq ZUF
 .ret))))))),
 [.s 4]⟩
theorem Zc8:Zr Go.Proofs.Try.prog false Zc7 Go.Proofs.Try.f56=some ZO5:=by kernel_rfl
def ZF3:List Hint:=[H [0,1],H [0,1,10],H [4],H [0,1,5],H [0,1,5,14],H [0,1,5,25],H [4],H [0,1,5],H [4]]
def ZDP:PC :=
 (.reg [0,1] [I 4 (.mv (.v (.bool false)))])
def ZDQ:PC :=
 (.reg [0,1,10] [I 6 (.mv (.s 0)),I 7 (.len 1 (.s 6)),I 8 (.mv (.s 1)),I 9 (.len 1 (.s 8)),I 10 (.bin .neq (.s 7) (.s 9))])
def ZDR:PC :=
 (.reg [4] [I 4 (.mv (.v (.bool false)))])
def ZDS:PC :=
 (.reg [0,1,5] [I 5 (.mv (V 0))])
def ZDT:PC :=
 (.reg [0,1,5,14] [I 11 (.mv (.s 5)),I 12 (.mv (.s 0)),I 13 (.len 1 (.s 12)),I 14 (.bin .lss (.s 11) (.s 13))])
def ZDU:PC :=
 (.reg [0,1,5,25] [I 17 (.mv (.s 0)),I 18 (.mv (.s 5)),I 19 (.ixS 1 (.s 17) (.s 18)),I 20 (.ld false 1 (.s 19)),I 21 (.mv (.s 1)),I 22 (.mv (.s 5)),I 23 (.ixS 1 (.s 21) (.s 22)),I 24 (.ld false 1 (.s 23)),I 25 (.bin .neq (.s 20) (.s 24))])
def ZDV:PC :=
 (.reg [4] [I 4 (.mv (.v (.bool false)))])
def ZDW:PC :=
 (.reg [0,1,5] [I 15 (.mv (.s 5)),I 16 (.bin .add (.s 15) (V 1)),I 5 (.mv (.s 16))])
def ZDX:PC :=
 (.seq (.seq ZDT
 (.ite (.s 14)
 .skip
 (.exit 0)))
 (.seq (.block 1
 (.seq ZDU
 (.ite (.s 25)
 (.seq ZDV
 .ret)
 .skip)))
 ZDW))
def ZDY:PC :=
 (.reg [4] [I 4 (.mv (.v (.bool true)))])
def X6:PF:=⟨false,
 (.seq ZDP
 (.seq (.seq ZDQ
 (.ite (.s 10)
 (.seq ZDR
 .ret)
 .skip))
 (.seq (.seq ZDS
 (.block 0
 (.loop ZDX)))
 (.seq ZDY
 .ret)))),
 [.s 4]⟩
theorem ZF4:Zr Go.Proofs.Try.prog false ZF3 Go.Proofs.Try.f57=some X6:=by kernel_rfl
def Zc9:List Hint:=[H [0,3,4],H [0,3,4,8],H [4,5],H [0,3,4,12],H [4,5],H [0,3,4,16],H [4,5],H [3,4,6],H [3,4,6,27],H [4,5],H [4,5]]
def ZXO:PC :=
 (.reg [0,3,4] [I 3 (.box (.s 1)),I 4 (.box (.v ZT)),I 5 (.mv (V 0))])
def ZXP:PC :=
 (.reg [0,3,4,8] [I 7 (.mv (.s 0)),I 8 (.eqs false 3 [] (.s 7) (.v .nilptr))])
def ZXQ:PC :=
 (.reg [4,5] [I 9 (.build [(.int .u64 0),(.int .i64 0),(.int .i64 0),(.int .i64 0),(.int .i64 0),(.str []),.nils] []),J (.st 7 (.s 4) (.s 9)),I 5 (.mv (V 1))])
def ZXR:PC :=
 (.reg [0,3,4,12] [I 10 (.ld true 5 (.s 3)),I 11 (.build [(.int .u64 0),(.int .i64 0),(.int .i64 0),(.int .i64 0),(.int .i64 0)] []),I 12 (.eqs false 0 [(0,0),(1,0),(2,0),(3,0),(4,0)] (.s 10) (.s 11))])
def ZXS:PC :=
 (.reg [4,5] [I 13 (.build [(.int .u64 0),(.int .i64 0),(.int .i64 0),(.int .i64 0),(.int .i64 0),(.str []),.nils] []),J (.st 7 (.s 4) (.s 13)),I 5 (.mv (V 0))])
def ZXT:PC :=
 (.reg [0,3,4,16] [I 14 (.fadr 0 (.s 3)),I 15 (.ld false 1 (.s 14)),I 16 (.bin .eql (.s 15) (.v (.int .u64 0)))])
def ZXU:PC :=
 (.reg [4,5] [I 17 (.build [(.int .u64 0),(.int .i64 0),(.int .i64 0),(.int .i64 0),(.int .i64 0),(.str []),.nils] []),J (.st 7 (.s 4) (.s 17)),I 5 (.mv (V 2))])
def ZXV:PC :=
 (.reg [3,4,6] [I 18 (.mv (.s 0)),I 19 (.fadr 0 (.s 3)),I 20 (.ld false 1 (.s 19)),I 21 (.fadr 1 (.s 3)),I 22 (.ld false 1 (.s 21)),I 23 (.fadr 2 (.s 3)),I 24 (.ld true 3 (.s 23)),I 25 (C ZCa [(.s 18),(.s 20),(.s 22),(.s 24)]),I 6 (.mv (.s 25))])
def ZXW:PC :=
 (.reg [3,4,6,27] [I 26 (.mv (.s 6)),I 27 (.bin .neq (.s 26) (V 0))])
def ZXX:PC :=
 (.reg [4,5] [I 28 (.build [(.int .u64 0),(.int .i64 0),(.int .i64 0),(.int .i64 0),(.int .i64 0),(.str []),.nils] []),I 29 (.mv (.s 6)),J (.st 7 (.s 4) (.s 28)),I 5 (.mv (.s 29))])
def ZUG:PC :=
 (.reg [4,5] [I 30 (.fadr 0 (.s 3)),I 31 (.ld false 1 (.s 30)),I 32 (.fadr 1 (.s 3)),I 33 (.ld false 1 (.s 32)),I 34 (.fadr 2 (.s 3)),I 35 (.ld true 3 (.s 34)),I 36 (.build [(.int .u64 0),(.int .i64 0),(.int .i64 0),(.int .i64 0),(.int .i64 0),(.str []),.nils] [(0,1,(.s 31)),(1,1,(.s 33)),(2,3,(.s 35))]),J (.st 7 (.s 4) (.s 36)),I 5 (.mv (V 0))])
def ZO6:PF:=⟨false,
 (.seq ZXO
 (.seq (.seq ZXP
 (.ite (.s 8)
 (.seq ZXQ
 .ret)
 .skip))
 (.seq (.seq ZXR
 (.ite (.s 12)
 (.seq ZXS
 .ret)
 .skip))
 (.seq (.seq ZXT
 (.ite (.s 16)
 (.seq ZXU
 .ret)
 .skip))
 (.seq (.seq ZXV
 (.seq ZXW
 (.ite (.s 27)
 (.seq ZXX
 .ret)
 .skip)))
 (.seq ZUG
 .ret)))))),
 [.c 4 true 7,.s 5]⟩
theorem ZdA:Zr Go.Proofs.Try.prog false Zc9 Go.Proofs.Try.f59=some ZO6:=by kernel_rfl
def ZUH:List Hint:=[H [0,2,3,4,6,10],H [0,2,3,4,6,10,12],H [0,2,3,4,6,10,12,24],H [10,11],H [0,2,3,4,6,10,13],H [0,2,3,4,6,10,13,46],H [10,11],H [0,2,3,4,6,10,60],H [10,11],H [0,2,3,4,6,10,67],H [10,11],H [0,3,4,10,14,15,16],H [0,3,4,10,14,15,16,79],H [10,11],H [0,4,10,14,16,18],H [0,4,10,14,16,18,91],H [10,11],H [0,10,14,16,18,19],H [0,10,14,16,18,19,100],H [10,11],H [0,10,14,16,18],H [0,10,14,16,18,111],H [10,11],H [10,14,16],H [10,11]]
def ZMe:PC :=
 (.reg [0,2,3,4,6,10] [I 6 (.box (.s 1)),I 10 (.box (.v ZT)),I 11 (.mv (V 0))])
def ZMf:PC :=
 (.reg [0,2,3,4,6,10,12] [I 20 (.mv (.s 0)),I 21 (.ld true 7 (.s 6)),I 22 (C YK [(.s 20),(.s 21)]),I 12 (.mv (.s 22))])
def ZMg:PC :=
 (.reg [0,2,3,4,6,10,12,24] [I 23 (.mv (.s 12)),I 24 (.bin .neq (.s 23) (V 0))])
def ZMh:PC :=
 (.reg [10,11] [I 25 (.build [(.int .u64 0),(.int .i64 0),(.int .i64 0),(.int .i64 0),(.int .i64 0),(.str []),.nils] []),I 26 (.mv (.s 12)),J (.st 7 (.s 10) (.s 25)),I 11 (.mv (.s 26))])
def ZMi:PC :=
 (.reg [0,2,3,4,6,10,13] [I 27 (.ld true 7 (.s 6)),I 28 (C Qg [(.s 27)]),I 13 (.mv (.s 28))])
def ZMj:PC :=
 (.reg [0,2,3,4,6,10,13,46] [I 29 (.mv (.s 2)),I 30 (.bin .lss (.s 29) (V 0)),I 31 (.mv (.s 30)),G 32 31 false (.mv (.s 2)),G 33 31 false (.mv (.s 13)),G 34 31 false (.bin .gtr (.s 32) (.s 33)),I 35 (.pick (.s 31) (.v (.bool true)) (.s 34)),I 36 (.mv (.s 35)),G 37 36 false (.mv (.s 3)),G 38 36 false (.bin .lss (.s 37) (V 0)),I 39 (.pick (.s 36) (.v (.bool true)) (.s 38)),I 40 (.mv (.s 39)),G 41 40 false (.mv (.s 3)),G 42 40 false (.mv (.s 13)),G 43 40 false (.mv (.s 2)),G 44 40 false (.bin .sub (.s 42) (.s 43)),G 45 40 false (.bin .gtr (.s 41) (.s 44)),I 46 (.pick (.s 40) (.v (.bool true)) (.s 45))])
def ZMk:PC :=
 (.reg [10,11] [I 47 (.build [(.int .u64 0),(.int .i64 0),(.int .i64 0),(.int .i64 0),(.int .i64 0),(.str []),.nils] []),J (.st 7 (.s 10) (.s 47)),I 11 (.mv (V 3))])
def ZMl:PC :=
 (.reg [0,2,3,4,6,10,60] [I 48 (.mv (.s 13)),I 49 (.mv (.s 3)),I 50 (.bin .sub (.s 48) (.s 49)),I 51 (.mv (.s 4)),I 52 (.len 0 (.s 51)),I 53 (.mnx false (.s 52) (V 65536)),I 54 (.bin .sub (V 65536) (.s 53)),I 55 (.bin .gtr (.s 50) (.s 54)),I 56 (.mv (.s 55)),G 57 56 false (.mv (.s 4)),G 58 56 false (.len 0 (.s 57)),G 59 56 false (.bin .gtr (.s 58) (V 65536)),I 60 (.pick (.s 56) (.v (.bool true)) (.s 59))])
def ZMm:PC :=
 (.reg [10,11] [I 61 (.build [(.int .u64 0),(.int .i64 0),(.int .i64 0),(.int .i64 0),(.int .i64 0),(.str []),.nils] []),J (.st 7 (.s 10) (.s 61)),I 11 (.mv (V 5))])
def ZMn:PC :=
 (.reg [0,2,3,4,6,10,67] [I 62 (.mv (.s 3)),I 63 (.bin .eql (.s 62) (V 0)),I 64 (.mv (.s 63)),G 65 64 true (.mv (.s 4)),G 66 64 true (.bin .eql (.s 65) (.v (.str []))),I 67 (.pick (.s 64) (.s 66) (.v (.bool false)))])
def ZKX:PC :=
 (.reg [10,11] [I 68 (.ld true 7 (.s 6)),I 69 (C ZBe [(.s 68)]),J (.st 7 (.s 10) (.s 69)),I 11 (.mv (V 0))])
def ZKY:PC :=
 (.reg [0,3,4,10,14,15,16] [I 71 (.mv (.s 0)),I 72 (.ld true 7 (.s 6)),I 73 (.mv (.s 2)),I 74 (C ZAM [(.s 71),(.s 72),(.s 73)]),I 70 (.mv (.s 74)),I 75 (.ext (.s 70) 0),I 76 (.ext (.s 70) 1),I 77 (.ext (.s 70) 2),I 14 (.box (.v ZT)),I 15 (.box (.v ZT)),J (.st 7 (.s 14) (.s 75)),J (.st 7 (.s 15) (.s 76)),I 16 (.mv (.s 77))])
def ZKZ:PC :=
 (.reg [0,3,4,10,14,15,16,79] [I 78 (.mv (.s 16)),I 79 (.bin .neq (.s 78) (V 0))])
def ZKa:PC :=
 (.reg [10,11] [I 80 (.build [(.int .u64 0),(.int .i64 0),(.int .i64 0),(.int .i64 0),(.int .i64 0),(.str []),.nils] []),I 81 (.mv (.s 16)),J (.st 7 (.s 10) (.s 80)),I 11 (.mv (.s 81))])
def ZKb:PC :=
 (.reg [0,4,10,14,16,18] [I 83 (.mv (.s 0)),I 84 (.ld true 7 (.s 15)),I 85 (.mv (.s 3)),I 86 (C ZAM [(.s 83),(.s 84),(.s 85)]),I 82 (.mv (.s 86)),I 87 (.ext (.s 82) 0),I 88 (.ext (.s 82) 1),I 89 (.ext (.s 82) 2),I 17 (.box (.v ZT)),I 18 (.box (.v ZT)),J (.st 7 (.s 17) (.s 87)),J (.st 7 (.s 18) (.s 88)),I 16 (.mv (.s 89))])
def ZKc:PC :=
 (.reg [0,4,10,14,16,18,91] [I 90 (.mv (.s 16)),I 91 (.bin .neq (.s 90) (V 0))])
def ZKd:PC :=
 (.reg [10,11] [I 92 (.build [(.int .u64 0),(.int .i64 0),(.int .i64 0),(.int .i64 0),(.int .i64 0),(.str []),.nils] []),I 93 (.mv (.s 16)),J (.st 7 (.s 10) (.s 92)),I 11 (.mv (.s 93))])
def ZKe:PC :=
 (.reg [0,10,14,16,18,19] [I 95 (.mv (.s 4)),I 96 (C ZA7 [(.s 95)]),I 94 (.mv (.s 96)),I 97 (.ext (.s 94) 0),I 98 (.ext (.s 94) 1),I 19 (.box (.v ZT)),J (.st 7 (.s 19) (.s 97)),I 16 (.mv (.s 98))])
def ZKf:PC :=
 (.reg [0,10,14,16,18,19,100] [I 99 (.mv (.s 16)),I 100 (.bin .neq (.s 99) (V 0))])
def ZKg:PC :=
 (.reg [10,11] [I 101 (.build [(.int .u64 0),(.int .i64 0),(.int .i64 0),(.int .i64 0),(.int .i64 0),(.str []),.nils] []),I 102 (.mv (.s 16)),J (.st 7 (.s 10) (.s 101)),I 11 (.mv (.s 102))])
def ZKh:PC :=
 (.reg [0,10,14,16,18] [I 104 (.mv (.s 0)),I 105 (.ld true 7 (.s 14)),I 106 (.ld true 7 (.s 19)),I 107 (C YT [(.s 104),(.s 105),(.s 106)]),I 103 (.mv (.s 107)),I 108 (.ext (.s 103) 0),I 109 (.ext (.s 103) 1),J (.st 7 (.s 14) (.s 108)),I 16 (.mv (.s 109))])
def ZKi:PC :=
 (.reg [0,10,14,16,18,111] [I 110 (.mv (.s 16)),I 111 (.bin .neq (.s 110) (V 0))])
def ZKj:PC :=
 (.reg [10,11] [I 112 (.build [(.int .u64 0),(.int .i64 0),(.int .i64 0),(.int .i64 0),(.int .i64 0),(.str []),.nils] []),I 113 (.mv (.s 16)),J (.st 7 (.s 10) (.s 112)),I 11 (.mv (.s 113))])
def ZKk:PC :=
 (.reg [10,14,16] [I 115 (.mv (.s 0)),I 116 (.ld true 7 (.s 14)),I 117 (.ld true 7 (.s 18)),I 118 (C YT [(.s 115),(.s 116),(.s 117)]),I 114 (.mv (.s 118)),I 119 (.ext (.s 114) 0),I 120 (.ext (.s 114) 1),J (.st 7 (.s 14) (.s 119)),I 16 (.mv (.s 120))])
def ZKl:PC :=
 (.reg [10,11] [I 121 (.ld true 7 (.s 14)),I 122 (C ZBe [(.s 121)]),I 123 (.mv (.s 16)),J (.st 7 (.s 10) (.s 122)),I 11 (.mv (.s 123))])
def ZGh:PF:=⟨false,
 (.seq ZMe
 (.seq (.seq ZMf
 (.seq ZMg
 (.ite (.s 24)
 (.seq ZMh
 .ret)
 .skip)))
 (.seq ZMi
 (.seq (.seq ZMj
 (.ite (.s 46)
 (.seq ZMk
 .ret)
 .skip))
 (.seq (.seq ZMl
 (.ite (.s 60)
 (.seq ZMm
 .ret)
 .skip))
 (.seq (.seq ZMn
 (.ite (.s 67)
 (.seq ZKX
 .ret)
 .skip))
 (.seq ZKY
 (.seq (.seq ZKZ
 (.ite (.s 79)
 (.seq ZKa
 .ret)
 .skip))
 (.seq ZKb
 (.seq (.seq ZKc
 (.ite (.s 91)
 (.seq ZKd
 .ret)
 .skip))
 (.seq ZKe
 (.seq (.seq ZKf
 (.ite (.s 100)
 (.seq ZKg
 .ret)
 .skip))
 (.seq (.seq ZKh
 (.seq ZKi
 (.ite (.s 111)
 (.seq ZKj
 .ret)
 .skip)))
 (.seq ZKk
 (.seq ZKl
 .ret))))))))))))))),
 [.c 10 true 7,.s 11]⟩
theorem ZUI:Zr Go.Proofs.Try.prog false ZUH Go.Proofs.Try.f60=some ZGh:=by kernel_rfl
def Za7:List Hint:=[H [0,3],H [0,3,7],H [4],H [0,3,10],H [4],H [3,5],H [3,5,15],H [4],H [19],H [4],H [4]]
def ZUJ:PC :=
 (.reg [0,3] [I 3 (.box (.s 1)),I 4 (.mv (V 0))])
def ZUK:PC :=
 (.reg [0,3,7] [I 6 (.mv (.s 0)),I 7 (.eqs false 3 [] (.s 6) (.v .nilptr))])
def ZUL:PC :=
 (.reg [4] [I 4 (.mv (V 1))])
def ZUM:PC :=
 (.reg [0,3,10] [I 8 (.ld true 7 (.s 3)),I 9 (C Ql [(.s 8)]),I 10 (.bin .eql (.s 9) (V 1))])
def ZUN:PC :=
 (.reg [4] [I 4 (.mv (V 0))])
def ZUO:PC :=
 (.reg [3,5] [I 11 (.mv (.s 0)),I 12 (.ld true 7 (.s 3)),I 13 (C ZA8 [(.s 11),(.s 12),(.v (.bool false)),(V 0)]),I 5 (.mv (.s 13))])
def ZUP:PC :=
 (.reg [3,5,15] [I 14 (.mv (.s 5)),I 15 (.bin .neq (.s 14) (V 0))])
def ZUQ:PC :=
 (.reg [4] [I 16 (.mv (.s 5)),I 4 (.mv (.s 16))])
def ZUR:PC :=
 (.reg [19] [I 17 (.ld true 7 (.s 3)),I 18 (C Qg [(.s 17)]),I 19 (.bin .gtr (.s 18) (V 65536))])
def ZUS:PC :=
 (.reg [4] [I 4 (.mv (V 5))])
def ZPy:PC :=
 (.reg [4] [I 4 (.mv (V 0))])
def ZKm:PF:=⟨false,
 (.seq ZUJ
 (.seq (.seq ZUK
 (.ite (.s 7)
 (.seq ZUL
 .ret)
 .skip))
 (.seq (.seq ZUM
 (.ite (.s 10)
 (.seq ZUN
 .ret)
 .skip))
 (.seq (.seq ZUO
 (.seq ZUP
 (.ite (.s 15)
 (.seq ZUQ
 .ret)
 .skip)))
 (.seq (.seq ZUR
 (.ite (.s 19)
 (.seq ZUS
 .ret)
 .skip))
 (.seq ZPy
 .ret)))))),
 [.s 4]⟩
theorem Za8:Zr Go.Proofs.Try.prog false Za7 Go.Proofs.Try.f61=some ZKm:=by kernel_rfl
def ZdB:List Hint:=[H [0,3],H [0,3,10],H [4,5],H [6,7],H [4,5]]
def ZXY:PC :=
 (.reg [0,3] [I 3 (.box (.s 1)),I 4 (.mv (.v (.str []))),I 5 (.mv (V 0))])
def ZXZ:PC :=
 (.reg [0,3,10] [I 8 (.fadr 0 (.s 3)),I 9 (.ld false 1 (.s 8)),I 10 (.bin .eql (.s 9) (.v (.int .u64 0)))])
def ZXa:PC :=
 (.reg [4,5] [I 11 (.fadr 5 (.s 3)),I 12 (.ld false 1 (.s 11)),I 4 (.mv (.s 12)),I 5 (.mv (V 0))])
def ZXb:PC :=
 (.reg [6,7] [I 14 (.mv (.s 0)),I 15 (.fadr 0 (.s 3)),I 16 (.ld false 1 (.s 15)),I 17 (C QY [(.s 14),(.s 16)]),I 13 (.mv (.s 17)),I 18 (.ext (.s 13) 0),I 19 (.ext (.s 13) 1),I 6 (.box (.v ZN)),J (.st 3 (.s 6) (.s 18)),I 7 (.mv (.s 19))])
def ZXc:PC :=
 (.reg [4,5] [I 20 (.fadr 1 (.s 6)),I 21 (.ld false 1 (.s 20)),I 22 (.mv (.s 7)),I 4 (.mv (.s 21)),I 5 (.mv (.s 22))])
def ZO7:PF:=⟨false,
 (.seq ZXY
 (.seq (.seq ZXZ
 (.ite (.s 10)
 (.seq ZXa
 .ret)
 .skip))
 (.seq ZXb
 (.seq ZXc
 .ret)))),
 [.s 4,.s 5]⟩
theorem ZdC:Zr Go.Proofs.Try.prog false ZdB Go.Proofs.Try.f63=some ZO7:=by kernel_rfl
def ZPz:List Hint:=[H [0,3],H [0,3,13],H [4,5],H [6,7],H [6,7,24],H [4,5],⟨[6,8],[0],[],[],[],[]⟩,H [6,8,27,28,29],H [6,8,27,28,29,30],H [6,8,10,27,28,29],H [6,8,27,28,29],H [6,8,27,28,29],H [8,47],H [4,5],H [4,5]]
def ZKn:PC :=
 (.reg [0,3] [I 3 (.box (.s 1)),I 4 (.mv (.v .nils)),I 5 (.mv (V 0))])
def ZKo:PC :=
 (.reg [0,3,13] [I 11 (.fadr 0 (.s 3)),I 12 (.ld false 1 (.s 11)),I 13 (.bin .eql (.s 12) (.v (.int .u64 0)))])
def ZKp:PC :=
 (.reg [4,5] [I 14 (.fadr 6 (.s 3)),I 15 (.ld false 1 (.s 14)),I 4 (.mv (.s 15)),I 5 (.mv (V 0))])
def ZKq:PC :=
 (.reg [6,7] [I 17 (.mv (.s 0)),I 18 (.fadr 0 (.s 3)),I 19 (.ld false 1 (.s 18)),I 20 (C QY [(.s 17),(.s 19)]),I 16 (.mv (.s 20)),I 21 (.ext (.s 16) 0),I 22 (.ext (.s 16) 1),I 6 (.box (.v ZN)),J (.st 3 (.s 6) (.s 21)),I 7 (.mv (.s 22))])
def ZKr:PC :=
 (.reg [6,7,24] [I 23 (.mv (.s 7)),I 24 (.bin .neq (.s 23) (V 0))])
def ZKs:PC :=
 (.reg [4,5] [I 25 (.mv (.s 7)),I 4 (.mv (.v .nils)),I 5 (.mv (.s 25))])
def ZKt:PC :=
 (.reg [6,8] [I 8 (.onil 7)])
def ZKu:PC :=
 (.reg [6,8,27,28,29] [I 26 (.fadr 2 (.s 6)),I 27 (.ld false 1 (.s 26)),I 28 (.len 1 (.s 27)),I 29 (.mv (V 0))])
def ZKv:PC :=
 (.reg [6,8,27,28,29,30] [I 30 (.bin .lss (.s 29) (.s 28))])
def ZKw:PC :=
 (.reg [6,8,10,27,28,29] [I 31 (.ixS 4 (.s 27) (.s 29)),I 32 (.ld true 4 (.s 31)),I 10 (.box (.v ZK)),J (.st 4 (.s 10) (.s 32))])
def ZIu:PC :=
 (.reg [6,8,27,28,29] [I 33 (.mv (.s 8)),I 34 (.fadr 0 (.s 10)),I 35 (.ld false 1 (.s 34)),I 36 (.fadr 0 (.s 6)),I 37 (.ld false 1 (.s 36)),I 38 (.bin .sub (.s 37) (V 1)),I 39 (.fadr 1 (.s 10)),I 40 (.ld true 3 (.s 39)),I 41 (.build [(.int .u64 0),(.int .i64 0),(.int .i64 0),(.int .i64 0),(.int .i64 0),(.str []),.nils] [(0,1,(.s 35)),(1,1,(.s 38)),(2,3,(.s 40))]),I 42 (.bslice false 7 [ZT] [(0,(.s 41))]),I 43 (.app 7 80 (.s 33) (.s 42)),I 8 (.mv (.s 43))])
def ZIv:PC :=
 (.reg [6,8,27,28,29] [I 44 (.bin .add (.s 29) (V 1)),I 29 (.mv (.s 44))])
def ZBu:PC :=
 (.seq ZKv
 (.seq (.ite (.s 30)
 .skip
 (.exit 0))
 (.seq (.block 1
 (.seq ZKw
 ZIu))
 ZIv)))
def ZIw:PC :=
 (.reg [8,47] [I 45 (.mv (.s 8)),I 46 (.len 1 (.s 45)),I 47 (.bin .eql (.s 46) (V 0))])
def ZIx:PC :=
 (.reg [4,5] [I 4 (.mv (.v .nils)),I 5 (.mv (V 23))])
def ZIy:PC :=
 (.reg [4,5] [I 48 (.mv (.s 8)),I 4 (.mv (.s 48)),I 5 (.mv (V 0))])
def ZFb:PF:=⟨false,
 (.seq ZKn
 (.seq (.seq ZKo
 (.ite (.s 13)
 (.seq ZKp
 .ret)
 .skip))
 (.seq ZKq
 (.seq (.seq ZKr
 (.ite (.s 24)
 (.seq ZKs
 .ret)
 .skip))
 (.seq ZKt
 (.seq (.seq ZKu
 (.block 0
 (.loop ZBu)))
 (.seq (.seq ZIw
 (.ite (.s 47)
 (.seq ZIx
 .ret)
 .skip))
 (.seq ZIy
 .ret)))))))),
 [.s 4,.s 5]⟩
theorem ZP0:Zr Go.Proofs.Try.prog false ZPz Go.Proofs.Try.f64=some ZFb:=by kernel_rfl
def ZdD:List Hint:=[H [1],H [1,3],H [1,3,13],H [2],H [1,3,31],H [2],H [1,3,46],H [2],H [65],H [2],H [2]]
def ZXd:PC :=
 (.reg [1] [I 1 (.box (.s 0)),I 2 (.mv (V 0))])
def ZXe:PC :=
 (.reg [1,3] [I 4 (.fadr 2 (.s 1)),I 5 (.ld true 3 (.s 4)),I 6 (.build [(.int .i64 0),(.int .i64 0),(.int .i64 0)] []),I 7 (.eqs false 0 [(0,0),(1,0),(2,0)] (.s 5) (.s 6)),I 8 (.mv (.s 7)),G 9 8 true (.fadr 0 (.s 1)),G 10 8 true (.ld false 1 (.s 9)),G 11 8 true (.bin .eql (.s 10) (.v (.int .u64 0))),I 12 (.pick (.s 8) (.s 11) (.v (.bool false))),I 3 (.mv (.s 12))])
def ZXf:PC :=
 (.reg [1,3,13] [I 14 (.mv (.s 3)),I 15 (.mv (.s 14)),G 16 15 true (.fadr 1 (.s 1)),G 17 15 true (.ld false 1 (.s 16)),G 18 15 true (.bin .eql (.s 17) (V 0)),I 19 (.pick (.s 15) (.s 18) (.v (.bool false))),I 20 (.mv (.s 19)),G 21 20 true (.fadr 5 (.s 1)),G 22 20 true (.ld false 1 (.s 21)),G 23 20 true (.bin .eql (.s 22) (.v (.str []))),I 24 (.pick (.s 20) (.s 23) (.v (.bool false))),I 25 (.mv (.s 24)),G 26 25 true (.fadr 6 (.s 1)),G 27 25 true (.ld false 1 (.s 26)),G 28 25 true (.len 1 (.s 27)),G 29 25 true (.bin .eql (.s 28) (V 0)),I 30 (.pick (.s 25) (.s 29) (.v (.bool false))),I 13 (.mv (.s 30))])
def ZXg:PC :=
 (.reg [2] [I 2 (.mv (V 1))])
def ZXh:PC :=
 (.reg [1,3,31] [I 32 (.fadr 0 (.s 1)),I 33 (.ld false 1 (.s 32)),I 34 (.bin .neq (.s 33) (.v (.int .u64 0))),I 35 (.mv (.s 34)),G 36 35 true (.fadr 5 (.s 1)),G 37 35 true (.ld false 1 (.s 36)),G 38 35 true (.bin .eql (.s 37) (.v (.str []))),I 39 (.pick (.s 35) (.s 38) (.v (.bool false))),I 40 (.mv (.s 39)),G 41 40 true (.fadr 6 (.s 1)),G 42 40 true (.ld false 1 (.s 41)),G 43 40 true (.len 1 (.s 42)),G 44 40 true (.bin .eql (.s 43) (V 0)),I 45 (.pick (.s 40) (.s 44) (.v (.bool false))),I 31 (.mv (.s 45))])
def ZXi:PC :=
 (.reg [2] [I 2 (.mv (V 2))])
def ZXj:PC :=
 (.reg [1,3,46] [I 47 (.mv (.s 3)),I 48 (.mv (.s 47)),G 49 48 true (.fadr 1 (.s 1)),G 50 48 true (.ld false 1 (.s 49)),G 51 48 true (.bin .eql (.s 50) (V 0)),I 52 (.pick (.s 48) (.s 51) (.v (.bool false))),I 53 (.mv (.s 52)),G 54 53 true (.fadr 6 (.s 1)),G 55 53 true (.ld false 1 (.s 54)),G 56 53 true (.len 1 (.s 55)),G 57 53 true (.bin .eql (.s 56) (V 0)),I 58 (.pick (.s 53) (.s 57) (.v (.bool false))),I 59 (.mv (.s 58)),G 60 59 true (.fadr 5 (.s 1)),G 61 59 true (.ld false 1 (.s 60)),G 62 59 true (.len 0 (.s 61)),G 63 59 true (.bin .leq (.s 62) (V 16)),I 64 (.pick (.s 59) (.s 63) (.v (.bool false))),I 46 (.mv (.s 64))])
def ZXk:PC :=
 (.reg [2] [I 2 (.mv (V 3))])
def ZXl:PC :=
 (.reg [65] [I 66 (.mv (.s 3)),I 67 (.mv (.s 66)),G 68 67 true (.fadr 5 (.s 1)),G 69 67 true (.ld false 1 (.s 68)),G 70 67 true (.bin .eql (.s 69) (.v (.str []))),I 71 (.pick (.s 67) (.s 70) (.v (.bool false))),I 72 (.mv (.s 71)),G 73 72 true (.fadr 1 (.s 1)),G 74 72 true (.ld false 1 (.s 73)),G 75 72 true (.bin .geq (.s 74) (V 1)),I 76 (.pick (.s 72) (.s 75) (.v (.bool false))),I 77 (.mv (.s 76)),G 78 77 true (.fadr 1 (.s 1)),G 79 77 true (.ld false 1 (.s 78)),G 80 77 true (.bin .leq (.s 79) (V 16)),I 81 (.pick (.s 77) (.s 80) (.v (.bool false))),I 82 (.mv (.s 81)),G 83 82 true (.fadr 6 (.s 1)),G 84 82 true (.ld false 1 (.s 83)),G 85 82 true (.len 1 (.s 84)),G 86 82 true (.bin .geq (.s 85) (V 2)),I 87 (.pick (.s 82) (.s 86) (.v (.bool false))),I 88 (.mv (.s 87)),G 89 88 true (.fadr 6 (.s 1)),G 90 88 true (.ld false 1 (.s 89)),G 91 88 true (.len 1 (.s 90)),G 92 88 true (.bin .leq (.s 91) (V 4)),I 93 (.pick (.s 88) (.s 92) (.v (.bool false))),I 65 (.mv (.s 93))])
def ZXm:PC :=
 (.reg [2] [I 2 (.mv (V 4))])
def ZUT:PC :=
 (.reg [2] [I 2 (.mv (V 0))])
def ZO8:PF:=⟨false,
 (.seq ZXd
 (.seq ZXe
 (.seq (.block 0
 (.seq ZXf
 (.ite (.s 13)
 (.seq ZXg
 .ret)
 (.seq ZXh
 (.ite (.s 31)
 (.seq ZXi
 .ret)
 (.seq ZXj
 (.ite (.s 46)
 (.seq ZXk
 .ret)
 (.seq ZXl
 (.ite (.s 65)
 (.seq ZXm
 .ret)
 .skip)))))))))
 (.seq ZUT
 .ret)))),
 [.s 2]⟩
theorem ZdE:Zr Go.Proofs.Try.prog false ZdD Go.Proofs.Try.f65=some ZO8:=by kernel_rfl
def Za9:List Hint:=[H [2,3],H [4]]
def ZUU:PC :=
 (.reg [2,3] [I 2 (.box (.s 0)),I 3 (.box (.s 1)),I 4 (.mv (.v .nilfunc))])
def ZUV:PC :=
 (.reg [4] [I 5 (.mkf (.func JE) [] [(.s 2),(.s 3)]),I 4 (.mv (.s 5))])
def ZKx:PF:=⟨true,
 (.seq ZUU
 (.seq ZUV
 .ret)),
 [.s 4]⟩
theorem ZbA:Zr Go.Proofs.Try.prog true Za9 Go.Proofs.Try.f66=some ZKx:=by kernel_rfl
def ZGi:List Hint:=[H [0,1],H [0,1,8],H [4],H [6],H [4]]
def ZET:PC :=
 (.reg [0,1] [I 4 (.mv (.v (.bool false)))])
def ZEU:PC :=
 (.reg [0,1,8] [I 7 (.mv (.s 0)),I 8 (.eqs false 3 [] (.s 7) (.v .nilptr))])
def ZEV:PC :=
 (.reg [4] [I 4 (.mv (.v (.bool false)))])
def ZEW:PC :=
 (.reg [6] [I 10 (.mv (.s 0)),I 11 (.mv (.s 1)),I 12 (C Jp [(.s 10),(.s 11)]),I 9 (.mv (.s 12)),I 13 (.ext (.s 9) 0),I 14 (.ext (.s 9) 1),I 5 (.mv (.s 13)),I 6 (.mv (.s 14))])
def ZEX:PC :=
 (.reg [4] [I 15 (.mv (.s 6)),I 4 (.mv (.s 15))])
def ZAg:PF:=⟨false,
 (.seq ZET
 (.seq (.seq ZEU
 (.ite (.s 8)
 (.seq ZEV
 .ret)
 .skip))
 (.seq ZEW
 (.seq ZEX
 .ret)))),
 [.s 4]⟩
theorem ZGj:Zr Go.Proofs.Try.prog false ZGi Go.Proofs.Try.f71=some ZAg:=by kernel_rfl
def ZGk:List Hint:=[H [0],H [0,7],H [2],H [0,3],H [3],H [3,4,5],H [3,4,5,25],H [3,4,5],H [3,4,5],H [2]]
def ZEY:PC :=
 (.reg [0] [I 2 (.mv (.v .nils))])
def ZEZ:PC :=
 (.reg [0,7] [I 6 (.mv (.s 0)),I 7 (.eqs false 3 [] (.s 6) (.v .nilptr))])
def ZEa:PC :=
 (.reg [2] [I 2 (.mv (.v .nils))])
def ZEb:PC :=
 (.reg [0,3] [I 8 (.mv (.s 0)),I 9 (.nilck (.s 8)),I 10 (.fadr 0 (.s 9)),I 11 (.ld false 1 (.s 10)),I 12 (.len 1 (.s 11)),I 13 (.mkslice 1 8 (.int .i64 0) (.s 12) (.s 12)),I 3 (.mv (.s 13))])
def ZEc:PC :=
 (.reg [3] [I 14 (.mv (.s 3)),I 15 (.mv (.s 0)),I 16 (.nilck (.s 15)),I 17 (.fadr 0 (.s 16)),I 18 (.ld false 1 (.s 17)),I 19 (.cpy 1 (.s 14) (.s 18))])
def ZEd:PC :=
 (.reg [3,4,5] [I 20 (.mv (.s 3)),I 21 (.len 1 (.s 20)),I 22 (.bin .sub (.s 21) (V 1)),I 4 (.mv (V 0)),I 5 (.mv (.s 22))])
def ZEe:PC :=
 (.reg [3,4,5,25] [I 23 (.mv (.s 4)),I 24 (.mv (.s 5)),I 25 (.bin .lss (.s 23) (.s 24))])
def ZEf:PC :=
 (.reg [3,4,5] [I 30 (.mv (.s 3)),I 31 (.mv (.s 4)),I 32 (.mv (.s 3)),I 33 (.mv (.s 5)),I 34 (.mv (.s 3)),I 35 (.mv (.s 5)),I 36 (.ixS 1 (.s 34) (.s 35)),I 37 (.ld false 1 (.s 36)),I 38 (.mv (.s 3)),I 39 (.mv (.s 4)),I 40 (.ixS 1 (.s 38) (.s 39)),I 41 (.ld false 1 (.s 40)),I 42 (.ixS 1 (.s 30) (.s 31)),J (.st 1 (.s 42) (.s 37)),I 43 (.ixS 1 (.s 32) (.s 33)),J (.st 1 (.s 43) (.s 41))])
def ZEg:PC :=
 (.reg [3,4,5] [I 26 (.mv (.s 4)),I 27 (.bin .add (.s 26) (V 1)),I 28 (.mv (.s 5)),I 29 (.bin .sub (.s 28) (V 1)),I 4 (.mv (.s 27)),I 5 (.mv (.s 29))])
def ZEh:PC :=
 (.seq (.seq ZEe
 (.ite (.s 25)
 .skip
 (.exit 0)))
 (.seq (.block 1
 ZEf)
 ZEg))
def ZDZ:PC :=
 (.reg [2] [I 44 (.mv (.s 3)),I 2 (.mv (.s 44))])
def ZAh:PF:=⟨false,
 (.seq ZEY
 (.seq (.seq ZEZ
 (.ite (.s 7)
 (.seq ZEa
 .ret)
 .skip))
 (.seq ZEb
 (.seq ZEc
 (.seq (.seq ZEd
 (.block 0
 (.loop ZEh)))
 (.seq ZDZ
 .ret)))))),
 [.s 2]⟩
theorem ZGl:Zr Go.Proofs.Try.prog false ZGk Go.Proofs.Try.f72=some ZAh:=by kernel_rfl
def ZCH:List Hint:=[H [0],H [2]]
def ZBA:PC :=
 (.reg [0] [I 2 (.mv (.v .nils))])
def ZBB:PC :=
 (.reg [2] [I 3 (.mv (.s 0)),I 4 (C Jg [(.s 3),(.v (.int .u8 2))]),I 2 (.mv (.s 4))])
def Yx:PF:=⟨false,
 (.seq ZBA
 (.seq ZBB
 .ret)),
 [.s 2]⟩
theorem ZCI:Zr Go.Proofs.Try.prog false ZCH Go.Proofs.Try.f73=some Yx:=by kernel_rfl
def ZIz:List Hint:=[H [0,1],H [0,1,8],H [4],H [0,1,6],H [0,1,6,19],H [6],H [4],H [0],H [],H [4]]
def ZGm:PC :=
 (.reg [0,1] [I 4 (.mv (V 0))])
def ZGn:PC :=
 (.reg [0,1,8] [I 7 (.mv (.s 0)),I 8 (.eqs false 3 [] (.s 7) (.v .nilptr))])
def ZGo:PC :=
 (.reg [4] [I 4 (.mv (V 1))])
def ZGp:PC :=
 (.reg [0,1,6] [I 10 (.mv (.s 0)),I 11 (.nilck (.s 10)),I 12 (.fadr 1 (.s 11)),I 13 (.ld false 1 (.s 12)),I 14 (.mv (.s 1)),I 15 (C Jq [(.s 13),(.s 14)]),I 9 (.mv (.s 15)),I 16 (.ext (.s 9) 0),I 17 (.ext (.s 9) 1),I 5 (.mv (.s 16)),I 6 (.mv (.s 17))])
def ZGq:PC :=
 (.reg [0,1,6,19] [I 18 (.mv (.s 6)),I 19 (.bin .neq (.s 18) (V 0))])
def ZGr:PC :=
 (.reg [6] [I 20 (.mv (.s 0)),I 21 (.nilck (.s 20)),I 22 (.fadr 5 (.s 21)),I 23 (.ld false 1 (.s 22)),I 24 (.bin .add (.s 23) (V 1)),I 25 (.nilck (.s 20)),I 26 (.fadr 5 (.s 25)),J (.st 1 (.s 26) (.s 24))])
def ZGs:PC :=
 (.reg [4] [I 27 (.mv (.s 6)),I 4 (.mv (.s 27))])
def ZGt:PC :=
 (.reg [0] [I 28 (.mv (.s 0)),I 29 (.nilck (.s 28)),I 30 (.fadr 2 (.s 29)),I 31 (.ld false 1 (.s 30)),I 32 (.mv (.s 1)),J (.mdel 0 (.s 31) (.s 32))])
def ZGu:PC :=
 (.reg [] [I 33 (.mv (.s 0)),I 34 (.nilck (.s 33)),I 35 (.fadr 4 (.s 34)),I 36 (.ld false 1 (.s 35)),I 37 (.bin .add (.s 36) (V 1)),I 38 (.nilck (.s 33)),I 39 (.fadr 4 (.s 38)),J (.st 1 (.s 39) (.s 37))])
def ZGv:PC :=
 (.reg [4] [I 4 (.mv (V 0))])
def ZBv:PF:=⟨false,
 (.seq ZGm
 (.seq (.seq ZGn
 (.ite (.s 8)
 (.seq ZGo
 .ret)
 .skip))
 (.seq (.seq ZGp
 (.seq ZGq
 (.ite (.s 19)
 (.seq ZGr
 (.seq ZGs
 .ret))
 .skip)))
 (.seq ZGt
 (.seq ZGu
 (.seq ZGv
 .ret)))))),
 [.s 4]⟩
theorem ZI0:Zr Go.Proofs.Try.prog false ZIz Go.Proofs.Try.f74=some ZBv:=by kernel_rfl
def ZUW:List Hint:=[H [0,3],H [0,3,5],H [0,3,5,80],H [0,3,5,95],H [0,5,6],H [0,5,6],H [5],⟨[0,3,5,7],[0],[],[],[],[]⟩,H [0,3,5,7,20,21,22],H [0,3,5,7,20,21,22,23],H [0,3,5,7,9,20,21,22],H [0,3,5,7,10,20,21,22],⟨[0,3,5,7,10,20,21,22],[2],[],[],[],[]⟩,H [0,3,5,7,10,20,21,22],H [0,3,5,7,10,20,21,22],H [0,3,5,7,20,21,22],H [0,3,5,7,20,21,22],H [5],H [4]]
def ZMo:PC :=
 (.reg [0,3] [I 3 (.box (.s 1)),I 4 (.mv (.v .nilptr))])
def ZMp:PC :=
 (.reg [0,3,5] [I 11 (.fadr 1 (.s 3)),I 12 (.ld false 1 (.s 11)),I 13 (.fadr 2 (.s 3)),I 14 (.ld true 3 (.s 13)),I 15 (.fadr 0 (.s 3)),I 16 (.ld false 1 (.s 15)),I 17 (.build [(.int .u64 0),(.int .i64 0),(.int .i64 0),(.int .i64 0),(.int .i64 0)] [(1,1,(.s 12)),(2,3,(.s 14)),(0,1,(.s 16))]),I 18 (.box (.s 17)),I 5 (.mv (.s 18))])
def ZMq:PC :=
 (.reg [0,3,5,80] [I 81 (.fadr 0 (.s 3)),I 82 (.ld false 1 (.s 81)),I 83 (.bin .neq (.s 82) (.v (.int .u64 0))),I 84 (.mv (.s 83)),G 85 84 false (.fadr 5 (.s 3)),G 86 84 false (.ld false 1 (.s 85)),G 87 84 false (.bin .eql (.s 86) (.v (.str []))),G 88 84 false (.mv (.s 87)),G 89 88 true (.fadr 6 (.s 3)),G 90 88 true (.ld false 1 (.s 89)),G 91 88 true (.len 1 (.s 90)),G 92 88 true (.bin .eql (.s 91) (V 0)),G 93 84 false (.pick (.s 88) (.s 92) (.v (.bool false))),I 94 (.pick (.s 84) (.v (.bool true)) (.s 93)),I 80 (.mv (.s 94))])
def ZMr:PC :=
 (.reg [0,3,5,95] [I 96 (.fadr 1 (.s 3)),I 97 (.ld false 1 (.s 96)),I 98 (.bin .eql (.s 97) (V 0)),I 95 (.mv (.s 98))])
def ZMs:PC :=
 (.reg [0,5,6] [I 99 (.fadr 5 (.s 3)),I 100 (.ld false 1 (.s 99)),I 101 (.build [(.int .i64 0),(.str []),.nils] [(1,1,(.s 100))]),I 6 (.box (.v ZN)),J (.st 3 (.s 6) (.s 101))])
def ZMt:PC :=
 (.reg [0,5,6] [I 103 (.mv (.s 5)),I 104 (.ld true 3 (.s 6)),I 105 (C Yj [(.s 104)]),I 102 (.mv (.s 105)),I 106 (.ext (.s 102) 0),I 107 (.ext (.s 102) 1),I 108 (.nilck (.s 103)),I 109 (.fadr 2 (.s 108)),J (.st 3 (.s 109) (.s 106))])
def ZMu:PC :=
 (.reg [5] [I 110 (.mv (.s 0)),I 111 (.mv (.s 5)),I 112 (.mkf (.func JZ) [] [(.s 6)]),I 113 (C Xi [(.s 110),(.s 111),(.s 112)])])
def ZMv:PC :=
 (.reg [0,3,5,7] [I 7 (.boxnil 1)])
def ZMw:PC :=
 (.reg [0,3,5,7,20,21,22] [I 19 (.fadr 6 (.s 3)),I 20 (.ld false 1 (.s 19)),I 21 (.len 1 (.s 20)),I 22 (.mv (V 0))])
def ZMx:PC :=
 (.reg [0,3,5,7,20,21,22,23] [I 23 (.bin .lss (.s 22) (.s 21))])
def ZKy:PC :=
 (.reg [0,3,5,7,9,20,21,22] [I 24 (.ixS 7 (.s 20) (.s 22)),I 25 (.ld true 7 (.s 24)),I 9 (.box (.v ZT)),J (.st 7 (.s 9) (.s 25))])
def ZKz:PC :=
 (.reg [0,3,5,7,10,20,21,22] [I 26 (.mv (.s 0)),I 27 (.ld true 7 (.s 9)),I 28 (C Qc [(.s 26),(.s 27)]),I 10 (.mv (.s 28))])
def ZK0:PC :=
 (.reg [0,3,5,7,10,20,21,22] [I 29 (.ld false 1 (.s 7)),I 30 (.mv (.s 10)),I 31 (.bslice true 1 [.nilptr] [(0,(.s 30))]),I 32 (.app 1 8 (.s 29) (.s 31)),J (.st 1 (.s 7) (.s 32))])
def ZCd:PC :=
 (.reg [0,3,5,7,10,20,21,22] [I 33 (.mv (.s 5)),I 34 (.nilck (.s 33)),I 35 (.fadr 2 (.s 34)),I 36 (.fadr 0 (.s 35)),I 37 (.ld false 1 (.s 36)),I 38 (.mv (.s 10)),I 39 (.nilck (.s 38)),I 40 (.fadr 2 (.s 39)),I 41 (.fadr 0 (.s 40)),I 42 (.ld false 1 (.s 41)),I 43 (.bin .add (.s 37) (.s 42)),I 44 (.nilck (.s 33)),I 45 (.fadr 2 (.s 44)),I 46 (.fadr 0 (.s 45)),J (.st 1 (.s 46) (.s 43))])
def ZCe:PC :=
 (.reg [0,3,5,7,10,20,21,22] [I 47 (.mv (.s 5)),I 48 (.nilck (.s 47)),I 49 (.fadr 2 (.s 48)),I 50 (.fadr 1 (.s 49)),I 51 (.ld false 1 (.s 50)),I 52 (.mv (.s 10)),I 53 (.nilck (.s 52)),I 54 (.fadr 2 (.s 53)),I 55 (.fadr 1 (.s 54)),I 56 (.ld false 1 (.s 55)),I 57 (.bin .add (.s 51) (.s 56)),I 58 (.nilck (.s 47)),I 59 (.fadr 2 (.s 58)),I 60 (.fadr 1 (.s 59)),J (.st 1 (.s 60) (.s 57))])
def ZCf:PC :=
 (.reg [0,3,5,7,20,21,22] [I 61 (.mv (.s 5)),I 62 (.nilck (.s 61)),I 63 (.fadr 2 (.s 62)),I 64 (.fadr 2 (.s 63)),I 65 (.ld false 1 (.s 64)),I 66 (.mv (.s 10)),I 67 (.nilck (.s 66)),I 68 (.fadr 2 (.s 67)),I 69 (.fadr 2 (.s 68)),I 70 (.ld false 1 (.s 69)),I 71 (.bin .add (.s 65) (.s 70)),I 72 (.nilck (.s 61)),I 73 (.fadr 2 (.s 72)),I 74 (.fadr 2 (.s 73)),J (.st 1 (.s 74) (.s 71))])
def ZK1:PC :=
 (.reg [0,3,5,7,20,21,22] [I 75 (.bin .add (.s 22) (V 1)),I 22 (.mv (.s 75))])
def ZK2:PC :=
 (.seq ZMx
 (.seq (.ite (.s 23)
 .skip
 (.exit 1))
 (.seq (.block 2
 (.seq ZKy
 (.seq ZKz
 (.seq ZK0
 (.seq ZCd
 (.seq ZCe
 ZCf))))))
 ZK1)))
def ZK3:PC :=
 (.reg [5] [I 76 (.mv (.s 0)),I 77 (.mv (.s 5)),I 78 (.mkf (.func Q8) [] [(.s 3),(.s 7)]),I 79 (C Xi [(.s 76),(.s 77),(.s 78)])])
def ZK4:PC :=
 (.reg [4] [I 114 (.mv (.s 5)),I 4 (.mv (.s 114))])
def ZGw:PF:=⟨true,
 (.seq ZMo
 (.seq ZMp
 (.seq (.block 0
 (.seq ZMq
 (.ite (.s 80)
 .skip
 (.seq ZMr
 (.ite (.s 95)
 (.seq ZMs
 (.seq ZMt
 ZMu))
 (.seq ZMv
 (.seq (.seq ZMw
 (.block 1
 (.loop ZK2)))
 ZK3)))))))
 (.seq ZK4
 .ret)))),
 [.s 4]⟩
theorem ZUX:Zr Go.Proofs.Try.prog true ZUW Go.Proofs.Try.f75=some ZGw:=by kernel_rfl
def ZH3:List Hint:=[H [1],H [1,3,4],H [1,3,15],H [0,1,2],H [1,3,4,5],⟨[0,1,2],[],[],[],[(6,(.hide [(.s 1)])),(10,(.plain (.s 1)))],[]⟩]
def ZF5:PC :=
 (.reg [1] [I 0 (.mv (.v .nilptr)),I 1 (.box (.v ZR)),I 2 (.mv (.v (.bool false)))])
def ZF6:PC :=
 (.reg [1,3,4] [I 7 (C ZAe [(V 8),(.v (.int .u64 4))]),I 6 (.mv (.s 7)),I 8 (.ext (.s 6) 0),I 9 (.ext (.s 6) 1),I 3 (.mv (.s 8)),I 4 (.mv (.s 9))])
def ZF7:PC :=
 (.reg [1,3,15] [I 10 (.mv (.s 3)),I 11 (.eqs false 3 [] (.s 10) (.v .nilptr)),I 12 (.mv (.s 11)),G 13 12 false (.mv (.s 4)),G 14 12 false (.bin .neq (.s 13) (V 0)),I 15 (.pick (.s 12) (.v (.bool true)) (.s 14))])
def ZF8:PC :=
 (.reg [0,1,2] [I 16 (.build [(.int .u64 0),(.int .i64 0),(.int .i64 0),(.int .i64 0),(.int .i64 0)] []),I 0 (.mv (.v .nilptr)),J (.st 5 (.s 1) (.s 16)),I 2 (.mv (.v (.bool false)))])
def ZF9:PC :=
 (.reg [1,3,4,5] [I 18 (.mv (.s 3)),I 19 (C ZBa [(.s 18),(.v (.str [97,98,99,100,101,102,103,104,105,106,107,108,109,110,111,112,113]))]),I 17 (.mv (.s 19)),I 20 (.ext (.s 17) 0),I 21 (.ext (.s 17) 1),I 5 (.box (.v ZR)),J (.st 5 (.s 5) (.s 20)),I 4 (.mv (.s 21))])
def ZGA:PC :=
 (.reg [0,1,2] [I 22 (.mv (.s 3)),I 23 (.ld true 5 (.s 5)),I 24 (.mv (.s 4)),I 25 (.bin .eql (.s 24) (V 0)),I 26 (.mv (.s 25)),G 27 26 true (.fadr 0 (.s 5)),G 28 26 true (.w (.hide [(.s 1)]) (.ld false 1 (.s 27))),G 29 26 true (.bin .eql (.s 28) (.v (.int .u64 65538))),I 30 (.pick (.s 26) (.s 29) (.v (.bool false))),I 0 (.mv (.s 22)),J (.w (.plain (.s 1)) (.st 5 (.s 1) (.s 23))),I 2 (.mv (.s 30))])
def ZAy:PF:=⟨true,
 (.seq ZF5
 (.seq ZF6
 (.seq (.seq ZF7
 (.ite (.s 15)
 (.seq ZF8
 .ret)
 .skip))
 (.seq ZF9
 (.seq ZGA
 .ret))))),
 [.s 0,.c 1 true 5,.s 2]⟩
theorem ZH4:Zr Go.Proofs.Try.prog true ZH3 Go.Proofs.Try.f84=some ZAy:=by kernel_rfl
def ZXn:List Hint:=[H [0,2,3,5,8],H [8,9]]
def ZP1:PC :=
 (.reg [0,2,3,5,8] [I 5 (.box (.s 1)),I 8 (.box (.v (.agg [(.int .u64 0),(.int .i64 0),(.int .i64 0),(.int .i64 0),(.int .i64 0),.nils,.nils]))),I 9 (.mv (V 0))])
def ZP2:PC :=
 (.reg [8,9] [I 10 (.mv (.s 0)),I 11 (.ld true 5 (.s 5)),I 12 (.mv (.s 2)),I 13 (.mv (.s 3)),I 14 (C Xg [(.s 10),(.s 11),(.s 12),(V 0),(.s 13)]),I 15 (.ext (.s 14) 0),I 16 (.ext (.s 14) 1),J (.st 7 (.s 8) (.s 15)),I 9 (.mv (.s 16))])
def ZIE:PF:=⟨false,
 (.seq ZP1
 (.seq ZP2
 .ret)),
 [.c 8 true 7,.s 9]⟩
theorem ZXo:Zr Go.Proofs.Try.prog false ZXn Go.Proofs.Try.f85=some ZIE:=by kernel_rfl
def ZXp:List Hint:=[H [0,1,2,6],H [0,2,6,8,9],H [0,2,6,8,9,24],H [6,7],H [0,2,6,8,10],H [0,2,6,8,10,11],H [0,6,8,10,11,29,30,31],H [0,6,8,10,11,29,30,31,32],H [0,6,8,10,11,13,29,30,31],H [0,6,8,10,11,14,15,29,30,31],H [0,6,8,10,11,14,15,29,30,31,43],H [6,7],H [0,6,8,10,11,29,30,31,46,47,48],H [0,6,8,10,11,29,30,31,46,47,48,49],H [0,6,8,10,11,17,29,30,31,46,47,48],H [0,6,8,10,11,17,29,30,31,46,47,48,55],H [0,6,8,10,11,17,29,30,31,46,47,48],H [0,6,8,10,11,29,30,31,46,47,48],H [0,6,8,10,11,29,30,31,46,47,48],H [0,6,8,10,11,29,30,31],H [6,9,10],H [6,9,10,76],H [6,7],H [6,7]]
def ZP3:PC :=
 (.reg [0,1,2,6] [I 6 (.box (.v (.agg [(.int .u64 0),(.int .i64 0),(.int .i64 0),(.int .i64 0),(.int .i64 0),.nils,.nils]))),I 7 (.mv (V 0))])
def ZP4:PC :=
 (.reg [0,2,6,8,9] [I 19 (.mv (.s 1)),I 20 (.call .norm (.s 19) []),I 18 (.mv (.s 20)),I 21 (.ext (.s 18) 0),I 22 (.ext (.s 18) 1),I 8 (.box (.v ZT)),J (.st 7 (.s 8) (.s 21)),I 9 (.mv (.s 22))])
def ZP5:PC :=
 (.reg [0,2,6,8,9,24] [I 23 (.mv (.s 9)),I 24 (.bin .neq (.s 23) (V 0))])
def ZP6:PC :=
 (.reg [6,7] [I 25 (.build [(.int .u64 0),(.int .i64 0),(.int .i64 0),(.int .i64 0),(.int .i64 0),.nils,.nils] []),I 26 (.mv (.s 9)),J (.st 7 (.s 6) (.s 25)),I 7 (.mv (.s 26))])
def ZP7:PC :=
 (.reg [0,2,6,8,10] [I 27 (.build [(.int .u64 0),(.int .i64 0),(.int .i64 0),(.int .i64 0),(.int .i64 0),.nils,.nils] []),I 10 (.box (.v (.agg [(.int .u64 0),(.int .i64 0),(.int .i64 0),(.int .i64 0),(.int .i64 0),.nils,.nils]))),J (.st 7 (.s 10) (.s 27))])
def ZP8:PC :=
 (.reg [0,2,6,8,10,11] [I 28 (.mkmap),I 11 (.mv (.s 28))])
def ZP9:PC :=
 (.reg [0,6,8,10,11,29,30,31] [I 29 (.mv (.s 2)),I 30 (.len 1 (.s 29)),I 31 (.mv (V 0))])
def ZQA:PC :=
 (.reg [0,6,8,10,11,29,30,31,32] [I 32 (.bin .lss (.s 31) (.s 30))])
def ZQB:PC :=
 (.reg [0,6,8,10,11,13,29,30,31] [I 33 (.ixS 5 (.s 29) (.s 31)),I 34 (.ld true 5 (.s 33)),I 13 (.box (.v ZR)),J (.st 5 (.s 13) (.s 34))])
def ZQC:PC :=
 (.reg [0,6,8,10,11,14,15,29,30,31] [I 36 (.mv (.s 0)),I 37 (.ld true 5 (.s 13)),I 38 (.ld true 7 (.s 8)),I 39 (C ZBf [(.s 36),(.s 37),(.s 38)]),I 35 (.mv (.s 39)),I 40 (.ext (.s 35) 0),I 41 (.ext (.s 35) 1),I 14 (.mv (.s 40)),I 15 (.mv (.s 41))])
def ZMy:PC :=
 (.reg [0,6,8,10,11,14,15,29,30,31,43] [I 42 (.mv (.s 15)),I 43 (.bin .neq (.s 42) (V 0))])
def ZMz:PC :=
 (.reg [6,7] [I 44 (.build [(.int .u64 0),(.int .i64 0),(.int .i64 0),(.int .i64 0),(.int .i64 0),.nils,.nils] []),I 45 (.mv (.s 15)),J (.st 7 (.s 6) (.s 44)),I 7 (.mv (.s 45))])
def ZM0:PC :=
 (.reg [0,6,8,10,11,29,30,31,46,47,48] [I 46 (.mv (.s 14)),I 47 (.len 1 (.s 46)),I 48 (.mv (V 0))])
def ZM1:PC :=
 (.reg [0,6,8,10,11,29,30,31,46,47,48,49] [I 49 (.bin .lss (.s 48) (.s 47))])
def ZM2:PC :=
 (.reg [0,6,8,10,11,17,29,30,31,46,47,48] [I 50 (.ixS 1 (.s 46) (.s 48)),I 51 (.ld false 1 (.s 50)),I 17 (.mv (.s 51))])
def ZM3:PC :=
 (.reg [0,6,8,10,11,17,29,30,31,46,47,48,55] [I 52 (.mv (.s 11)),I 53 (.mv (.s 17)),I 54 (.look 0 (.bool false) false (.s 52) (.s 53)),I 55 (.un .not (.s 54))])
def ZM4:PC :=
 (.reg [0,6,8,10,11,17,29,30,31,46,47,48] [I 56 (.mv (.s 11)),I 57 (.mv (.s 17)),J (.mupd 0 (.s 56) (.s 57) (.v (.bool true)))])
def ZM5:PC :=
 (.reg [0,6,8,10,11,29,30,31,46,47,48] [I 58 (.fadr 6 (.s 10)),I 59 (.ld false 1 (.s 58)),I 60 (.mv (.s 17)),I 61 (.bslice false 1 [(.int .u64 0)] [(0,(.s 60))]),I 62 (.app 1 8 (.s 59) (.s 61)),I 63 (.fadr 6 (.s 10)),J (.st 1 (.s 63) (.s 62))])
def ZM6:PC :=
 (.reg [0,6,8,10,11,29,30,31,46,47,48] [I 64 (.bin .add (.s 48) (V 1)),I 48 (.mv (.s 64))])
def p_edit_change_19:PC :=
 (.seq ZM1
 (.seq (.ite (.s 49)
 .skip
 (.exit 2))
 (.seq (.block 3
 (.seq ZM2
 (.seq ZM3
 (.ite (.s 55)
 (.seq ZM4
 ZM5)
 .skip))))
 ZM6)))
def ZM7:PC :=
 (.reg [0,6,8,10,11,29,30,31] [I 65 (.bin .add (.s 31) (V 1)),I 31 (.mv (.s 65))])
def p_edit_change_21:PC :=
 (.seq ZQA
 (.seq (.ite (.s 32)
 .skip
 (.exit 0))
 (.seq (.block 1
 (.seq ZQB
 (.seq ZQC
 (.seq (.seq ZMy
 (.ite (.s 43)
 (.seq ZMz
 .ret)
 .skip))
 (.seq ZM0
 (.block 2
 (.loop p_edit_change_19)))))))
 ZM7)))
def ZM8:PC :=
 (.reg [6,9,10] [I 67 (.mv (.s 0)),I 68 (.ld true 7 (.s 8)),I 69 (C ZA6 [(.s 67),(.s 68)]),I 66 (.mv (.s 69)),I 70 (.ext (.s 66) 0),I 71 (.ext (.s 66) 1),I 72 (.ext (.s 66) 2),I 73 (.fadr 0 (.s 10)),J (.st 5 (.s 73) (.s 70)),I 74 (.fadr 5 (.s 10)),J (.st 1 (.s 74) (.s 71)),I 9 (.mv (.s 72))])
def ZM9:PC :=
 (.reg [6,9,10,76] [I 75 (.mv (.s 9)),I 76 (.bin .neq (.s 75) (V 0))])
def ZNA:PC :=
 (.reg [6,7] [I 77 (.build [(.int .u64 0),(.int .i64 0),(.int .i64 0),(.int .i64 0),(.int .i64 0),.nils,.nils] []),I 78 (.mv (.s 9)),J (.st 7 (.s 6) (.s 77)),I 7 (.mv (.s 78))])
def ZNB:PC :=
 (.reg [6,7] [I 79 (.ld true 7 (.s 10)),J (.st 7 (.s 6) (.s 79)),I 7 (.mv (V 0))])
def ZIF:PF:=⟨false,
 (.seq ZP3
 (.seq ZP4
 (.seq (.seq ZP5
 (.ite (.s 24)
 (.seq ZP6
 .ret)
 .skip))
 (.seq ZP7
 (.seq ZP8
 (.seq (.seq ZP9
 (.block 0
 (.loop p_edit_change_21)))
 (.seq (.seq ZM8
 (.seq ZM9
 (.ite (.s 76)
 (.seq ZNA
 .ret)
 .skip)))
 (.seq ZNB
 .ret)))))))),
 [.c 6 true 7,.s 7]⟩
theorem ZXq:Zr Go.Proofs.Try.prog false ZXp Go.Proofs.Try.f86=some ZIF:=by kernel_rfl
def ZNC:List Hint:=[H [0,1,2,3,4,5],H [5,6]]
def ZI1:PC :=
 (.reg [0,1,2,3,4,5] [I 5 (.box (.v ZT)),I 6 (.mv (V 0))])
def ZI2:PC :=
 (.reg [5,6] [I 7 (.ld false 1 (.s 0)),I 8 (.ld true 5 (.s 1)),I 9 (.ld false 1 (.s 2)),I 10 (.ld false 1 (.s 3)),I 11 (.ld false 1 (.s 4)),I 12 (C ZGU [(.s 7),(.s 8),(.s 9),(.s 10),(.s 11)]),I 13 (.ext (.s 12) 0),I 14 (.ext (.s 12) 1),J (.st 7 (.s 5) (.s 13)),I 6 (.mv (.s 14))])
def ZDa:PF:=⟨false,
 (.seq ZI1
 (.seq ZI2
 .ret)),
 [.c 5 true 7,.s 6]⟩
theorem ZND:Zr Go.Proofs.Try.prog false ZNC Go.Proofs.Try.f87=some ZDa:=by kernel_rfl
def ZdF:List Hint:=[H [0,2,3,4,6,10],H [0,2,3,4,10,12,13],H [0,2,3,4,10,12,13,21],H [10,11],H [10,11]]
def ZXr:PC :=
 (.reg [0,2,3,4,6,10] [I 6 (.box (.s 1)),I 10 (.box (.v ZT)),I 11 (.mv (V 0))])
def ZXs:PC :=
 (.reg [0,2,3,4,10,12,13] [I 15 (.mv (.s 0)),I 16 (.ld true 5 (.s 6)),I 17 (C Yh [(.s 15),(.s 16)]),I 14 (.mv (.s 17)),I 18 (.ext (.s 14) 0),I 19 (.ext (.s 14) 1),I 12 (.box (.v ZT)),J (.st 7 (.s 12) (.s 18)),I 13 (.mv (.s 19))])
def ZXt:PC :=
 (.reg [0,2,3,4,10,12,13,21] [I 20 (.mv (.s 13)),I 21 (.bin .neq (.s 20) (V 0))])
def ZXu:PC :=
 (.reg [10,11] [I 22 (.build [(.int .u64 0),(.int .i64 0),(.int .i64 0),(.int .i64 0),(.int .i64 0),(.str []),.nils] []),I 23 (.mv (.s 13)),J (.st 7 (.s 10) (.s 22)),I 11 (.mv (.s 23))])
def ZXv:PC :=
 (.reg [10,11] [I 24 (.mv (.s 0)),I 25 (.ld true 7 (.s 12)),I 26 (.mv (.s 2)),I 27 (.mv (.s 3)),I 28 (.mv (.s 4)),I 29 (C ZBb [(.s 24),(.s 25),(.s 26),(.s 27),(.s 28)]),I 30 (.ext (.s 29) 0),I 31 (.ext (.s 29) 1),J (.st 7 (.s 10) (.s 30)),I 11 (.mv (.s 31))])
def ZO9:PF:=⟨false,
 (.seq ZXr
 (.seq ZXs
 (.seq (.seq ZXt
 (.ite (.s 21)
 (.seq ZXu
 .ret)
 .skip))
 (.seq ZXv
 .ret)))),
 [.c 10 true 7,.s 11]⟩
theorem ZdG:Zr Go.Proofs.Try.prog false ZdF Go.Proofs.Try.f88=some ZO9:=by kernel_rfl
def ZUY:List Hint:=[H [0,1],H [0,1,21],H [4,5],⟨[0,6],[],[],[],[(1,(.here 1)),(5,(.here 5)),(3,(.here 3))],[3,1,5]⟩,H [0,6,31,32],H [0,6,31,32,33],H [0,6,7,31,32],H [0,6,7,31,32],H [0,6,31,32],H [0,6,31,32],H [4,5]]
def ZNE:PC :=
 (.reg [0,1] [I 4 (.mv (.v .nilptr)),I 5 (.mv (V 0))])
def ZNF:PC :=
 (.reg [0,1,21] [I 8 (.mv (.s 0)),I 9 (.bin .lss (.s 8) (V 1)),I 10 (.mv (.s 9)),G 11 10 false (.mv (.s 0)),G 12 10 false (.bin .gtr (.s 11) (V 16384)),I 13 (.pick (.s 10) (.v (.bool true)) (.s 12)),I 14 (.mv (.s 13)),G 15 14 false (.mv (.s 1)),G 16 14 false (.bin .lss (.s 15) (.v (.int .u64 1))),I 17 (.pick (.s 14) (.v (.bool true)) (.s 16)),I 18 (.mv (.s 17)),G 19 18 false (.mv (.s 1)),G 20 18 false (.bin .gtr (.s 19) (.v (.int .u64 4294967295))),I 21 (.pick (.s 18) (.v (.bool true)) (.s 20))])
def ZNG:PC :=
 (.reg [4,5] [I 4 (.mv (.v .nilptr)),I 5 (.mv (V 3))])
def ZNH:PC :=
 (.regH [3,1,5] [0,6] [I 22 (.mv (.s 0)),I 23 (.w (.here 1) (.mkslice 1 8 (.int .i64 0) (.s 22) (.s 22))),I 24 (.mv (.s 0)),I 25 (.w (.here 3) (.mkslice 1 1 (.int .u8 0) (.s 24) (.s 24))),I 26 (.mv (.s 0)),I 27 (.w (.here 5) (.mkslice 1 8 (.int .u64 0) (.s 26) (.s 26))),I 28 (.mv (.s 1)),I 29 (.build [.nils,.nils,.nils,(.int .u64 0)] [(0,1,(.s 23)),(1,1,(.s 25)),(2,1,(.s 27)),(3,1,(.s 28))]),I 30 (.box (.s 29)),I 6 (.mv (.s 30))])
def ZNI:PC :=
 (.reg [0,6,31,32] [I 31 (.mv (.s 0)),I 32 (.mv (V 0))])
def ZNJ:PC :=
 (.reg [0,6,31,32,33] [I 33 (.bin .lss (.s 32) (.s 31))])
def ZNK:PC :=
 (.reg [0,6,7,31,32] [I 34 (.mv (.s 32)),I 7 (.mv (.s 34))])
def ZNL:PC :=
 (.reg [0,6,7,31,32] [I 35 (.mv (.s 6)),I 36 (.nilck (.s 35)),I 37 (.fadr 0 (.s 36)),I 38 (.ld false 1 (.s 37)),I 39 (.mv (.s 7)),I 40 (.mv (.s 0)),I 41 (.bin .sub (.s 40) (V 1)),I 42 (.mv (.s 7)),I 43 (.bin .sub (.s 41) (.s 42)),I 44 (.ixS 1 (.s 38) (.s 39)),J (.st 1 (.s 44) (.s 43))])
def ZNM:PC :=
 (.reg [0,6,31,32] [I 45 (.mv (.s 6)),I 46 (.nilck (.s 45)),I 47 (.fadr 2 (.s 46)),I 48 (.ld false 1 (.s 47)),I 49 (.mv (.s 7)),I 50 (.ixS 1 (.s 48) (.s 49)),J (.st 1 (.s 50) (.v (.int .u64 1)))])
def ZNN:PC :=
 (.reg [0,6,31,32] [I 51 (.bin .add (.s 32) (V 1)),I 32 (.mv (.s 51))])
def ZK5:PC :=
 (.seq ZNJ
 (.seq (.ite (.s 33)
 .skip
 (.exit 0))
 (.seq (.block 1
 (.seq ZNK
 (.seq ZNL
 ZNM)))
 ZNN)))
def ZK6:PC :=
 (.reg [4,5] [I 52 (.mv (.s 6)),I 4 (.mv (.s 52)),I 5 (.mv (V 0))])
def ZGx:PF:=⟨true,
 (.seq ZNE
 (.seq (.seq ZNF
 (.ite (.s 21)
 (.seq ZNG
 .ret)
 .skip))
 (.seq ZNH
 (.seq (.seq ZNI
 (.block 0
 (.loop ZK5)))
 (.seq ZK6
 .ret))))),
 [.s 4,.s 5]⟩
theorem ZUZ:Zr Go.Proofs.Try.prog true ZUY Go.Proofs.Try.f91=some ZGx:=by kernel_rfl
def ZDb:List Hint:=[H [0],⟨[0,3],[0],[],[],[],[]⟩,H [0,3,9,10,11],H [0,3,9,10,11,12],H [0,3,5,9,10,11],H [0,3,6,9,10,11],H [0,3,9,10,11],H [0,3,9,10,11],H [2]]
def ZCJ:PC :=
 (.reg [0] [I 2 (.mv (.v .nils))])
def ZCK:PC :=
 (.reg [0,3] [I 3 (.onil 1)])
def ZCL:PC :=
 (.reg [0,3,9,10,11] [I 8 (.mv (.s 0)),I 9 (C Jg [(.s 8),(.v (.int .u8 1))]),I 10 (.len 1 (.s 9)),I 11 (.mv (V 0))])
def ZCM:PC :=
 (.reg [0,3,9,10,11,12] [I 12 (.bin .lss (.s 11) (.s 10))])
def ZCN:PC :=
 (.reg [0,3,5,9,10,11] [I 13 (.ixS 1 (.s 9) (.s 11)),I 14 (.ld false 1 (.s 13)),I 5 (.mv (.s 14))])
def ZCO:PC :=
 (.reg [0,3,6,9,10,11] [I 16 (.mv (.s 5)),I 17 (.mv (.s 0)),I 18 (.nilck (.s 17)),I 19 (.fadr 2 (.s 18)),I 20 (.ld false 1 (.s 19)),I 21 (.mv (.s 5)),I 22 (.ixS 1 (.s 20) (.s 21)),I 23 (.ld false 1 (.s 22)),I 24 (C ZAS [(.s 16),(.s 23)]),I 15 (.mv (.s 24)),I 25 (.ext (.s 15) 0),I 26 (.ext (.s 15) 1),I 6 (.mv (.s 25)),I 7 (.mv (.s 26))])
def ZCP:PC :=
 (.reg [0,3,9,10,11] [I 27 (.mv (.s 3)),I 28 (.mv (.s 6)),I 29 (.bslice false 1 [(.int .u64 0)] [(0,(.s 28))]),I 30 (.app 1 8 (.s 27) (.s 29)),I 3 (.mv (.s 30))])
def ZCQ:PC :=
 (.reg [0,3,9,10,11] [I 31 (.bin .add (.s 11) (V 1)),I 11 (.mv (.s 31))])
def ZCR:PC :=
 (.seq ZCM
 (.seq (.ite (.s 12)
 .skip
 (.exit 0))
 (.seq (.block 1
 (.seq ZCN
 (.seq ZCO
 ZCP)))
 ZCQ)))
def ZCS:PC :=
 (.reg [2] [I 32 (.mv (.s 3)),I 2 (.mv (.s 32))])
def XU:PF:=⟨false,
 (.seq ZCJ
 (.seq ZCK
 (.seq (.seq ZCL
 (.block 0
 (.loop ZCR)))
 (.seq ZCS
 .ret)))),
 [.s 2]⟩
theorem ZDc:Zr Go.Proofs.Try.prog false ZDb Go.Proofs.Try.f92=some XU:=by kernel_rfl
def ZUa:List Hint:=[H [0],⟨[0,3],[0],[],[],[],[]⟩,H [0,3,8,9,10],H [0,3,8,9,10,11],H [0,3,5,8,9,10],H [0,3,5,8,9,10],H [0,3,8,9,10],H [0,3,8,9,10],H [2]]
def ZNO:PC :=
 (.reg [0] [I 2 (.mv (.v .nils))])
def ZNP:PC :=
 (.reg [0,3] [I 3 (.onil 1)])
def ZNQ:PC :=
 (.reg [0,3,8,9,10] [I 6 (.mv (.s 0)),I 7 (.len 0 (.s 6)),I 8 (C ZAT [(.s 7),(V 16)]),I 9 (.len 1 (.s 8)),I 10 (.mv (V 0))])
def ZNR:PC :=
 (.reg [0,3,8,9,10,11] [I 11 (.bin .lss (.s 10) (.s 9))])
def ZNS:PC :=
 (.reg [0,3,5,8,9,10] [I 12 (.ixS 1 (.s 8) (.s 10)),I 13 (.ld false 1 (.s 12)),I 5 (.mv (.s 13))])
def ZNT:PC :=
 (.reg [0,3,5,8,9,10] [I 14 (.mv (.s 3)),I 15 (.mv (.s 0)),I 16 (.mv (.s 5)),I 17 (.slcS (.s 15) none (some (.s 16))),I 18 (.bslice false 1 [(.str [])] [(0,(.s 17))]),I 19 (.app 1 16 (.s 14) (.s 18)),I 3 (.mv (.s 19))])
def ZNU:PC :=
 (.reg [0,3,8,9,10] [I 20 (.mv (.s 0)),I 21 (.mv (.s 5)),I 22 (.slcS (.s 20) (some (.s 21)) none),I 0 (.mv (.s 22))])
def ZNV:PC :=
 (.reg [0,3,8,9,10] [I 23 (.bin .add (.s 10) (V 1)),I 10 (.mv (.s 23))])
def ZNW:PC :=
 (.seq ZNR
 (.seq (.ite (.s 11)
 .skip
 (.exit 0))
 (.seq (.block 1
 (.seq ZNS
 (.seq ZNT
 ZNU)))
 ZNV)))
def ZNX:PC :=
 (.reg [2] [I 24 (.mv (.s 3)),I 2 (.mv (.s 24))])
def ZGy:PF:=⟨false,
 (.seq ZNO
 (.seq ZNP
 (.seq (.seq ZNQ
 (.block 0
 (.loop ZNW)))
 (.seq ZNX
 .ret)))),
 [.s 2]⟩
theorem ZUb:Zr Go.Proofs.Try.prog false ZUa Go.Proofs.Try.f93=some ZGy:=by kernel_rfl
def ZbB:List Hint:=[H [0,1],H [0,1,11],H [4,5],H [0,1,13],H [4,5],H [4,5]]
def ZUc:PC :=
 (.reg [0,1] [I 4 (.mv (.v .nils)),I 5 (.mv (V 0))])
def ZUd:PC :=
 (.reg [0,1,11] [I 6 (.mv (.s 0)),I 7 (.bin .lss (.s 6) (V 0)),I 8 (.mv (.s 7)),G 9 8 false (.mv (.s 1)),G 10 8 false (.bin .lss (.s 9) (V 1)),I 11 (.pick (.s 8) (.v (.bool true)) (.s 10))])
def ZUe:PC :=
 (.reg [4,5] [I 4 (.mv (.v .nils)),I 5 (.mv (V 2))])
def ZUf:PC :=
 (.reg [0,1,13] [I 12 (.mv (.s 0)),I 13 (.bin .gtr (.s 12) (V 65536))])
def ZUg:PC :=
 (.reg [4,5] [I 4 (.mv (.v .nils)),I 5 (.mv (V 5))])
def ZUh:PC :=
 (.reg [4,5] [I 14 (.mv (.s 0)),I 15 (.mv (.s 1)),I 16 (C ZAT [(.s 14),(.s 15)]),I 4 (.mv (.s 16)),I 5 (.mv (V 0))])
def ZK7:PF:=⟨false,
 (.seq ZUc
 (.seq (.seq ZUd
 (.ite (.s 11)
 (.seq ZUe
 .ret)
 .skip))
 (.seq (.seq ZUf
 (.ite (.s 13)
 (.seq ZUg
 .ret)
 .skip))
 (.seq ZUh
 .ret)))),
 [.s 4,.s 5]⟩
theorem ZbC:Zr Go.Proofs.Try.prog false ZbB Go.Proofs.Try.f94=some ZK7:=by kernel_rfl
def ZbD:List Hint:=[H [0,2],H [0,2,3],H [2],H [0,2,8],H [2],⟨[2],[],[],[],[(7,.app0),(5,.imm)],[]⟩]
def ZUi:PC :=
 (.reg [0,2] [I 2 (.box (.v ZT))])
def ZUj:PC :=
 (.reg [0,2,3] [I 4 (.mv (.s 0)),I 5 (.len 1 (.s 4)),I 6 (.bin .eql (.s 5) (V 0)),I 3 (.mv (.s 6))])
def ZUk:PC :=
 (.reg [2] [I 7 (.build [(.int .u64 0),(.int .i64 0),(.int .i64 0),(.int .i64 0),(.int .i64 0),(.str []),.nils] []),J (.st 7 (.s 2) (.s 7))])
def ZUl:PC :=
 (.reg [0,2,8] [I 9 (.mv (.s 0)),I 10 (.len 1 (.s 9)),I 11 (.bin .eql (.s 10) (V 1)),I 8 (.mv (.s 11))])
def ZUm:PC :=
 (.reg [2] [I 12 (.mv (.s 0)),I 13 (.ixS 7 (.s 12) (V 0)),I 14 (.ld true 7 (.s 13)),J (.st 7 (.s 2) (.s 14))])
def ZUn:PC :=
 (.reg [2] [I 15 (.mv (.s 0)),I 16 (.ixS 7 (.s 15) (V 0)),I 17 (.fadr 1 (.s 16)),I 18 (.ld false 1 (.s 17)),I 19 (.bin .add (.s 18) (V 1)),I 20 (.w .imm (.bslice false 7 [] [])),I 21 (.mv (.s 0)),I 22 (.w .app0 (.app 7 80 (.s 20) (.s 21))),I 23 (.build [(.int .u64 0),(.int .i64 0),(.int .i64 0),(.int .i64 0),(.int .i64 0),(.str []),.nils] [(1,1,(.s 19)),(6,1,(.s 22))]),J (.st 7 (.s 2) (.s 23))])
def ZK8:PF:=⟨false,
 (.seq ZUi
 (.seq (.block 0
 (.seq ZUj
 (.ite (.s 3)
 (.seq ZUk
 .ret)
 (.seq ZUl
 (.ite (.s 8)
 (.seq ZUm
 .ret)
 .skip)))))
 (.seq ZUn
 .ret))),
 [.c 2 true 7]⟩
theorem ZbE:Zr Go.Proofs.Try.prog false ZbD Go.Proofs.Try.f95=some ZK8:=by kernel_rfl
def ZdH:List Hint:=[H [0,1,2,7],H [2,7,9,10],H [2,7,9,10,19],H [8],H [2,7,9,10,11],H [38],H [8],H [8]]
def ZXw:PC :=
 (.reg [0,1,2,7] [I 7 (.box (.s 3)),I 8 (.mv (V 0))])
def ZXx:PC :=
 (.reg [2,7,9,10] [I 13 (.mv (.s 0)),I 14 (.mv (.s 1)),I 15 (C QY [(.s 13),(.s 14)]),I 12 (.mv (.s 15)),I 16 (.ext (.s 12) 0),I 17 (.ext (.s 12) 1),I 9 (.box (.v ZN)),J (.st 3 (.s 9) (.s 16)),I 10 (.mv (.s 17))])
def ZXy:PC :=
 (.reg [2,7,9,10,19] [I 18 (.mv (.s 10)),I 19 (.bin .neq (.s 18) (V 0))])
def ZXz:PC :=
 (.reg [8] [I 20 (.mv (.s 10)),I 8 (.mv (.s 20))])
def ZX0:PC :=
 (.reg [2,7,9,10,11] [I 22 (.ld true 3 (.s 9)),I 23 (C Yj [(.s 22)]),I 21 (.mv (.s 23)),I 24 (.ext (.s 21) 0),I 25 (.ext (.s 21) 1),I 11 (.box (.v ZM)),J (.st 3 (.s 11) (.s 24)),I 10 (.mv (.s 25))])
def ZX1:PC :=
 (.reg [38] [I 26 (.mv (.s 10)),I 27 (.bin .neq (.s 26) (V 0)),I 28 (.mv (.s 27)),G 29 28 false (.fadr 0 (.s 9)),G 30 28 false (.ld false 1 (.s 29)),G 31 28 false (.mv (.s 2)),G 32 28 false (.bin .neq (.s 30) (.s 31)),I 33 (.pick (.s 28) (.v (.bool true)) (.s 32)),I 34 (.mv (.s 33)),G 35 34 false (.ld true 3 (.s 11)),G 36 34 false (.ld true 3 (.s 7)),G 37 34 false (.eqs true 0 [(0,0),(1,0),(2,0)] (.s 35) (.s 36)),I 38 (.pick (.s 34) (.v (.bool true)) (.s 37))])
def ZX2:PC :=
 (.reg [8] [I 8 (.mv (V 23))])
def ZX3:PC :=
 (.reg [8] [I 8 (.mv (V 0))])
def ZPA:PF:=⟨false,
 (.seq ZXw
 (.seq ZXx
 (.seq (.seq ZXy
 (.ite (.s 19)
 (.seq ZXz
 .ret)
 .skip))
 (.seq ZX0
 (.seq (.seq ZX1
 (.ite (.s 38)
 (.seq ZX2
 .ret)
 .skip))
 (.seq ZX3
 .ret)))))),
 [.s 8]⟩
theorem ZdI:Zr Go.Proofs.Try.prog false ZdH Go.Proofs.Try.f96=some ZPA:=by kernel_rfl
def ZbF:List Hint:=[H [1],H [1,3],H [3,14,15,16],H [3,14,15,16,17],H [3,5,14,15,16],H [3,14,15,16],H [3,14,15,16],H [2]]
def ZUo:PC :=
 (.reg [1] [I 1 (.box (.s 0)),I 2 (.mv (V 0))])
def ZUp:PC :=
 (.reg [1,3] [I 6 (.fadr 2 (.s 1)),I 7 (.fadr 0 (.s 6)),I 8 (.ld false 1 (.s 7)),I 9 (.fadr 5 (.s 1)),I 10 (.ld false 1 (.s 9)),I 11 (.len 0 (.s 10)),I 12 (.bin .add (.s 8) (.s 11)),I 3 (.mv (.s 12))])
def ZUq:PC :=
 (.reg [3,14,15,16] [I 13 (.fadr 6 (.s 1)),I 14 (.ld false 1 (.s 13)),I 15 (.len 1 (.s 14)),I 16 (.mv (V 0))])
def ZUr:PC :=
 (.reg [3,14,15,16,17] [I 17 (.bin .lss (.s 16) (.s 15))])
def ZUs:PC :=
 (.reg [3,5,14,15,16] [I 18 (.ixS 7 (.s 14) (.s 16)),I 19 (.ld true 7 (.s 18)),I 5 (.box (.v ZT)),J (.st 7 (.s 5) (.s 19))])
def ZUt:PC :=
 (.reg [3,14,15,16] [I 20 (.mv (.s 3)),I 21 (.ld true 7 (.s 5)),I 22 (C Qg [(.s 21)]),I 23 (.bin .add (.s 20) (.s 22)),I 3 (.mv (.s 23))])
def ZUu:PC :=
 (.reg [3,14,15,16] [I 24 (.bin .add (.s 16) (V 1)),I 16 (.mv (.s 24))])
def ZUv:PC :=
 (.seq ZUr
 (.seq (.ite (.s 17)
 .skip
 (.exit 0))
 (.seq (.block 1
 (.seq ZUs
 ZUt))
 ZUu)))
def ZUw:PC :=
 (.reg [2] [I 25 (.mv (.s 3)),I 2 (.mv (.s 25))])
def ZK9:PF:=⟨false,
 (.seq ZUo
 (.seq ZUp
 (.seq (.seq ZUq
 (.block 0
 (.loop ZUv)))
 (.seq ZUw
 .ret)))),
 [.s 2]⟩
theorem ZbG:Zr Go.Proofs.Try.prog false ZbF Go.Proofs.Try.f97=some ZK9:=by kernel_rfl
def Zez:List Hint:=[H [1,2],H [1,2,9],H [1,2],H [2],H [1,2,3],H [1,2,3,17,18,19],H [1,2,3,17,18,19,20],H [1,2,3,4,5,17,18,19],H [1,2,3,17,18,19],H [1,2,3,17,18,19],H [1,2],H [2]]
def ZbH:PC :=
 (.reg [1,2] [I 1 (.box (.s 0)),I 2 (.box (.v ZT))])
def ZbI:PC :=
 (.reg [1,2,9] [I 6 (.fadr 6 (.s 1)),I 7 (.ld false 1 (.s 6)),I 8 (.len 1 (.s 7)),I 9 (.bin .eql (.s 8) (V 0))])
def ZbJ:PC :=
 (.reg [1,2] [I 10 (.fadr 6 (.s 1)),J (.st 1 (.s 10) (.v .nils))])
def ZbK:PC :=
 (.reg [2] [I 11 (.ld true 7 (.s 1)),J (.st 7 (.s 2) (.s 11))])
def ZbL:PC :=
 (.reg [1,2,3] [I 12 (.fadr 6 (.s 1)),I 13 (.ld false 1 (.s 12)),I 14 (.len 1 (.s 13)),I 15 (.mkslice 7 80 ZT (.s 14) (.s 14)),I 3 (.mv (.s 15))])
def ZbM:PC :=
 (.reg [1,2,3,17,18,19] [I 16 (.fadr 6 (.s 1)),I 17 (.ld false 1 (.s 16)),I 18 (.len 1 (.s 17)),I 19 (.mv (V 0))])
def ZbN:PC :=
 (.reg [1,2,3,17,18,19,20] [I 20 (.bin .lss (.s 19) (.s 18))])
def ZbO:PC :=
 (.reg [1,2,3,4,5,17,18,19] [I 21 (.mv (.s 19)),I 22 (.ixS 7 (.s 17) (.s 19)),I 23 (.ld true 7 (.s 22)),I 5 (.box (.v ZT)),I 4 (.mv (.s 21)),J (.st 7 (.s 5) (.s 23))])
def ZbP:PC :=
 (.reg [1,2,3,17,18,19] [I 24 (.mv (.s 3)),I 25 (.mv (.s 4)),I 26 (.ld true 7 (.s 5)),I 27 (C ZBe [(.s 26)]),I 28 (.ixS 7 (.s 24) (.s 25)),J (.st 7 (.s 28) (.s 27))])
def ZbQ:PC :=
 (.reg [1,2,3,17,18,19] [I 29 (.bin .add (.s 19) (V 1)),I 19 (.mv (.s 29))])
def ZX4:PC :=
 (.seq ZbN
 (.seq (.ite (.s 20)
 .skip
 (.exit 0))
 (.seq (.block 1
 (.seq ZbO
 ZbP))
 ZbQ)))
def ZX5:PC :=
 (.reg [1,2] [I 30 (.mv (.s 3)),I 31 (.fadr 6 (.s 1)),J (.st 1 (.s 31) (.s 30))])
def ZX6:PC :=
 (.reg [2] [I 32 (.ld true 7 (.s 1)),J (.st 7 (.s 2) (.s 32))])
def ZUx:PF:=⟨false,
 (.seq ZbH
 (.seq (.seq ZbI
 (.ite (.s 9)
 (.seq ZbJ
 (.seq ZbK
 .ret))
 .skip))
 (.seq ZbL
 (.seq (.seq ZbM
 (.block 0
 (.loop ZX4)))
 (.seq ZX5
 (.seq ZX6
 .ret)))))),
 [.c 2 true 7]⟩
theorem Ze0:Zr Go.Proofs.Try.prog false Zez Go.Proofs.Try.f98=some ZUx:=by kernel_rfl
def Ze1:List Hint:=[H [0,2,4,6,7],H [0,2,4,6,7,18],⟨[6,7,8],[],[],[],[(1,(.hide [(.s 6)])),(2,(.plain (.s 6)))],[]⟩,H [0,2,4,6,7,24],H [6,7,8],H [0,2,4,6,7,29],H [2,6,7,9,10],H [2,6,7,9,10,37],H [6,7,8],H [6,7,10,11,12],H [6,7,8],H [0,2,6,7,8,13],H [0,2,6,7,8,13,60],H [6,7,8],H [0,2,6,7,13,14],H [0,2,6,7,13,14,77],H [0,2,6,7,13,14],H [0,2,6,7,13,14],H [0,2,6,7,13,14,88],⟨[6,7,8],[],[(3,.pure)],[],[],[]⟩,H [0,6,7,8,13,14,15,16],H [0,6,7,8,13,14,15,16,109],H [6,7,8],⟨[0,6,7,8,13,14,16],[],[(4,.pure)],[],[],[]⟩,H [0,6,7,8,13,14,16,124],H [6,7,8],⟨[6,7,8],[],[(6,.pure)],[],[],[]⟩,H [6,7,8,140],H [6,7,8],⟨[6,7,8],[],[],[],[(1,(.hide [(.s 6)])),(2,(.plain (.s 6)))],[]⟩]
def ZbR:PC :=
 (.reg [0,2,4,6,7] [I 4 (.box (.s 1)),I 6 (.box (.v ZT)),I 7 (.box (.v ZT)),I 8 (.mv (V 0))])
def ZbS:PC :=
 (.reg [0,2,4,6,7,18] [I 17 (.mv (.s 2)),I 18 (.bin .eql (.s 17) (V 0))])
def ZbT:PC :=
 (.reg [6,7,8] [I 19 (.build [(.int .u64 0),(.int .i64 0),(.int .i64 0),(.int .i64 0),(.int .i64 0),(.str []),.nils] []),I 20 (.w (.hide [(.s 6)]) (.ld true 7 (.s 4))),J (.w (.plain (.s 6)) (.st 7 (.s 6) (.s 19))),J (.st 7 (.s 7) (.s 20)),I 8 (.mv (V 0))])
def ZbU:PC :=
 (.reg [0,2,4,6,7,24] [I 21 (.mv (.s 2)),I 22 (.ld true 7 (.s 4)),I 23 (C Qg [(.s 22)]),I 24 (.bin .eql (.s 21) (.s 23))])
def ZbV:PC :=
 (.reg [6,7,8] [I 25 (.ld true 7 (.s 4)),I 26 (.build [(.int .u64 0),(.int .i64 0),(.int .i64 0),(.int .i64 0),(.int .i64 0),(.str []),.nils] []),J (.st 7 (.s 6) (.s 25)),J (.st 7 (.s 7) (.s 26)),I 8 (.mv (V 0))])
def ZbW:PC :=
 (.reg [0,2,4,6,7,29] [I 27 (.fadr 1 (.s 4)),I 28 (.ld false 1 (.s 27)),I 29 (.bin .eql (.s 28) (V 0))])
def ZbX:PC :=
 (.reg [2,6,7,9,10] [I 31 (.mv (.s 0)),I 32 (.ld true 7 (.s 4)),I 33 (C ZAf [(.s 31),(.s 32)]),I 30 (.mv (.s 33)),I 34 (.ext (.s 30) 0),I 35 (.ext (.s 30) 1),I 9 (.mv (.s 34)),I 10 (.mv (.s 35))])
def ZbY:PC :=
 (.reg [2,6,7,9,10,37] [I 36 (.mv (.s 10)),I 37 (.bin .neq (.s 36) (V 0))])
def ZbZ:PC :=
 (.reg [6,7,8] [I 38 (.build [(.int .u64 0),(.int .i64 0),(.int .i64 0),(.int .i64 0),(.int .i64 0),(.str []),.nils] []),I 39 (.build [(.int .u64 0),(.int .i64 0),(.int .i64 0),(.int .i64 0),(.int .i64 0),(.str []),.nils] []),I 40 (.mv (.s 10)),J (.st 7 (.s 6) (.s 38)),J (.st 7 (.s 7) (.s 39)),I 8 (.mv (.s 40))])
def Zba:PC :=
 (.reg [6,7,10,11,12] [I 42 (.mv (.s 9)),I 43 (.mv (.s 2)),I 44 (C ZGV [(.s 42),(.s 43)]),I 41 (.mv (.s 44)),I 45 (.ext (.s 41) 0),I 46 (.ext (.s 41) 1),I 47 (.ext (.s 41) 2),I 11 (.mv (.s 45)),I 12 (.mv (.s 46)),I 10 (.mv (.s 47))])
def ZX7:PC :=
 (.reg [6,7,8] [I 48 (.mv (.s 11)),I 49 (.build [(.int .u64 0),(.int .i64 0),(.int .i64 0),(.int .i64 0),(.int .i64 0),(.str []),.nils] [(5,1,(.s 48))]),I 50 (.mv (.s 12)),I 51 (.build [(.int .u64 0),(.int .i64 0),(.int .i64 0),(.int .i64 0),(.int .i64 0),(.str []),.nils] [(5,1,(.s 50))]),I 52 (.mv (.s 10)),J (.st 7 (.s 6) (.s 49)),J (.st 7 (.s 7) (.s 51)),I 8 (.mv (.s 52))])
def ZX8:PC :=
 (.reg [0,2,6,7,8,13] [I 54 (.mv (.s 0)),I 55 (.ld true 7 (.s 4)),I 56 (C YS [(.s 54),(.s 55)]),I 53 (.mv (.s 56)),I 57 (.ext (.s 53) 0),I 58 (.ext (.s 53) 1),I 13 (.mv (.s 57)),I 8 (.mv (.s 58))])
def ZX9:PC :=
 (.reg [0,2,6,7,8,13,60] [I 59 (.mv (.s 8)),I 60 (.bin .neq (.s 59) (V 0))])
def ZYA:PC :=
 (.reg [6,7,8] [I 61 (.build [(.int .u64 0),(.int .i64 0),(.int .i64 0),(.int .i64 0),(.int .i64 0),(.str []),.nils] []),I 62 (.build [(.int .u64 0),(.int .i64 0),(.int .i64 0),(.int .i64 0),(.int .i64 0),(.str []),.nils] []),I 63 (.mv (.s 8)),J (.st 7 (.s 6) (.s 61)),J (.st 7 (.s 7) (.s 62)),I 8 (.mv (.s 63))])
def ZYB:PC :=
 (.reg [0,2,6,7,13,14] [I 14 (.mv (V 0))])
def ZYC:PC :=
 (.reg [0,2,6,7,13,14,77] [I 64 (.mv (.s 14)),I 65 (.bin .add (.s 64) (V 1)),I 66 (.mv (.s 13)),I 67 (.len 1 (.s 66)),I 68 (.bin .lss (.s 65) (.s 67)),I 69 (.mv (.s 68)),G 70 69 true (.mv (.s 2)),G 71 69 true (.mv (.s 13)),G 72 69 true (.mv (.s 14)),G 73 69 true (.ixS 7 (.s 71) (.s 72)),G 74 69 true (.ld true 7 (.s 73)),G 75 69 true (C Qg [(.s 74)]),G 76 69 true (.bin .geq (.s 70) (.s 75)),I 77 (.pick (.s 69) (.s 76) (.v (.bool false)))])
def ZYD:PC :=
 (.reg [0,2,6,7,13,14] [I 78 (.mv (.s 2)),I 79 (.mv (.s 13)),I 80 (.mv (.s 14)),I 81 (.ixS 7 (.s 79) (.s 80)),I 82 (.ld true 7 (.s 81)),I 83 (C Qg [(.s 82)]),I 84 (.bin .sub (.s 78) (.s 83)),I 2 (.mv (.s 84))])
def ZYE:PC :=
 (.reg [0,2,6,7,13,14] [I 85 (.mv (.s 14)),I 86 (.bin .add (.s 85) (V 1)),I 14 (.mv (.s 86))])
def ZIG:PC :=
 (.seq (.seq ZYC
 (.ite (.s 77)
 .skip
 (.exit 0)))
 (.block 1
 (.seq ZYD
 ZYE)))
def ZYF:PC :=
 (.reg [0,2,6,7,13,14,88] [I 87 (.mv (.s 2)),I 88 (.bin .eql (.s 87) (V 0))])
def ZYG:PC :=
 (.reg [6,7,8] [I 89 (.mv (.s 13)),I 90 (.mv (.s 14)),I 91 (.slc 7 (.s 89) none (some (.s 90))),I 92 (.call .pure (.v (.func (.func QH) [] [])) [(.s 91)]),I 93 (.mv (.s 13)),I 94 (.mv (.s 14)),I 95 (.slc 7 (.s 93) (some (.s 94)) none),I 96 (C QH [(.s 95)]),J (.st 7 (.s 6) (.s 92)),J (.st 7 (.s 7) (.s 96)),I 8 (.mv (V 0))])
def ZYH:PC :=
 (.reg [0,6,7,8,13,14,15,16] [I 98 (.mv (.s 0)),I 99 (.mv (.s 13)),I 100 (.mv (.s 14)),I 101 (.ixS 7 (.s 99) (.s 100)),I 102 (.ld true 7 (.s 101)),I 103 (.mv (.s 2)),I 104 (C ZAM [(.s 98),(.s 102),(.s 103)]),I 97 (.mv (.s 104)),I 105 (.ext (.s 97) 0),I 106 (.ext (.s 97) 1),I 107 (.ext (.s 97) 2),I 15 (.box (.v ZT)),I 16 (.box (.v ZT)),J (.st 7 (.s 15) (.s 105)),J (.st 7 (.s 16) (.s 106)),I 8 (.mv (.s 107))])
def ZYI:PC :=
 (.reg [0,6,7,8,13,14,15,16,109] [I 108 (.mv (.s 8)),I 109 (.bin .neq (.s 108) (V 0))])
def ZYJ:PC :=
 (.reg [6,7,8] [I 110 (.build [(.int .u64 0),(.int .i64 0),(.int .i64 0),(.int .i64 0),(.int .i64 0),(.str []),.nils] []),I 111 (.build [(.int .u64 0),(.int .i64 0),(.int .i64 0),(.int .i64 0),(.int .i64 0),(.str []),.nils] []),I 112 (.mv (.s 8)),J (.st 7 (.s 6) (.s 110)),J (.st 7 (.s 7) (.s 111)),I 8 (.mv (.s 112))])
def ZYK:PC :=
 (.reg [0,6,7,8,13,14,16] [I 114 (.mv (.s 0)),I 115 (.mv (.s 13)),I 116 (.mv (.s 14)),I 117 (.slc 7 (.s 115) none (some (.s 116))),I 118 (.call .pure (.v (.func (.func QH) [] [])) [(.s 117)]),I 119 (.ld true 7 (.s 15)),I 120 (C YT [(.s 114),(.s 118),(.s 119)]),I 113 (.mv (.s 120)),I 121 (.ext (.s 113) 0),I 122 (.ext (.s 113) 1),J (.st 7 (.s 6) (.s 121)),I 8 (.mv (.s 122))])
def ZYL:PC :=
 (.reg [0,6,7,8,13,14,16,124] [I 123 (.mv (.s 8)),I 124 (.bin .neq (.s 123) (V 0))])
def ZYM:PC :=
 (.reg [6,7,8] [I 125 (.build [(.int .u64 0),(.int .i64 0),(.int .i64 0),(.int .i64 0),(.int .i64 0),(.str []),.nils] []),I 126 (.build [(.int .u64 0),(.int .i64 0),(.int .i64 0),(.int .i64 0),(.int .i64 0),(.str []),.nils] []),I 127 (.mv (.s 8)),J (.st 7 (.s 6) (.s 125)),J (.st 7 (.s 7) (.s 126)),I 8 (.mv (.s 127))])
def ZYN:PC :=
 (.reg [6,7,8] [I 129 (.mv (.s 0)),I 130 (.ld true 7 (.s 16)),I 131 (.mv (.s 13)),I 132 (.mv (.s 14)),I 133 (.bin .add (.s 132) (V 1)),I 134 (.slc 7 (.s 131) (some (.s 133)) none),I 135 (.call .pure (.v (.func (.func QH) [] [])) [(.s 134)]),I 136 (C YT [(.s 129),(.s 130),(.s 135)]),I 128 (.mv (.s 136)),I 137 (.ext (.s 128) 0),I 138 (.ext (.s 128) 1),J (.st 7 (.s 7) (.s 137)),I 8 (.mv (.s 138))])
def ZYO:PC :=
 (.reg [6,7,8,140] [I 139 (.mv (.s 8)),I 140 (.bin .neq (.s 139) (V 0))])
def ZYP:PC :=
 (.reg [6,7,8] [I 141 (.build [(.int .u64 0),(.int .i64 0),(.int .i64 0),(.int .i64 0),(.int .i64 0),(.str []),.nils] []),I 142 (.build [(.int .u64 0),(.int .i64 0),(.int .i64 0),(.int .i64 0),(.int .i64 0),(.str []),.nils] []),I 143 (.mv (.s 8)),J (.st 7 (.s 6) (.s 141)),J (.st 7 (.s 7) (.s 142)),I 8 (.mv (.s 143))])
def ZYQ:PC :=
 (.reg [6,7,8] [I 144 (.ld true 7 (.s 6)),I 145 (.w (.hide [(.s 6)]) (.ld true 7 (.s 7))),J (.w (.plain (.s 6)) (.st 7 (.s 6) (.s 144))),J (.st 7 (.s 7) (.s 145)),I 8 (.mv (V 0))])
def ZUy:PF:=⟨false,
 (.seq ZbR
 (.seq (.seq ZbS
 (.ite (.s 18)
 (.seq ZbT
 .ret)
 .skip))
 (.seq (.seq ZbU
 (.ite (.s 24)
 (.seq ZbV
 .ret)
 .skip))
 (.seq (.seq ZbW
 (.ite (.s 29)
 (.seq ZbX
 (.seq (.seq ZbY
 (.ite (.s 37)
 (.seq ZbZ
 .ret)
 .skip))
 (.seq Zba
 (.seq ZX7
 .ret))))
 .skip))
 (.seq ZX8
 (.seq (.seq ZX9
 (.ite (.s 60)
 (.seq ZYA
 .ret)
 .skip))
 (.seq ZYB
 (.seq (.block 0
 (.loop ZIG))
 (.seq (.seq ZYF
 (.ite (.s 88)
 (.seq ZYG
 .ret)
 .skip))
 (.seq ZYH
 (.seq (.seq ZYI
 (.ite (.s 109)
 (.seq ZYJ
 .ret)
 .skip))
 (.seq (.seq ZYK
 (.seq ZYL
 (.ite (.s 124)
 (.seq ZYM
 .ret)
 .skip)))
 (.seq (.seq ZYN
 (.seq ZYO
 (.ite (.s 140)
 (.seq ZYP
 .ret)
 .skip)))
 (.seq ZYQ
 .ret)))))))))))))),
 [.c 6 true 7,.c 7 true 7,.s 8]⟩
theorem Ze2:Zr Go.Proofs.Try.prog false Ze1 Go.Proofs.Try.f99=some ZUy:=by kernel_rfl
def ZYR:List Hint:=[H [0,4,5,6],H [0,4,5,6,12],H [6,7],H [0,4,5,6,16],H [6,7],H [6,8,9],H [6,8,9,26],H [6,7],H [6,7]]
def ZQD:PC :=
 (.reg [0,4,5,6] [I 4 (.box (.s 1)),I 5 (.box (.s 2)),I 6 (.box (.v ZT)),I 7 (.mv (V 0))])
def ZQE:PC :=
 (.reg [0,4,5,6,12] [I 10 (.ld true 7 (.s 4)),I 11 (C Ql [(.s 10)]),I 12 (.bin .eql (.s 11) (V 1))])
def ZQF:PC :=
 (.reg [6,7] [I 13 (.ld true 7 (.s 5)),J (.st 7 (.s 6) (.s 13)),I 7 (.mv (V 0))])
def ZQG:PC :=
 (.reg [0,4,5,6,16] [I 14 (.ld true 7 (.s 5)),I 15 (C Ql [(.s 14)]),I 16 (.bin .eql (.s 15) (V 1))])
def ZQH:PC :=
 (.reg [6,7] [I 17 (.ld true 7 (.s 4)),J (.st 7 (.s 6) (.s 17)),I 7 (.mv (V 0))])
def ZQI:PC :=
 (.reg [6,8,9] [I 19 (.mv (.s 0)),I 20 (.ld true 7 (.s 4)),I 21 (.ld true 7 (.s 5)),I 22 (C Xj [(.s 19),(.s 20),(.s 21)]),I 18 (.mv (.s 22)),I 23 (.ext (.s 18) 0),I 24 (.ext (.s 18) 1),I 8 (.mv (.s 23)),I 9 (.mv (.s 24))])
def ZQJ:PC :=
 (.reg [6,8,9,26] [I 25 (.mv (.s 9)),I 26 (.bin .neq (.s 25) (V 0))])
def ZQK:PC :=
 (.reg [6,7] [I 27 (.build [(.int .u64 0),(.int .i64 0),(.int .i64 0),(.int .i64 0),(.int .i64 0),(.str []),.nils] []),I 28 (.mv (.s 9)),J (.st 7 (.s 6) (.s 27)),I 7 (.mv (.s 28))])
def ZQL:PC :=
 (.reg [6,7] [I 29 (.mv (.s 8)),I 30 (C QH [(.s 29)]),J (.st 7 (.s 6) (.s 30)),I 7 (.mv (V 0))])
def ZIH:PF:=⟨false,
 (.seq ZQD
 (.seq (.seq ZQE
 (.ite (.s 12)
 (.seq ZQF
 .ret)
 .skip))
 (.seq (.seq ZQG
 (.ite (.s 16)
 (.seq ZQH
 .ret)
 .skip))
 (.seq ZQI
 (.seq (.seq ZQJ
 (.ite (.s 26)
 (.seq ZQK
 .ret)
 .skip))
 (.seq ZQL
 .ret)))))),
 [.c 6 true 7,.s 7]⟩
theorem ZYS:Zr Go.Proofs.Try.prog false ZYR Go.Proofs.Try.f100=some ZIH:=by kernel_rfl
def Zbb:List Hint:=[H [0,2,3,5],H [0,2,3,5,9],H [0,2,5,9,30],H [8],H [0,2,5,32],H [0,2,5,10],H [0,2,5,10,42],H [8],H [0,5,54],H [8],H [0,5,56,57,58],H [0,5,56,57,58,59],H [0,5,12,56,57,58],H [0,5,13,56,57,58],H [0,5,13,56,57,58,69],H [8],H [0,5,56,57,58],H [8]]
def ZUz:PC :=
 (.reg [0,2,3,5] [I 5 (.box (.s 1)),I 8 (.mv (V 0))])
def ZU0:PC :=
 (.reg [0,2,3,5,9] [I 14 (.ld true 7 (.s 5)),I 15 (C Ql [(.s 14)]),I 9 (.mv (.s 15))])
def ZU1:PC :=
 (.reg [0,2,5,9,30] [I 16 (.mv (.s 9)),I 17 (.bin .eql (.s 16) (V 0)),I 18 (.mv (.s 17)),G 19 18 false (.mv (.s 9)),G 20 18 false (.bin .eql (.s 19) (V 1)),I 21 (.pick (.s 18) (.v (.bool true)) (.s 20)),I 22 (.mv (.s 21)),G 23 22 false (.mv (.s 2)),G 24 22 false (.mv (.s 23)),G 25 24 true (.fadr 1 (.s 5)),G 26 24 true (.ld false 1 (.s 25)),G 27 24 true (.mv (.s 3)),G 28 24 true (.bin .neq (.s 26) (.s 27)),G 29 22 false (.pick (.s 24) (.s 28) (.v (.bool false))),I 30 (.pick (.s 22) (.v (.bool true)) (.s 29))])
def ZU2:PC :=
 (.reg [8] [I 8 (.mv (V 23))])
def ZU3:PC :=
 (.reg [0,2,5,32] [I 31 (.mv (.s 9)),I 32 (.bin .eql (.s 31) (V 2))])
def ZU4:PC :=
 (.reg [0,2,5,10] [I 33 (.mv (.s 0)),I 34 (.fadr 0 (.s 5)),I 35 (.ld false 1 (.s 34)),I 36 (.fadr 1 (.s 5)),I 37 (.ld false 1 (.s 36)),I 38 (.fadr 2 (.s 5)),I 39 (.ld true 3 (.s 38)),I 40 (C ZCa [(.s 33),(.s 35),(.s 37),(.s 39)]),I 10 (.mv (.s 40))])
def ZU5:PC :=
 (.reg [0,2,5,10,42] [I 41 (.mv (.s 10)),I 42 (.bin .neq (.s 41) (V 0))])
def ZU6:PC :=
 (.reg [8] [I 43 (.mv (.s 10)),I 8 (.mv (.s 43))])
def ZU7:PC :=
 (.reg [0,5,54] [I 44 (.mv (.s 2)),I 45 (.mv (.s 44)),G 46 45 true (.fadr 1 (.s 5)),G 47 45 true (.ld false 1 (.s 46)),G 48 45 true (.bin .eql (.s 47) (V 0)),I 49 (.pick (.s 45) (.s 48) (.v (.bool false))),I 50 (.mv (.s 49)),G 51 50 true (.ld true 7 (.s 5)),G 52 50 true (C Qg [(.s 51)]),G 53 50 true (.bin .lss (.s 52) (V 8)),I 54 (.pick (.s 50) (.s 53) (.v (.bool false)))])
def ZU8:PC :=
 (.reg [8] [I 8 (.mv (V 23))])
def ZQM:PC :=
 (.reg [0,5,56,57,58] [I 55 (.fadr 6 (.s 5)),I 56 (.ld false 1 (.s 55)),I 57 (.len 1 (.s 56)),I 58 (.mv (V 0))])
def ZQN:PC :=
 (.reg [0,5,56,57,58,59] [I 59 (.bin .lss (.s 58) (.s 57))])
def ZQO:PC :=
 (.reg [0,5,12,56,57,58] [I 60 (.ixS 7 (.s 56) (.s 58)),I 61 (.ld true 7 (.s 60)),I 12 (.box (.v ZT)),J (.st 7 (.s 12) (.s 61))])
def ZQP:PC :=
 (.reg [0,5,13,56,57,58] [I 62 (.mv (.s 0)),I 63 (.ld true 7 (.s 12)),I 64 (.fadr 1 (.s 5)),I 65 (.ld false 1 (.s 64)),I 66 (.bin .sub (.s 65) (V 1)),I 67 (C ZA8 [(.s 62),(.s 63),(.v (.bool true)),(.s 66)]),I 13 (.mv (.s 67))])
def ZQQ:PC :=
 (.reg [0,5,13,56,57,58,69] [I 68 (.mv (.s 13)),I 69 (.bin .neq (.s 68) (V 0))])
def ZQR:PC :=
 (.reg [8] [I 70 (.mv (.s 13)),I 8 (.mv (.s 70))])
def ZQS:PC :=
 (.reg [0,5,56,57,58] [I 71 (.bin .add (.s 58) (V 1)),I 58 (.mv (.s 71))])
def ZFc:PC :=
 (.seq ZQN
 (.seq (.ite (.s 59)
 .skip
 (.exit 0))
 (.seq (.block 1
 (.seq ZQO
 (.seq ZQP
 (.seq ZQQ
 (.ite (.s 69)
 (.seq ZQR
 .ret)
 .skip)))))
 ZQS)))
def ZQT:PC :=
 (.reg [8] [I 8 (.mv (V 0))])
def ZLA:PF:=⟨false,
 (.seq ZUz
 (.seq ZU0
 (.seq (.seq ZU1
 (.ite (.s 30)
 (.seq ZU2
 .ret)
 .skip))
 (.seq (.seq ZU3
 (.ite (.s 32)
 (.seq ZU4
 (.seq ZU5
 (.ite (.s 42)
 (.seq ZU6
 .ret)
 .skip)))
 .skip))
 (.seq (.seq ZU7
 (.ite (.s 54)
 (.seq ZU8
 .ret)
 .skip))
 (.seq (.seq ZQM
 (.block 0
 (.loop ZFc)))
 (.seq ZQT
 .ret))))))),
 [.s 8]⟩
theorem Zbc:Zr Go.Proofs.Try.prog false Zbb Go.Proofs.Try.f101=some ZLA:=by kernel_rfl
def ZU9:List Hint:=[H [1,2,3],H [1,2,3,4],H [2,4],H [2,4,8],H []]
def ZNY:PC :=
 (.reg [1,2,3] [I 3 (.box (.s 0))])
def ZNZ:PC :=
 (.reg [1,2,3,4] [I 4 (.box (.v .nilfunc))])
def ZNa:PC :=
 (.reg [2,4] [I 5 (.mkf (.func J7) [] [(.s 1),(.s 3),(.s 4)]),J (.st 1 (.s 4) (.s 5))])
def ZNb:PC :=
 (.reg [2,4,8] [I 6 (.fadr 0 (.s 2)),I 7 (.ld false 1 (.s 6)),I 8 (.bin .neq (.s 7) (.v (.int .u64 0)))])
def ZNc:PC :=
 (.reg [] [I 9 (.ld false 1 (.s 4)),I 10 (.fadr 0 (.s 2)),I 11 (.ld false 1 (.s 10)),I 12 (.call .norm (.s 9) [(.s 11)])])
def ZGz:PF:=⟨false,
 (.seq ZNY
 (.seq ZNZ
 (.seq ZNa
 (.seq ZNb
 (.ite (.s 8)
 ZNc
 .skip))))),
 []⟩
theorem ZVA:Zr Go.Proofs.Try.prog false ZU9 Go.Proofs.Try.f102=some ZGz:=by kernel_rfl
def ZNd:List Hint:=[H [0,1,2,3],H [0,2,3,6,7],H [3,6,26],H [5],H [3,28,29,30],H [3,28,29,30,31],H [3,9,28,29,30],H [3,28,29,30,38],H [5],H [3,28,29,30],H [5]]
def ZI3:PC :=
 (.reg [0,1,2,3] [I 5 (.mv (.v (.bool false)))])
def ZI4:PC :=
 (.reg [0,2,3,6,7] [I 11 (.ld false 1 (.s 1)),I 12 (.mv (.s 0)),I 13 (C QY [(.s 11),(.s 12)]),I 10 (.mv (.s 13)),I 14 (.ext (.s 10) 0),I 15 (.ext (.s 10) 1),I 6 (.box (.v ZN)),J (.st 3 (.s 6) (.s 14)),I 7 (.mv (.s 15))])
def ZI5:PC :=
 (.reg [3,6,26] [I 16 (.ld false 1 (.s 2)),I 17 (.mv (.s 0)),I 18 (.ld true 3 (.s 6)),I 19 (.mv (.s 7)),I 20 (.build [(.int .i64 0),(.str []),.nils,(.int .i64 0)] [(0,3,(.s 18)),(3,1,(.s 19))]),I 21 (.call .norm (.s 16) [(.s 17),(.s 20)]),I 22 (.un .not (.s 21)),I 23 (.mv (.s 22)),G 24 23 false (.mv (.s 7)),G 25 23 false (.bin .neq (.s 24) (V 0)),I 26 (.pick (.s 23) (.v (.bool true)) (.s 25))])
def ZI6:PC :=
 (.reg [5] [I 5 (.mv (.v (.bool false)))])
def ZI7:PC :=
 (.reg [3,28,29,30] [I 27 (.fadr 2 (.s 6)),I 28 (.ld false 1 (.s 27)),I 29 (.len 1 (.s 28)),I 30 (.mv (V 0))])
def ZI8:PC :=
 (.reg [3,28,29,30,31] [I 31 (.bin .lss (.s 30) (.s 29))])
def ZI9:PC :=
 (.reg [3,9,28,29,30] [I 32 (.ixS 4 (.s 28) (.s 30)),I 33 (.ld true 4 (.s 32)),I 9 (.box (.v ZK)),J (.st 4 (.s 9) (.s 33))])
def ZJA:PC :=
 (.reg [3,28,29,30,38] [I 34 (.ld false 1 (.s 3)),I 35 (.fadr 0 (.s 9)),I 36 (.ld false 1 (.s 35)),I 37 (.call .norm (.s 34) [(.s 36)]),I 38 (.un .not (.s 37))])
def ZJB:PC :=
 (.reg [5] [I 5 (.mv (.v (.bool false)))])
def ZJC:PC :=
 (.reg [3,28,29,30] [I 39 (.bin .add (.s 30) (V 1)),I 30 (.mv (.s 39))])
def ZH5:PC :=
 (.seq ZI8
 (.seq (.ite (.s 31)
 .skip
 (.exit 0))
 (.seq (.block 1
 (.seq ZI9
 (.seq ZJA
 (.ite (.s 38)
 (.seq ZJB
 .ret)
 .skip))))
 ZJC)))
def ZH6:PC :=
 (.reg [5] [I 5 (.mv (.v (.bool true)))])
def ZDd:PF:=⟨false,
 (.seq ZI3
 (.seq ZI4
 (.seq (.seq ZI5
 (.ite (.s 26)
 (.seq ZI6
 .ret)
 .skip))
 (.seq (.seq ZI7
 (.block 0
 (.loop ZH5)))
 (.seq ZH6
 .ret))))),
 [.s 5]⟩
theorem ZNe:Zr Go.Proofs.Try.prog false ZNd Go.Proofs.Try.f103=some ZDd:=by kernel_rfl
def ZG0:List Hint:=[H [0,1],H [0,1,6,7],H [0,1,6,34],H [4,5],H [0,6,7,8],H [4,5]]
def ZEi:PC :=
 (.reg [0,1] [I 4 (.mv (V 0)),I 5 (.mv (.v (.bool false)))])
def ZEj:PC :=
 (.reg [0,1,6,7] [I 10 (.mv (.s 1)),I 11 (C ZAU [(.s 10)]),I 9 (.mv (.s 11)),I 12 (.ext (.s 9) 0),I 13 (.ext (.s 9) 1),I 6 (.mv (.s 12)),I 7 (.mv (.s 13))])
def ZEk:PC :=
 (.reg [0,1,6,34] [I 14 (.mv (.s 7)),I 15 (.bin .neq (.s 14) (V 0)),I 16 (.mv (.s 15)),G 17 16 false (.mv (.s 6)),G 18 16 false (.mv (.s 0)),G 19 16 false (.nilck (.s 18)),G 20 16 false (.fadr 1 (.s 19)),G 21 16 false (.ld false 1 (.s 20)),G 22 16 false (.len 1 (.s 21)),G 23 16 false (.bin .geq (.s 17) (.s 22)),I 24 (.pick (.s 16) (.v (.bool true)) (.s 23)),I 25 (.mv (.s 24)),G 26 25 false (.mv (.s 0)),G 27 25 false (.nilck (.s 26)),G 28 25 false (.fadr 1 (.s 27)),G 29 25 false (.ld false 1 (.s 28)),G 30 25 false (.mv (.s 6)),G 31 25 false (.ixS 1 (.s 29) (.s 30)),G 32 25 false (.ld false 1 (.s 31)),G 33 25 false (.bin .neq (.s 32) (.v (.int .u8 1))),I 34 (.pick (.s 25) (.v (.bool true)) (.s 33))])
def ZEl:PC :=
 (.reg [4,5] [I 4 (.mv (V 0)),I 5 (.mv (.v (.bool false)))])
def ZEm:PC :=
 (.reg [0,6,7,8] [I 36 (.mv (.s 1)),I 37 (C ZEN [(.s 36)]),I 35 (.mv (.s 37)),I 38 (.ext (.s 35) 0),I 39 (.ext (.s 35) 1),I 8 (.mv (.s 38)),I 7 (.mv (.s 39))])
def ZEn:PC :=
 (.reg [4,5] [I 40 (.mv (.s 6)),I 41 (.mv (.s 7)),I 42 (.bin .eql (.s 41) (V 0)),I 43 (.mv (.s 42)),G 44 43 true (.mv (.s 8)),G 45 43 true (.mv (.s 0)),G 46 43 true (.nilck (.s 45)),G 47 43 true (.fadr 2 (.s 46)),G 48 43 true (.ld false 1 (.s 47)),G 49 43 true (.mv (.s 6)),G 50 43 true (.ixS 1 (.s 48) (.s 49)),G 51 43 true (.ld false 1 (.s 50)),G 52 43 true (.bin .eql (.s 44) (.s 51)),I 53 (.pick (.s 43) (.s 52) (.v (.bool false))),I 4 (.mv (.s 40)),I 5 (.mv (.s 53))])
def ZAi:PF:=⟨false,
 (.seq ZEi
 (.seq ZEj
 (.seq (.seq ZEk
 (.ite (.s 34)
 (.seq ZEl
 .ret)
 .skip))
 (.seq ZEm
 (.seq ZEn
 .ret))))),
 [.s 4,.s 5]⟩
theorem ZG1:Zr Go.Proofs.Try.prog false ZG0 Go.Proofs.Try.f106=some ZAi:=by kernel_rfl
def ZGB:List Hint:=[H [0,1],⟨[0,1,5],[0],[],[],[],[]⟩,H [0,1,5,9],H [4],H [1,5,14,15,16],H [1,5,14,15,16,17],H [1,5,6,7,14,15,16],H [1,5,6,14,15,16,23],H [1,5,14,15,16],H [1,5,14,15,16],H [4]]
def ZDe:PC :=
 (.reg [0,1] [I 4 (.mv (.v .nils))])
def ZDf:PC :=
 (.reg [0,1,5] [I 5 (.onil 1)])
def ZDg:PC :=
 (.reg [0,1,5,9] [I 8 (.mv (.s 0)),I 9 (.eqs false 3 [] (.s 8) (.v .nilptr))])
def ZDh:PC :=
 (.reg [4] [I 10 (.mv (.s 5)),I 4 (.mv (.s 10))])
def ZDi:PC :=
 (.reg [1,5,14,15,16] [I 11 (.mv (.s 0)),I 12 (.nilck (.s 11)),I 13 (.fadr 1 (.s 12)),I 14 (.ld false 1 (.s 13)),I 15 (.len 1 (.s 14)),I 16 (.mv (V 0))])
def ZDj:PC :=
 (.reg [1,5,14,15,16,17] [I 17 (.bin .lss (.s 16) (.s 15))])
def ZDk:PC :=
 (.reg [1,5,6,7,14,15,16] [I 18 (.mv (.s 16)),I 19 (.ixS 1 (.s 14) (.s 16)),I 20 (.ld false 1 (.s 19)),I 6 (.mv (.s 18)),I 7 (.mv (.s 20))])
def ZDl:PC :=
 (.reg [1,5,6,14,15,16,23] [I 21 (.mv (.s 7)),I 22 (.mv (.s 1)),I 23 (.bin .eql (.s 21) (.s 22))])
def ZDm:PC :=
 (.reg [1,5,14,15,16] [I 24 (.mv (.s 5)),I 25 (.mv (.s 6)),I 26 (.bslice false 1 [(.int .i64 0)] [(0,(.s 25))]),I 27 (.app 1 8 (.s 24) (.s 26)),I 5 (.mv (.s 27))])
def ZDn:PC :=
 (.reg [1,5,14,15,16] [I 28 (.bin .add (.s 16) (V 1)),I 16 (.mv (.s 28))])
def ZC8:PC :=
 (.seq ZDj
 (.seq (.ite (.s 17)
 .skip
 (.exit 0))
 (.seq (.block 1
 (.seq ZDk
 (.seq ZDl
 (.ite (.s 23)
 ZDm
 .skip))))
 ZDn)))
def ZC9:PC :=
 (.reg [4] [I 29 (.mv (.s 5)),I 4 (.mv (.s 29))])
def X7:PF:=⟨false,
 (.seq ZDe
 (.seq ZDf
 (.seq (.seq ZDg
 (.ite (.s 9)
 (.seq ZDh
 .ret)
 .skip))
 (.seq (.seq ZDi
 (.block 0
 (.loop ZC8)))
 (.seq ZC9
 .ret))))),
 [.s 4]⟩
theorem ZGC:Zr Go.Proofs.Try.prog false ZGB Go.Proofs.Try.f107=some X7:=by kernel_rfl
def ZG2:List Hint:=[H [0,1],H [0,1,9],H [4,5],H [0,6,7],H [0,6,17],H [4,5],H [0,6,29],H [],H [4,5],H [0,6],H [0,6],H [],H [4,5]]
def ZEo:PC :=
 (.reg [0,1] [I 4 (.mv (.v (.bool false))),I 5 (.mv (V 0))])
def ZEp:PC :=
 (.reg [0,1,9] [I 8 (.mv (.s 0)),I 9 (.eqs false 3 [] (.s 8) (.v .nilptr))])
def ZEq:PC :=
 (.reg [4,5] [I 4 (.mv (.v (.bool false))),I 5 (.mv (V 1))])
def ZEr:PC :=
 (.reg [0,6,7] [I 11 (.mv (.s 0)),I 12 (.mv (.s 1)),I 13 (C Jp [(.s 11),(.s 12)]),I 10 (.mv (.s 13)),I 14 (.ext (.s 10) 0),I 15 (.ext (.s 10) 1),I 6 (.mv (.s 14)),I 7 (.mv (.s 15))])
def ZEs:PC :=
 (.reg [0,6,17] [I 16 (.mv (.s 7)),I 17 (.un .not (.s 16))])
def ZEt:PC :=
 (.reg [4,5] [I 4 (.mv (.v (.bool false))),I 5 (.mv (V 10))])
def ZEu:PC :=
 (.reg [0,6,29] [I 18 (.mv (.s 0)),I 19 (.nilck (.s 18)),I 20 (.fadr 2 (.s 19)),I 21 (.ld false 1 (.s 20)),I 22 (.mv (.s 6)),I 23 (.ixS 1 (.s 21) (.s 22)),I 24 (.ld false 1 (.s 23)),I 25 (.mv (.s 0)),I 26 (.nilck (.s 25)),I 27 (.fadr 3 (.s 26)),I 28 (.ld false 1 (.s 27)),I 29 (.bin .eql (.s 24) (.s 28))])
def ZEv:PC :=
 (.reg [] [I 30 (.mv (.s 0)),I 31 (.nilck (.s 30)),I 32 (.fadr 1 (.s 31)),I 33 (.ld false 1 (.s 32)),I 34 (.mv (.s 6)),I 35 (.ixS 1 (.s 33) (.s 34)),J (.st 1 (.s 35) (.v (.int .u8 2)))])
def ZEw:PC :=
 (.reg [4,5] [I 4 (.mv (.v (.bool true))),I 5 (.mv (V 0))])
def ZEx:PC :=
 (.reg [0,6] [I 36 (.mv (.s 0)),I 37 (.nilck (.s 36)),I 38 (.fadr 2 (.s 37)),I 39 (.ld false 1 (.s 38)),I 40 (.mv (.s 6)),I 41 (.ixS 1 (.s 39) (.s 40)),I 42 (.ld false 1 (.s 41)),I 43 (.bin .add (.s 42) (.v (.int .u64 1))),I 44 (.ixS 1 (.s 39) (.s 40)),J (.st 1 (.s 44) (.s 43))])
def ZDo:PC :=
 (.reg [0,6] [I 45 (.mv (.s 0)),I 46 (.nilck (.s 45)),I 47 (.fadr 1 (.s 46)),I 48 (.ld false 1 (.s 47)),I 49 (.mv (.s 6)),I 50 (.ixS 1 (.s 48) (.s 49)),J (.st 1 (.s 50) (.v (.int .u8 0)))])
def ZDp:PC :=
 (.reg [] [I 51 (.mv (.s 0)),I 52 (.mv (.s 0)),I 53 (.nilck (.s 52)),I 54 (.fadr 0 (.s 53)),I 55 (.ld false 1 (.s 54)),I 56 (.mv (.s 6)),I 57 (.bslice false 1 [(.int .i64 0)] [(0,(.s 56))]),I 58 (.app 1 8 (.s 55) (.s 57)),I 59 (.nilck (.s 51)),I 60 (.fadr 0 (.s 59)),J (.st 1 (.s 60) (.s 58))])
def ZDq:PC :=
 (.reg [4,5] [I 4 (.mv (.v (.bool false))),I 5 (.mv (V 0))])
def ZAj:PF:=⟨false,
 (.seq ZEo
 (.seq (.seq ZEp
 (.ite (.s 9)
 (.seq ZEq
 .ret)
 .skip))
 (.seq ZEr
 (.seq (.seq ZEs
 (.ite (.s 17)
 (.seq ZEt
 .ret)
 .skip))
 (.seq (.seq ZEu
 (.ite (.s 29)
 (.seq ZEv
 (.seq ZEw
 .ret))
 .skip))
 (.seq ZEx
 (.seq ZDo
 (.seq ZDp
 (.seq ZDq
 .ret))))))))),
 [.s 4,.s 5]⟩
theorem ZG3:Zr Go.Proofs.Try.prog false ZG2 Go.Proofs.Try.f108=some ZAj:=by kernel_rfl
def ZVB:List Hint:=[H [1,2],H [1,2,4],H [1,2,4,8],H [2,3],H [2,3]]
def ZNf:PC :=
 (.reg [1,2] [I 1 (.box (.s 0)),I 2 (.box (.v ZM)),I 3 (.mv (V 0))])
def ZNg:PC :=
 (.reg [1,2,4] [I 5 (.ld true 3 (.s 1)),I 6 (C ZA9 [(.s 5)]),I 4 (.mv (.s 6))])
def ZNh:PC :=
 (.reg [1,2,4,8] [I 7 (.mv (.s 4)),I 8 (.bin .neq (.s 7) (V 0))])
def ZNi:PC :=
 (.reg [2,3] [I 9 (.build [(.int .i64 0),(.int .i64 0),(.int .i64 0)] []),I 10 (.mv (.s 4)),J (.st 3 (.s 2) (.s 9)),I 3 (.mv (.s 10))])
def ZNj:PC :=
 (.reg [2,3] [I 11 (.ld true 3 (.s 1)),I 12 (C ZBg [(.s 11)]),J (.st 3 (.s 2) (.s 12)),I 3 (.mv (V 0))])
def ZG4:PF:=⟨false,
 (.seq ZNf
 (.seq (.seq ZNg
 (.seq ZNh
 (.ite (.s 8)
 (.seq ZNi
 .ret)
 .skip)))
 (.seq ZNj
 .ret))),
 [.c 2 true 3,.s 3]⟩
theorem ZVC:Zr Go.Proofs.Try.prog false ZVB Go.Proofs.Try.f109=some ZG4:=by kernel_rfl
def ZVD:List Hint:=[H [3,4,5],⟨[],[6],[],[],[(0,(.only (.s 3))),(7,(.grow (.s 3)))],[]⟩]
def ZNk:PC :=
 (.reg [3,4,5] [I 3 (.box (.s 0)),I 4 (.box (.s 1)),I 5 (.box (.s 2))])
def ZNl:PC :=
 (.reg [] [I 6 (.w (.only (.s 3)) (.ld false 1 (.s 3))),I 7 (.ld false 1 (.s 3)),I 8 (.nilck (.s 7)),I 9 (.fadr 1 (.s 8)),I 10 (.ld false 1 (.s 9)),I 11 (.mkf (.func Yt) [] [(.s 3),(.s 5),(.s 4)]),I 12 (.bslice true 1 [.nilfunc] [(0,(.s 11))]),I 13 (.w (.grow (.s 3)) (.app 1 8 (.s 10) (.s 12))),I 14 (.nilck (.s 6)),I 15 (.fadr 1 (.s 14)),J (.st 1 (.s 15) (.s 13))])
def ZG5:PF:=⟨true,
 (.seq ZNk
 ZNl),
 []⟩
theorem ZVE:Zr Go.Proofs.Try.prog true ZVD Go.Proofs.Try.f110=some ZG5:=by kernel_rfl
def ZNm:List Hint:=[H [0,1],H [1]]
def ZJD:PC :=
 (.reg [0,1] [I 1 (.box (.v ZN))])
def ZJE:PC :=
 (.reg [1] [I 2 (.ld true 3 (.s 0)),J (.st 3 (.s 1) (.s 2))])
def ZDr:PF:=⟨false,
 (.seq ZJD
 (.seq ZJE
 .ret)),
 [.c 1 true 3]⟩
theorem ZNn:Zr Go.Proofs.Try.prog false ZNm Go.Proofs.Try.f111=some ZDr:=by kernel_rfl
def ZNo:List Hint:=[H [0,1,2],H [1,2,3],H [2,3,9,10,11],H [2,3,9,10,11,12],H [2,3,5,9,10,11],⟨[2,3,9,10,11],[],[],[],[(11,.imm)],[]⟩,H [2,3,9,10,11],H [2]]
def ZJF:PC :=
 (.reg [0,1,2] [I 2 (.box (.v ZN))])
def ZJG:PC :=
 (.reg [1,2,3] [I 6 (.fadr 1 (.s 0)),I 7 (.ld false 1 (.s 6)),I 8 (.build [(.int .i64 0),(.str []),.nils] [(0,1,(.s 7))]),I 3 (.box (.v ZN)),J (.st 3 (.s 3) (.s 8))])
def ZJH:PC :=
 (.reg [2,3,9,10,11] [I 9 (.ld false 1 (.s 1)),I 10 (.len 1 (.s 9)),I 11 (.mv (V 0))])
def ZJI:PC :=
 (.reg [2,3,9,10,11,12] [I 12 (.bin .lss (.s 11) (.s 10))])
def ZJJ:PC :=
 (.reg [2,3,5,9,10,11] [I 13 (.ixS 1 (.s 9) (.s 11)),I 14 (.ld false 1 (.s 13)),I 5 (.mv (.s 14))])
def ZJK:PC :=
 (.reg [2,3,9,10,11] [I 15 (.fadr 2 (.s 3)),I 16 (.ld false 1 (.s 15)),I 17 (.mv (.s 5)),I 18 (.nilck (.s 17)),I 19 (.fadr 0 (.s 18)),I 20 (.ld false 1 (.s 19)),I 21 (.mv (.s 5)),I 22 (.nilck (.s 21)),I 23 (.fadr 2 (.s 22)),I 24 (.ld true 3 (.s 23)),I 25 (.build [(.int .u64 0),(.int .i64 0),(.int .i64 0),(.int .i64 0)] [(0,1,(.s 20)),(1,3,(.s 24))]),I 26 (.w .imm (.bslice false 4 [ZK] [(0,(.s 25))])),I 27 (.app 4 32 (.s 16) (.s 26)),I 28 (.fadr 2 (.s 3)),J (.st 1 (.s 28) (.s 27))])
def ZJL:PC :=
 (.reg [2,3,9,10,11] [I 29 (.bin .add (.s 11) (V 1)),I 11 (.mv (.s 29))])
def ZJM:PC :=
 (.seq ZJI
 (.seq (.ite (.s 12)
 .skip
 (.exit 0))
 (.seq (.block 1
 (.seq ZJJ
 ZJK))
 ZJL)))
def ZJN:PC :=
 (.reg [2] [I 30 (.ld true 3 (.s 3)),J (.st 3 (.s 2) (.s 30))])
def ZDs:PF:=⟨false,
 (.seq ZJF
 (.seq ZJG
 (.seq (.seq ZJH
 (.block 0
 (.loop ZJM)))
 (.seq ZJN
 .ret)))),
 [.c 2 true 3]⟩
theorem ZNp:Zr Go.Proofs.Try.prog false ZNo Go.Proofs.Try.f112=some ZDs:=by kernel_rfl
def ZVF:List Hint:=[H [0,4,5],H [0,4,5,9],H [0,4,5,9,24],H [6,7],H [0,4,5,10],H [0,4,5,10,30],H [6,7],H [0,4,5,11],H [0,4,11,34,35,36],H [0,4,11,34,35,36,37],H [0,4,11,13,34,35,36],H [0,4,11,14,34,35,36],H [0,4,11,14,34,35,36,45],H [6,7],H [0,4,11,34,35,36],⟨[0,4,11,15],[0],[],[],[],[]⟩,H [0,4,11,15,50],H [6,7],H [15,16],H [15,16,58],H [6,7],H [6,7]]
def ZNq:PC :=
 (.reg [0,4,5] [I 4 (.box (.s 1)),I 5 (.box (.s 2)),I 6 (.mv (.v .nils)),I 7 (.mv (V 0))])
def ZNr:PC :=
 (.reg [0,4,5,9] [I 18 (.mv (.s 0)),I 19 (.ld true 5 (.s 4)),I 20 (C Yh [(.s 18),(.s 19)]),I 17 (.mv (.s 20)),I 21 (.ext (.s 17) 0),I 22 (.ext (.s 17) 1),I 8 (.box (.v ZT)),J (.st 7 (.s 8) (.s 21)),I 9 (.mv (.s 22))])
def ZNs:PC :=
 (.reg [0,4,5,9,24] [I 23 (.mv (.s 9)),I 24 (.bin .neq (.s 23) (V 0))])
def ZNt:PC :=
 (.reg [6,7] [I 25 (.mv (.s 9)),I 6 (.mv (.v .nils)),I 7 (.mv (.s 25))])
def ZNu:PC :=
 (.reg [0,4,5,10] [I 26 (.mv (.s 0)),I 27 (.ld true 7 (.s 5)),I 28 (C YK [(.s 26),(.s 27)]),I 10 (.mv (.s 28))])
def ZNv:PC :=
 (.reg [0,4,5,10,30] [I 29 (.mv (.s 10)),I 30 (.bin .neq (.s 29) (V 0))])
def ZNw:PC :=
 (.reg [6,7] [I 31 (.mv (.s 10)),I 6 (.mv (.v .nils)),I 7 (.mv (.s 31))])
def ZNx:PC :=
 (.reg [0,4,5,11] [I 32 (.mkmap),I 11 (.box (.v .nilmap)),J (.st 1 (.s 11) (.s 32))])
def ZNy:PC :=
 (.reg [0,4,11,34,35,36] [I 33 (.ld true 7 (.s 5)),I 34 (C ZGW [(.s 33)]),I 35 (.len 1 (.s 34)),I 36 (.mv (V 0))])
def ZNz:PC :=
 (.reg [0,4,11,34,35,36,37] [I 37 (.bin .lss (.s 36) (.s 35))])
def ZLB:PC :=
 (.reg [0,4,11,13,34,35,36] [I 38 (.ixS 1 (.s 34) (.s 36)),I 39 (.ld false 1 (.s 38)),I 13 (.mv (.s 39))])
def ZLC:PC :=
 (.reg [0,4,11,14,34,35,36] [I 40 (.mv (.s 0)),I 41 (.mv (.s 13)),I 42 (.ld false 1 (.s 11)),I 43 (C JD [(.s 40),(.s 41),(.s 42),(.v (.func (.func J8) [] []))]),I 14 (.mv (.s 43))])
def ZLD:PC :=
 (.reg [0,4,11,14,34,35,36,45] [I 44 (.mv (.s 14)),I 45 (.bin .neq (.s 44) (V 0))])
def ZLE:PC :=
 (.reg [6,7] [I 46 (.mv (.s 14)),I 6 (.mv (.v .nils)),I 7 (.mv (.s 46))])
def ZLF:PC :=
 (.reg [0,4,11,34,35,36] [I 47 (.bin .add (.s 36) (V 1)),I 36 (.mv (.s 47))])
def ZLG:PC :=
 (.seq ZNz
 (.seq (.ite (.s 37)
 .skip
 (.exit 0))
 (.seq (.block 1
 (.seq ZLB
 (.seq ZLC
 (.seq ZLD
 (.ite (.s 45)
 (.seq ZLE
 .ret)
 .skip)))))
 ZLF)))
def ZLH:PC :=
 (.reg [0,4,11,15] [I 15 (.boxnil 1)])
def ZLI:PC :=
 (.reg [0,4,11,15,50] [I 48 (.fadr 0 (.s 4)),I 49 (.ld false 1 (.s 48)),I 50 (.bin .eql (.s 49) (.v (.int .u64 0)))])
def ZLJ:PC :=
 (.reg [6,7] [I 6 (.mv (.v .nils)),I 7 (.mv (V 0))])
def ZLK:PC :=
 (.reg [15,16] [I 51 (.mv (.s 0)),I 52 (.fadr 0 (.s 4)),I 53 (.ld false 1 (.s 52)),I 54 (.mkmap),I 55 (.mkf (.func J9) [] [(.s 11),(.s 15)]),I 56 (C JD [(.s 51),(.s 53),(.s 54),(.s 55)]),I 16 (.mv (.s 56))])
def ZLL:PC :=
 (.reg [15,16,58] [I 57 (.mv (.s 16)),I 58 (.bin .neq (.s 57) (V 0))])
def ZLM:PC :=
 (.reg [6,7] [I 59 (.mv (.s 16)),I 6 (.mv (.v .nils)),I 7 (.mv (.s 59))])
def ZLN:PC :=
 (.reg [6,7] [I 60 (.ld false 1 (.s 15)),I 6 (.mv (.s 60)),I 7 (.mv (V 0))])
def ZG6:PF:=⟨false,
 (.seq ZNq
 (.seq (.seq ZNr
 (.seq ZNs
 (.ite (.s 24)
 (.seq ZNt
 .ret)
 .skip)))
 (.seq (.seq ZNu
 (.seq ZNv
 (.ite (.s 30)
 (.seq ZNw
 .ret)
 .skip)))
 (.seq ZNx
 (.seq (.seq ZNy
 (.block 0
 (.loop ZLG)))
 (.seq ZLH
 (.seq (.seq ZLI
 (.ite (.s 50)
 (.seq ZLJ
 .ret)
 .skip))
 (.seq ZLK
 (.seq (.seq ZLL
 (.ite (.s 58)
 (.seq ZLM
 .ret)
 .skip))
 (.seq ZLN
 .ret)))))))))),
 [.s 6,.s 7]⟩
theorem ZVG:Zr Go.Proofs.Try.prog false ZVF Go.Proofs.Try.f118=some ZG6:=by kernel_rfl
def ZYT:List Hint:=[H [0,1],H [0,1,19],H [4,5],H [4,5]]
def ZQU:PC :=
 (.reg [0,1] [I 4 (.mv (.v (.int .u64 0))),I 5 (.mv (V 0))])
def ZQV:PC :=
 (.reg [0,1,19] [I 6 (.mv (.s 0)),I 7 (.bin .lss (.s 6) (V 0)),I 8 (.mv (.s 7)),G 9 8 false (.mv (.s 0)),G 10 8 false (.bin .geq (.s 9) (V 16384)),I 11 (.pick (.s 8) (.v (.bool true)) (.s 10)),I 12 (.mv (.s 11)),G 13 12 false (.mv (.s 1)),G 14 12 false (.bin .lss (.s 13) (.v (.int .u64 1))),I 15 (.pick (.s 12) (.v (.bool true)) (.s 14)),I 16 (.mv (.s 15)),G 17 16 false (.mv (.s 1)),G 18 16 false (.bin .gtr (.s 17) (.v (.int .u64 4294967295))),I 19 (.pick (.s 16) (.v (.bool true)) (.s 18))])
def ZQW:PC :=
 (.reg [4,5] [I 4 (.mv (.v (.int .u64 0))),I 5 (.mv (V 3))])
def ZQX:PC :=
 (.reg [4,5] [I 20 (.mv (.s 1)),I 21 (.bin .shl (.s 20) (.v (.int .u64 16))),I 22 (.mv (.s 0)),I 23 (.cint .u64 (.s 22)),I 24 (.bin .or (.s 21) (.s 23)),I 4 (.mv (.s 24)),I 5 (.mv (V 0))])
def ZII:PF:=⟨false,
 (.seq ZQU
 (.seq (.seq ZQV
 (.ite (.s 19)
 (.seq ZQW
 .ret)
 .skip))
 (.seq ZQX
 .ret))),
 [.s 4,.s 5]⟩
theorem ZYU:Zr Go.Proofs.Try.prog false ZYT Go.Proofs.Try.f120=some ZII:=by kernel_rfl
def ZYV:List Hint:=[H [1,2],H [1,2,10],H [4],H [1,2,5],H [2,5,17],H [2,5],H [5,6],H [5,6,7],H [6,7,23,24],H [6,7,23,24,25],H [6,7,8,23,24],H [6,7,23,24],H [6,7,23,24],H [4]]
def ZQY:PC :=
 (.reg [1,2] [I 2 (.box (.s 0)),I 4 (.mv (.v .nils))])
def ZQZ:PC :=
 (.reg [1,2,10] [I 9 (.ld false 1 (.s 2)),I 10 (.bin .eql (.s 9) (V 0))])
def ZQa:PC :=
 (.reg [4] [I 4 (.mv (.v .nils))])
def ZQb:PC :=
 (.reg [1,2,5] [I 11 (.ld false 1 (.s 2)),I 12 (.mv (.s 1)),I 13 (.bin .quo (.s 11) (.s 12)),I 5 (.box (V 0)),J (.st 1 (.s 5) (.s 13))])
def ZQc:PC :=
 (.reg [2,5,17] [I 14 (.ld false 1 (.s 2)),I 15 (.mv (.s 1)),I 16 (.bin .rem (.s 14) (.s 15)),I 17 (.bin .gtr (.s 16) (V 0))])
def ZQd:PC :=
 (.reg [2,5] [I 18 (.ld false 1 (.s 5)),I 19 (.bin .add (.s 18) (V 1)),J (.st 1 (.s 5) (.s 19))])
def ZQe:PC :=
 (.reg [5,6] [I 20 (.mkf (.func Jl) [] [(.s 2),(.s 5)]),I 6 (.mv (.s 20))])
def ZQf:PC :=
 (.reg [5,6,7] [I 21 (.ld false 1 (.s 5)),I 22 (.mkslice 1 8 (.int .i64 0) (.s 21) (.s 21)),I 7 (.mv (.s 22))])
def ZQg:PC :=
 (.reg [6,7,23,24] [I 23 (.ld false 1 (.s 5)),I 24 (.mv (V 0))])
def ZQh:PC :=
 (.reg [6,7,23,24,25] [I 25 (.bin .lss (.s 24) (.s 23))])
def ZN0:PC :=
 (.reg [6,7,8,23,24] [I 26 (.mv (.s 24)),I 8 (.mv (.s 26))])
def ZN1:PC :=
 (.reg [6,7,23,24] [I 27 (.mv (.s 7)),I 28 (.mv (.s 8)),I 29 (.mv (.s 6)),I 30 (.mv (.s 8)),I 31 (.call .norm (.s 29) [(.s 30)]),I 32 (.ixS 1 (.s 27) (.s 28)),J (.st 1 (.s 32) (.s 31))])
def ZN2:PC :=
 (.reg [6,7,23,24] [I 33 (.bin .add (.s 24) (V 1)),I 24 (.mv (.s 33))])
def ZDt:PC :=
 (.seq ZQh
 (.seq (.ite (.s 25)
 .skip
 (.exit 0))
 (.seq (.block 1
 (.seq ZN0
 ZN1))
 ZN2)))
def ZN3:PC :=
 (.reg [4] [I 34 (.mv (.s 7)),I 4 (.mv (.s 34))])
def ZIJ:PF:=⟨false,
 (.seq ZQY
 (.seq (.seq ZQZ
 (.ite (.s 10)
 (.seq ZQa
 .ret)
 .skip))
 (.seq ZQb
 (.seq (.seq ZQc
 (.ite (.s 17)
 ZQd
 .skip))
 (.seq ZQe
 (.seq ZQf
 (.seq (.seq ZQg
 (.block 0
 (.loop ZDt)))
 (.seq ZN3
 .ret)))))))),
 [.s 4]⟩
theorem ZYW:Zr Go.Proofs.Try.prog false ZYV Go.Proofs.Try.f121=some ZIJ:=by kernel_rfl
def ZdJ:List Hint:=[H [0,1],H [0,1,9],H [4,5,6],H [0,1,17],H [4,5,6],H [4,5,6]]
def ZYX:PC :=
 (.reg [0,1] [I 4 (.mv (.v (.str []))),I 5 (.mv (.v (.str []))),I 6 (.mv (V 0))])
def ZYY:PC :=
 (.reg [0,1,9] [I 7 (.mv (.s 0)),I 8 (C Xk [(.s 7)]),I 9 (.un .not (.s 8))])
def ZYZ:PC :=
 (.reg [4,5,6] [I 4 (.mv (.v (.str []))),I 5 (.mv (.v (.str []))),I 6 (.mv (V 2))])
def ZYa:PC :=
 (.reg [0,1,17] [I 10 (.mv (.s 1)),I 11 (.bin .lss (.s 10) (V 0)),I 12 (.mv (.s 11)),G 13 12 false (.mv (.s 1)),G 14 12 false (.mv (.s 0)),G 15 12 false (.len 0 (.s 14)),G 16 12 false (.bin .gtr (.s 13) (.s 15)),I 17 (.pick (.s 12) (.v (.bool true)) (.s 16))])
def ZYb:PC :=
 (.reg [4,5,6] [I 4 (.mv (.v (.str []))),I 5 (.mv (.v (.str []))),I 6 (.mv (V 3))])
def ZYc:PC :=
 (.reg [4,5,6] [I 18 (.mv (.s 0)),I 19 (.mv (.s 1)),I 20 (.slcS (.s 18) none (some (.s 19))),I 21 (.mv (.s 0)),I 22 (.mv (.s 1)),I 23 (.slcS (.s 21) (some (.s 22)) none),I 4 (.mv (.s 20)),I 5 (.mv (.s 23)),I 6 (.mv (V 0))])
def ZPB:PF:=⟨false,
 (.seq ZYX
 (.seq (.seq ZYY
 (.ite (.s 9)
 (.seq ZYZ
 .ret)
 .skip))
 (.seq (.seq ZYa
 (.ite (.s 17)
 (.seq ZYb
 .ret)
 .skip))
 (.seq ZYc
 .ret)))),
 [.s 4,.s 5,.s 6]⟩
theorem ZdK:Zr Go.Proofs.Try.prog false ZdJ Go.Proofs.Try.f122=some ZPB:=by kernel_rfl
def Zbd:List Hint:=[H [0,4,5],H [0,4,5,22],H [6,7],H [0,4,5,8,9],H [0,4,5,8,9],H [0,4,5,8,9,33],H [0,4,5,8,9,10],H [0,4,5,8,9,10,41],H [6,7],H [0,4,5,8,9,47],H [0,4,5,8,9,10],H [0,4,5,8,9,10,55],H [6,7],H [0,4,5,8,9,57],H [6,7],H [0,4,5,8,9,78],H [6,7],H [0,4,5,8,9,87],H [0,5,8,11],H [8,11,12,13],H [8,11,12,13,107],H [6,7],H [6,7],H [9,10,14],H [9,10,14,127],H [6,7],⟨[6,7],[],[],[],[(4,.blind),(2,.app0),(0,.imm)],[]⟩]
def ZVH:PC :=
 (.reg [0,4,5] [I 4 (.box (.s 1)),I 5 (.box (.s 2)),I 6 (.mv (.v .nils)),I 7 (.mv (V 0))])
def ZVI:PC :=
 (.reg [0,4,5,22] [I 15 (.fadr 1 (.s 4)),I 16 (.ld false 1 (.s 15)),I 17 (.bin .eql (.s 16) (V 0)),I 18 (.mv (.s 17)),G 19 18 true (.fadr 1 (.s 5)),G 20 18 true (.ld false 1 (.s 19)),G 21 18 true (.bin .eql (.s 20) (V 0)),I 22 (.pick (.s 18) (.s 21) (.v (.bool false)))])
def ZVJ:PC :=
 (.reg [6,7] [I 23 (.mv (.s 0)),I 24 (.ld true 7 (.s 4)),I 25 (.ld true 7 (.s 5)),I 26 (C ZCt [(.s 23),(.s 24),(.s 25)]),I 27 (.ext (.s 26) 0),I 28 (.ext (.s 26) 1),I 6 (.mv (.s 27)),I 7 (.mv (.s 28))])
def ZVK:PC :=
 (.reg [0,4,5,8,9] [I 8 (.mv (.v .nils)),I 9 (.mv (.v .nils))])
def ZVL:PC :=
 (.reg [0,4,5,8,9] [I 10 (.mv (V 0))])
def ZVM:PC :=
 (.reg [0,4,5,8,9,33] [I 29 (.fadr 1 (.s 4)),I 30 (.ld false 1 (.s 29)),I 31 (.fadr 1 (.s 5)),I 32 (.ld false 1 (.s 31)),I 33 (.bin .geq (.s 30) (.s 32))])
def ZVN:PC :=
 (.reg [0,4,5,8,9,10] [I 35 (.mv (.s 0)),I 36 (.ld true 7 (.s 4)),I 37 (C YS [(.s 35),(.s 36)]),I 34 (.mv (.s 37)),I 38 (.ext (.s 34) 0),I 39 (.ext (.s 34) 1),I 8 (.mv (.s 38)),I 10 (.mv (.s 39))])
def ZVO:PC :=
 (.reg [0,4,5,8,9,10,41] [I 40 (.mv (.s 10)),I 41 (.bin .neq (.s 40) (V 0))])
def ZVP:PC :=
 (.reg [6,7] [I 42 (.mv (.s 10)),I 6 (.mv (.v .nils)),I 7 (.mv (.s 42))])
def ZVQ:PC :=
 (.reg [0,4,5,8,9,47] [I 43 (.fadr 1 (.s 5)),I 44 (.ld false 1 (.s 43)),I 45 (.fadr 1 (.s 4)),I 46 (.ld false 1 (.s 45)),I 47 (.bin .geq (.s 44) (.s 46))])
def ZQi:PC :=
 (.reg [0,4,5,8,9,10] [I 49 (.mv (.s 0)),I 50 (.ld true 7 (.s 5)),I 51 (C YS [(.s 49),(.s 50)]),I 48 (.mv (.s 51)),I 52 (.ext (.s 48) 0),I 53 (.ext (.s 48) 1),I 9 (.mv (.s 52)),I 10 (.mv (.s 53))])
def ZQj:PC :=
 (.reg [0,4,5,8,9,10,55] [I 54 (.mv (.s 10)),I 55 (.bin .neq (.s 54) (V 0))])
def ZQk:PC :=
 (.reg [6,7] [I 56 (.mv (.s 10)),I 6 (.mv (.v .nils)),I 7 (.mv (.s 56))])
def ZQl:PC :=
 (.reg [0,4,5,8,9,57] [I 58 (.fadr 1 (.s 4)),I 59 (.ld false 1 (.s 58)),I 60 (.fadr 1 (.s 5)),I 61 (.ld false 1 (.s 60)),I 62 (.bin .eql (.s 59) (.s 61)),I 63 (.mv (.s 62)),G 64 63 true (.mv (.s 8)),G 65 63 true (.len 1 (.s 64)),G 66 63 true (.mv (.s 9)),G 67 63 true (.len 1 (.s 66)),G 68 63 true (.bin .add (.s 65) (.s 67)),G 69 63 true (.bin .leq (.s 68) (V 4)),I 70 (.pick (.s 63) (.s 69) (.v (.bool false))),I 57 (.mv (.s 70))])
def ZQm:PC :=
 (.reg [6,7] [I 71 (.bslice false 7 [] []),I 72 (.mv (.s 8)),I 73 (.app 7 80 (.s 71) (.s 72)),I 74 (.mv (.s 9)),I 75 (.app 7 80 (.s 73) (.s 74)),I 76 (C QH [(.s 75)]),I 77 (.bslice false 7 [ZT] [(0,(.s 76))]),I 6 (.mv (.s 77)),I 7 (.mv (V 0))])
def ZQn:PC :=
 (.reg [0,4,5,8,9,78] [I 79 (.fadr 1 (.s 4)),I 80 (.ld false 1 (.s 79)),I 81 (.fadr 1 (.s 5)),I 82 (.ld false 1 (.s 81)),I 83 (.bin .eql (.s 80) (.s 82)),I 78 (.mv (.s 83))])
def ZQo:PC :=
 (.reg [6,7] [I 84 (.ld true 7 (.s 4)),I 85 (.ld true 7 (.s 5)),I 86 (.bslice false 7 [ZT,ZT] [(0,(.s 84)),(1,(.s 85))]),I 6 (.mv (.s 86)),I 7 (.mv (V 0))])
def ZQp:PC :=
 (.reg [0,4,5,8,9,87] [I 88 (.fadr 1 (.s 4)),I 89 (.ld false 1 (.s 88)),I 90 (.fadr 1 (.s 5)),I 91 (.ld false 1 (.s 90)),I 92 (.bin .gtr (.s 89) (.s 91)),I 87 (.mv (.s 92))])
def ZQq:PC :=
 (.reg [0,5,8,11] [I 93 (.mv (.s 8)),I 94 (.len 1 (.s 93)),I 95 (.bin .sub (.s 94) (V 1)),I 11 (.mv (.s 95))])
def ZQr:PC :=
 (.reg [8,11,12,13] [I 97 (.mv (.s 0)),I 98 (.mv (.s 8)),I 99 (.mv (.s 11)),I 100 (.ixS 7 (.s 98) (.s 99)),I 101 (.ld true 7 (.s 100)),I 102 (.ld true 7 (.s 5)),I 103 (C Xj [(.s 97),(.s 101),(.s 102)]),I 96 (.mv (.s 103)),I 104 (.ext (.s 96) 0),I 105 (.ext (.s 96) 1),I 12 (.mv (.s 104)),I 13 (.mv (.s 105))])
def ZQs:PC :=
 (.reg [8,11,12,13,107] [I 106 (.mv (.s 13)),I 107 (.bin .neq (.s 106) (V 0))])
def ZQt:PC :=
 (.reg [6,7] [I 108 (.mv (.s 13)),I 6 (.mv (.v .nils)),I 7 (.mv (.s 108))])
def ZQu:PC :=
 (.reg [6,7] [I 109 (.bslice false 7 [] []),I 110 (.mv (.s 8)),I 111 (.mv (.s 11)),I 112 (.slc 7 (.s 110) none (some (.s 111))),I 113 (.app 7 80 (.s 109) (.s 112)),I 114 (.mv (.s 12)),I 115 (.app 7 80 (.s 113) (.s 114)),I 116 (C ZCb [(.s 115)]),I 6 (.mv (.s 116)),I 7 (.mv (V 0))])
def ZQv:PC :=
 (.reg [9,10,14] [I 118 (.mv (.s 0)),I 119 (.ld true 7 (.s 4)),I 120 (.mv (.s 9)),I 121 (.ixS 7 (.s 120) (V 0)),I 122 (.ld true 7 (.s 121)),I 123 (C Xj [(.s 118),(.s 119),(.s 122)]),I 117 (.mv (.s 123)),I 124 (.ext (.s 117) 0),I 125 (.ext (.s 117) 1),I 14 (.mv (.s 124)),I 10 (.mv (.s 125))])
def ZQw:PC :=
 (.reg [9,10,14,127] [I 126 (.mv (.s 10)),I 127 (.bin .neq (.s 126) (V 0))])
def ZQx:PC :=
 (.reg [6,7] [I 128 (.mv (.s 10)),I 6 (.mv (.v .nils)),I 7 (.mv (.s 128))])
def ZQy:PC :=
 (.reg [6,7] [I 129 (.w .imm (.bslice false 7 [] [])),I 130 (.mv (.s 14)),I 131 (.w .app0 (.app 7 80 (.s 129) (.s 130))),I 132 (.mv (.s 9)),I 133 (.w .blind (.slc 7 (.s 132) (some (V 1)) none)),I 134 (.app 7 80 (.s 131) (.s 133)),I 135 (C ZCb [(.s 134)]),I 6 (.mv (.s 135)),I 7 (.mv (V 0))])
def ZLO:PF:=⟨false,
 (.seq ZVH
 (.seq (.seq ZVI
 (.ite (.s 22)
 (.seq ZVJ
 .ret)
 .skip))
 (.seq ZVK
 (.seq ZVL
 (.seq (.seq ZVM
 (.ite (.s 33)
 (.seq ZVN
 (.seq ZVO
 (.ite (.s 41)
 (.seq ZVP
 .ret)
 .skip)))
 .skip))
 (.seq (.seq ZVQ
 (.ite (.s 47)
 (.seq ZQi
 (.seq ZQj
 (.ite (.s 55)
 (.seq ZQk
 .ret)
 .skip)))
 .skip))
 (.seq (.block 0
 (.seq ZQl
 (.ite (.s 57)
 (.seq ZQm
 .ret)
 (.seq ZQn
 (.ite (.s 78)
 (.seq ZQo
 .ret)
 (.seq ZQp
 (.ite (.s 87)
 (.seq ZQq
 (.seq ZQr
 (.seq (.seq ZQs
 (.ite (.s 107)
 (.seq ZQt
 .ret)
 .skip))
 (.seq ZQu
 .ret))))
 .skip)))))))
 (.seq ZQv
 (.seq (.seq ZQw
 (.ite (.s 127)
 (.seq ZQx
 .ret)
 .skip))
 (.seq ZQy
 .ret)))))))))),
 [.s 6,.s 7]⟩
theorem Zbe:Zr Go.Proofs.Try.prog false Zbd Go.Proofs.Try.f123=some ZLO:=by kernel_rfl
def ZYd:List Hint:=[H [0],H [0,4],H [0,4,10],H [2,3],H [5],H [2,3]]
def ZQz:PC :=
 (.reg [0] [I 2 (.mv (V 0)),I 3 (.mv (V 0))])
def ZQ0:PC :=
 (.reg [0,4] [I 7 (.mv (.s 0)),I 8 (C YA [(.s 7)]),I 4 (.mv (.s 8))])
def ZQ1:PC :=
 (.reg [0,4,10] [I 9 (.mv (.s 4)),I 10 (.bin .neq (.s 9) (V 0))])
def ZQ2:PC :=
 (.reg [2,3] [I 11 (.mv (.s 4)),I 2 (.mv (V 0)),I 3 (.mv (.s 11))])
def ZQ3:PC :=
 (.reg [5] [I 13 (.mv (.s 0)),I 14 (C Yk [(.s 13)]),I 12 (.mv (.s 14)),I 15 (.ext (.s 12) 0),I 16 (.ext (.s 12) 1),I 5 (.mv (.s 15)),I 6 (.mv (.s 16))])
def ZQ4:PC :=
 (.reg [2,3] [I 17 (.mv (.s 5)),I 2 (.mv (.s 17)),I 3 (.mv (V 0))])
def ZIK:PF:=⟨false,
 (.seq ZQz
 (.seq (.seq ZQ0
 (.seq ZQ1
 (.ite (.s 10)
 (.seq ZQ2
 .ret)
 .skip)))
 (.seq ZQ3
 (.seq ZQ4
 .ret)))),
 [.s 2,.s 3]⟩
theorem ZYe:Zr Go.Proofs.Try.prog false ZYd Go.Proofs.Try.f126=some ZIK:=by kernel_rfl
def Zbf:List Hint:=[H [0],H [0,4],H [0,4,10],H [2,3],H [6],H [2,3]]
def ZVR:PC :=
 (.reg [0] [I 2 (.mv (.v (.int .u64 0))),I 3 (.mv (V 0))])
def ZVS:PC :=
 (.reg [0,4] [I 7 (.mv (.s 0)),I 8 (C YA [(.s 7)]),I 4 (.mv (.s 8))])
def ZVT:PC :=
 (.reg [0,4,10] [I 9 (.mv (.s 4)),I 10 (.bin .neq (.s 9) (V 0))])
def ZVU:PC :=
 (.reg [2,3] [I 11 (.mv (.s 4)),I 2 (.mv (.v (.int .u64 0))),I 3 (.mv (.s 11))])
def ZVV:PC :=
 (.reg [6] [I 13 (.mv (.s 0)),I 14 (C Yk [(.s 13)]),I 12 (.mv (.s 14)),I 15 (.ext (.s 12) 0),I 16 (.ext (.s 12) 1),I 5 (.mv (.s 15)),I 6 (.mv (.s 16))])
def ZVW:PC :=
 (.reg [2,3] [I 17 (.mv (.s 6)),I 2 (.mv (.s 17)),I 3 (.mv (V 0))])
def ZLP:PF:=⟨false,
 (.seq ZVR
 (.seq (.seq ZVS
 (.seq ZVT
 (.ite (.s 10)
 (.seq ZVU
 .ret)
 .skip)))
 (.seq ZVV
 (.seq ZVW
 .ret)))),
 [.s 2,.s 3]⟩
theorem Zbg:Zr Go.Proofs.Try.prog false Zbf Go.Proofs.Try.f127=some ZLP:=by kernel_rfl
def Zbh:List Hint:=[H [1],H [1,5],H [2],H [9],H [2],H [2]]
def ZVX:PC :=
 (.reg [1] [I 1 (.box (.s 0)),I 2 (.mv (V 0))])
def ZVY:PC :=
 (.reg [1,5] [I 3 (.ld true 3 (.s 1)),I 4 (C ZAV [(.s 3)]),I 5 (.un .not (.s 4))])
def ZVZ:PC :=
 (.reg [2] [I 2 (.mv (V 23))])
def ZVa:PC :=
 (.reg [9] [I 6 (.ld true 3 (.s 1)),I 7 (C ZBg [(.s 6)]),I 8 (.fld false 0 1 (.s 7)),I 9 (.bin .gtr (.s 8) (V 65536))])
def ZVb:PC :=
 (.reg [2] [I 2 (.mv (V 5))])
def ZVc:PC :=
 (.reg [2] [I 2 (.mv (V 0))])
def ZLQ:PF:=⟨false,
 (.seq ZVX
 (.seq (.seq ZVY
 (.ite (.s 5)
 (.seq ZVZ
 .ret)
 .skip))
 (.seq (.seq ZVa
 (.ite (.s 9)
 (.seq ZVb
 .ret)
 .skip))
 (.seq ZVc
 .ret)))),
 [.s 2]⟩
theorem Zbi:Zr Go.Proofs.Try.prog false Zbh Go.Proofs.Try.f128=some ZLQ:=by kernel_rfl
def Ze3:List Hint:=[H [1,2],H [1,2,8],H [2],⟨[1,2,3],[0],[],[],[],[]⟩,H [2,3,13,14,15],H [2,3,13,14,15,16],H [2,3,5,13,14,15],H [2,3,13,14,15],H [2,3,13,14,15],H [2]]
def Zbj:PC :=
 (.reg [1,2] [I 1 (.box (.s 0)),I 2 (.box (.v ZM))])
def Zbk:PC :=
 (.reg [1,2,8] [I 6 (.fadr 0 (.s 1)),I 7 (.ld false 1 (.s 6)),I 8 (.bin .eql (.s 7) (V 0))])
def Zbl:PC :=
 (.reg [2] [I 9 (.fadr 1 (.s 1)),I 10 (.ld false 1 (.s 9)),I 11 (C ZEO [(.s 10)]),J (.st 3 (.s 2) (.s 11))])
def Zbm:PC :=
 (.reg [1,2,3] [I 3 (.onil 3)])
def Zbn:PC :=
 (.reg [2,3,13,14,15] [I 12 (.fadr 2 (.s 1)),I 13 (.ld false 1 (.s 12)),I 14 (.len 1 (.s 13)),I 15 (.mv (V 0))])
def Zbo:PC :=
 (.reg [2,3,13,14,15,16] [I 16 (.bin .lss (.s 15) (.s 14))])
def Zbp:PC :=
 (.reg [2,3,5,13,14,15] [I 17 (.ixS 4 (.s 13) (.s 15)),I 18 (.ld true 4 (.s 17)),I 5 (.box (.v ZK)),J (.st 4 (.s 5) (.s 18))])
def Zbq:PC :=
 (.reg [2,3,13,14,15] [I 19 (.mv (.s 3)),I 20 (.fadr 1 (.s 5)),I 21 (.ld true 3 (.s 20)),I 22 (.bslice false 3 [ZM] [(0,(.s 21))]),I 23 (.app 3 24 (.s 19) (.s 22)),I 3 (.mv (.s 23))])
def Zbr:PC :=
 (.reg [2,3,13,14,15] [I 24 (.bin .add (.s 15) (V 1)),I 15 (.mv (.s 24))])
def Zbs:PC :=
 (.seq Zbo
 (.seq (.ite (.s 16)
 .skip
 (.exit 0))
 (.seq (.block 1
 (.seq Zbp
 Zbq))
 Zbr)))
def ZYf:PC :=
 (.reg [2] [I 25 (.mv (.s 3)),I 26 (C ZCu [(.s 25)]),J (.st 3 (.s 2) (.s 26))])
def ZVd:PF:=⟨false,
 (.seq Zbj
 (.seq (.seq Zbk
 (.ite (.s 8)
 (.seq Zbl
 .ret)
 .skip))
 (.seq Zbm
 (.seq (.seq Zbn
 (.block 0
 (.loop Zbs)))
 (.seq ZYf
 .ret))))),
 [.c 2 true 3]⟩
theorem Ze4:Zr Go.Proofs.Try.prog false Ze3 Go.Proofs.Try.f129=some ZVd:=by kernel_rfl
def ZN4:List Hint:=[H [0,1,2],⟨[2,5,6],[],[(5,.pure)],[],[],[]⟩,H [2,5,6,18],H [5,6],H [3,4]]
def ZJO:PC :=
 (.reg [0,1,2] [I 3 (.mv (.v (.int .u64 0))),I 4 (.mv (V 0))])
def ZJP:PC :=
 (.reg [2,5,6] [I 8 (.ld false 1 (.s 0)),I 9 (.nilck (.s 8)),I 10 (.fadr 0 (.s 9)),I 11 (.ld false 1 (.s 10)),I 12 (.ld false 1 (.s 1)),I 13 (.call .pure (.s 12) []),I 14 (C JN [(.s 11),(.s 13)]),I 7 (.mv (.s 14)),I 15 (.ext (.s 7) 0),I 16 (.ext (.s 7) 1),I 5 (.mv (.s 15)),I 6 (.mv (.s 16))])
def ZJQ:PC :=
 (.reg [2,5,6,18] [I 17 (.mv (.s 6)),I 18 (.bin .eql (.s 17) (V 0))])
def ZJR:PC :=
 (.reg [5,6] [I 19 (.ld false 1 (.s 2)),I 20 (.mv (.s 5)),I 21 (.nilck (.s 19)),I 22 (.fadr 0 (.s 21)),J (.st 1 (.s 22) (.s 20))])
def ZJS:PC :=
 (.reg [3,4] [I 23 (.mv (.s 5)),I 24 (.mv (.s 6)),I 3 (.mv (.s 23)),I 4 (.mv (.s 24))])
def ZDu:PF:=⟨false,
 (.seq ZJO
 (.seq ZJP
 (.seq (.seq ZJQ
 (.ite (.s 18)
 ZJR
 .skip))
 (.seq ZJS
 .ret)))),
 [.s 3,.s 4]⟩
theorem ZN5:Zr Go.Proofs.Try.prog false ZN4 Go.Proofs.Try.f130=some ZDu:=by kernel_rfl
def ZH7:List Hint:=[H [0,3],H [0,3,16],H [4,5],H [0,3,6],H [0,3,6,20],H [4,5],H [0,3,23,24,25],H [0,3,23,24,25,26],H [0,3,8,23,24,25],H [0,3,8,9,10,23,24,25],H [0,3,8,9,23,24,25,40],H [4,5],H [0,3,8,9,11,12,23,24,25],H [0,3,23,24,25,61],H [4,5],H [0,3,23,24,25],H [0,3,13,14],H [0,3,13,14,72],H [4,5],H [0,3,13],H [0,13],H [13],H [4,5]]
def ZGD:PC :=
 (.reg [0,3] [I 3 (.box (.s 1)),I 4 (.mv (.v (.int .u64 0))),I 5 (.mv (V 0))])
def ZGE:PC :=
 (.reg [0,3,16] [I 15 (.mv (.s 0)),I 16 (.eqs false 3 [] (.s 15) (.v .nilptr))])
def ZGF:PC :=
 (.reg [4,5] [I 4 (.mv (.v (.int .u64 0))),I 5 (.mv (V 1))])
def ZGG:PC :=
 (.reg [0,3,6] [I 17 (.ld true 3 (.s 3)),I 18 (C ZA9 [(.s 17)]),I 6 (.mv (.s 18))])
def ZGH:PC :=
 (.reg [0,3,6,20] [I 19 (.mv (.s 6)),I 20 (.bin .neq (.s 19) (V 0))])
def ZGI:PC :=
 (.reg [4,5] [I 21 (.mv (.s 6)),I 4 (.mv (.v (.int .u64 0))),I 5 (.mv (.s 21))])
def ZGJ:PC :=
 (.reg [0,3,23,24,25] [I 22 (.fadr 2 (.s 3)),I 23 (.ld false 1 (.s 22)),I 24 (.len 1 (.s 23)),I 25 (.mv (V 0))])
def ZGK:PC :=
 (.reg [0,3,23,24,25,26] [I 26 (.bin .lss (.s 25) (.s 24))])
def ZGL:PC :=
 (.reg [0,3,8,23,24,25] [I 27 (.ixS 4 (.s 23) (.s 25)),I 28 (.ld true 4 (.s 27)),I 8 (.box (.v ZK)),J (.st 4 (.s 8) (.s 28))])
def ZGM:PC :=
 (.reg [0,3,8,9,10,23,24,25] [I 30 (.mv (.s 0)),I 31 (.nilck (.s 30)),I 32 (.fadr 2 (.s 31)),I 33 (.ld false 1 (.s 32)),I 34 (.fadr 0 (.s 8)),I 35 (.ld false 1 (.s 34)),I 36 (.look 0 ZN true (.s 33) (.s 35)),I 29 (.mv (.s 36)),I 37 (.ext (.s 29) 0),I 38 (.ext (.s 29) 1),I 9 (.box (.v ZN)),J (.st 3 (.s 9) (.s 37)),I 10 (.mv (.s 38))])
def ZEy:PC :=
 (.reg [0,3,8,9,23,24,25,40] [I 39 (.mv (.s 10)),I 40 (.un .not (.s 39))])
def ZEz:PC :=
 (.reg [4,5] [I 4 (.mv (.v (.int .u64 0))),I 5 (.mv (V 10))])
def ZE0:PC :=
 (.reg [0,3,8,9,11,12,23,24,25] [I 42 (.ld true 3 (.s 9)),I 43 (C Yj [(.s 42)]),I 41 (.mv (.s 43)),I 44 (.ext (.s 41) 0),I 45 (.ext (.s 41) 1),I 11 (.box (.v ZM)),J (.st 3 (.s 11) (.s 44)),I 12 (.mv (.s 45))])
def ZE1:PC :=
 (.reg [0,3,23,24,25,61] [I 46 (.mv (.s 12)),I 47 (.bin .neq (.s 46) (V 0)),I 48 (.mv (.s 47)),G 49 48 false (.fadr 0 (.s 9)),G 50 48 false (.ld false 1 (.s 49)),G 51 48 false (.fadr 0 (.s 3)),G 52 48 false (.ld false 1 (.s 51)),G 53 48 false (.bin .sub (.s 52) (V 1)),G 54 48 false (.bin .neq (.s 50) (.s 53)),I 55 (.pick (.s 48) (.v (.bool true)) (.s 54)),I 56 (.mv (.s 55)),G 57 56 false (.ld true 3 (.s 11)),G 58 56 false (.fadr 1 (.s 8)),G 59 56 false (.ld true 3 (.s 58)),G 60 56 false (.eqs true 0 [(0,0),(1,0),(2,0)] (.s 57) (.s 59)),I 61 (.pick (.s 56) (.v (.bool true)) (.s 60))])
def ZE2:PC :=
 (.reg [4,5] [I 4 (.mv (.v (.int .u64 0))),I 5 (.mv (V 23))])
def ZE3:PC :=
 (.reg [0,3,23,24,25] [I 62 (.bin .add (.s 25) (V 1)),I 25 (.mv (.s 62))])
def ZE4:PC :=
 (.seq ZGK
 (.seq (.ite (.s 26)
 .skip
 (.exit 0))
 (.seq (.block 1
 (.seq ZGL
 (.seq ZGM
 (.seq (.seq ZEy
 (.ite (.s 40)
 (.seq ZEz
 .ret)
 .skip))
 (.seq ZE0
 (.seq ZE1
 (.ite (.s 61)
 (.seq ZE2
 .ret)
 .skip)))))))
 ZE3)))
def ZE5:PC :=
 (.reg [0,3,13,14] [I 64 (.mv (.s 0)),I 65 (.nilck (.s 64)),I 66 (.fadr 1 (.s 65)),I 67 (.ld false 1 (.s 66)),I 68 (C Yl [(.s 67)]),I 63 (.mv (.s 68)),I 69 (.ext (.s 63) 0),I 70 (.ext (.s 63) 1),I 13 (.mv (.s 69)),I 14 (.mv (.s 70))])
def ZE6:PC :=
 (.reg [0,3,13,14,72] [I 71 (.mv (.s 14)),I 72 (.bin .neq (.s 71) (V 0))])
def ZE7:PC :=
 (.reg [4,5] [I 73 (.mv (.s 14)),I 4 (.mv (.v (.int .u64 0))),I 5 (.mv (.s 73))])
def Xl:PC :=
 (.reg [0,3,13] [I 74 (.fadr 2 (.s 3)),I 75 (.ld false 1 (.s 74)),I 76 (C Z6 [(.s 75)]),I 77 (.fadr 2 (.s 3)),J (.st 1 (.s 77) (.s 76))])
def Xm:PC :=
 (.reg [0,13] [I 78 (.mv (.s 0)),I 79 (.nilck (.s 78)),I 80 (.fadr 2 (.s 79)),I 81 (.ld false 1 (.s 80)),I 82 (.mv (.s 13)),I 83 (.ld true 3 (.s 3)),J (.mupd 0 (.s 81) (.s 82) (.s 83))])
def Xn:PC :=
 (.reg [13] [I 84 (.mv (.s 0)),I 85 (.nilck (.s 84)),I 86 (.fadr 3 (.s 85)),I 87 (.ld false 1 (.s 86)),I 88 (.bin .add (.s 87) (V 1)),I 89 (.nilck (.s 84)),I 90 (.fadr 3 (.s 89)),J (.st 1 (.s 90) (.s 88))])
def Xo:PC :=
 (.reg [4,5] [I 91 (.mv (.s 13)),I 4 (.mv (.s 91)),I 5 (.mv (V 0))])
def ZAz:PF:=⟨false,
 (.seq ZGD
 (.seq (.seq ZGE
 (.ite (.s 16)
 (.seq ZGF
 .ret)
 .skip))
 (.seq (.seq ZGG
 (.seq ZGH
 (.ite (.s 20)
 (.seq ZGI
 .ret)
 .skip)))
 (.seq (.seq ZGJ
 (.block 0
 (.loop ZE4)))
 (.seq ZE5
 (.seq (.seq ZE6
 (.ite (.s 72)
 (.seq ZE7
 .ret)
 .skip))
 (.seq Xl
 (.seq Xm
 (.seq Xn
 (.seq Xo
 .ret)))))))))),
 [.s 4,.s 5]⟩
theorem ZH8:Zr Go.Proofs.Try.prog false ZH7 Go.Proofs.Try.f131=some ZAz:=by kernel_rfl
def ZN6:List Hint:=[H [0],H [2]]
def ZJT:PC :=
 (.reg [0] [I 2 (.mv (.v (.bool false)))])
def ZJU:PC :=
 (.reg [2] [I 3 (.mv (.s 0)),I 4 (.bin .lss (.s 3) (.v (.int .u8 128))),I 5 (.mv (.s 4)),G 6 5 false (.mv (.s 0)),G 7 5 false (.bin .gtr (.s 6) (.v (.int .u8 191))),I 8 (.pick (.s 5) (.v (.bool true)) (.s 7)),I 2 (.mv (.s 8))])
def ZDv:PF:=⟨false,
 (.seq ZJT
 (.seq ZJU
 .ret)),
 [.s 2]⟩
theorem ZN7:Zr Go.Proofs.Try.prog false ZN6 Go.Proofs.Try.f135=some ZDv:=by kernel_rfl
def ZQ5:List Hint:=[H [0,1],H [0,1,5],H [0,1,5,8,9],H [0,1,5,8,9,10],H [0,1,5,6,8,9],H [0,1,5,8,9,16],H [0,1,5,8,9],H [0,1,5,8,9],H [4]]
def ZLR:PC :=
 (.reg [0,1] [I 4 (.mv (V 0))])
def ZLS:PC :=
 (.reg [0,1,5] [I 5 (.mv (V 0))])
def ZLT:PC :=
 (.reg [0,1,5,8,9] [I 7 (.mv (.s 0)),I 8 (.len 0 (.s 7)),I 9 (.mv (V 0))])
def ZLU:PC :=
 (.reg [0,1,5,8,9,10] [I 10 (.bin .lss (.s 9) (.s 8))])
def ZLV:PC :=
 (.reg [0,1,5,6,8,9] [I 11 (.mv (.s 9)),I 6 (.mv (.s 11))])
def ZLW:PC :=
 (.reg [0,1,5,8,9,16] [I 12 (.mv (.s 1)),I 13 (.mv (.s 0)),I 14 (.mv (.s 6)),I 15 (.ixStr (.s 13) (.s 14)),I 16 (.call .norm (.s 12) [(.s 15)])])
def ZLX:PC :=
 (.reg [0,1,5,8,9] [I 17 (.mv (.s 5)),I 18 (.bin .add (.s 17) (V 1)),I 5 (.mv (.s 18))])
def ZLY:PC :=
 (.reg [0,1,5,8,9] [I 19 (.bin .add (.s 9) (V 1)),I 9 (.mv (.s 19))])
def ZLZ:PC :=
 (.seq ZLU
 (.seq (.ite (.s 10)
 .skip
 (.exit 0))
 (.seq (.block 1
 (.seq ZLV
 (.seq ZLW
 (.ite (.s 16)
 ZLX
 .skip))))
 ZLY)))
def ZLa:PC :=
 (.reg [4] [I 20 (.mv (.s 5)),I 4 (.mv (.s 20))])
def ZFd:PF:=⟨false,
 (.seq ZLR
 (.seq ZLS
 (.seq (.seq ZLT
 (.block 0
 (.loop ZLZ)))
 (.seq ZLa
 .ret)))),
 [.s 4]⟩
theorem ZQ6:Zr Go.Proofs.Try.prog false ZQ5 Go.Proofs.Try.f136=some ZFd:=by kernel_rfl
def ZdL:List Hint:=[H [1],⟨[1,3],[0],[],[],[],[]⟩,H [1,3,4],H [1,3,4,5],H [1,3,5],H [3],H [2]]
def ZYg:PC :=
 (.reg [1] [I 1 (.box (.s 0)),I 2 (.mv (.v .nils))])
def ZYh:PC :=
 (.reg [1,3] [I 3 (.boxnil 1)])
def ZYi:PC :=
 (.reg [1,3,4] [I 6 (.mkmap),I 4 (.box (.v .nilmap)),J (.st 1 (.s 4) (.s 6))])
def ZYj:PC :=
 (.reg [1,3,4,5] [I 5 (.box (.v .nilfunc))])
def ZYk:PC :=
 (.reg [1,3,5] [I 7 (.mkf (.func YU) [] [(.s 4),(.s 3),(.s 5)]),J (.st 1 (.s 5) (.s 7))])
def ZYl:PC :=
 (.reg [3] [I 8 (.ld false 1 (.s 5)),I 9 (.ld true 7 (.s 1)),I 10 (.call .norm (.s 8) [(.s 9)])])
def ZYm:PC :=
 (.reg [2] [I 11 (.ld false 1 (.s 3)),I 2 (.mv (.s 11))])
def ZPC:PF:=⟨false,
 (.seq ZYg
 (.seq ZYh
 (.seq ZYi
 (.seq ZYj
 (.seq ZYk
 (.seq ZYl
 (.seq ZYm
 .ret))))))),
 [.s 2]⟩
theorem ZdM:Zr Go.Proofs.Try.prog false ZdL Go.Proofs.Try.f137=some ZPC:=by kernel_rfl
def Zbt:List Hint:=[H [0,1,2,3],H [0,1,2,3,16],H [8],H [0,1,2,3],H [0,1,2,3,9,10],H [0,1,2,3,9,10,26],H [8],H [0,2,3,9],H [0,2,3,32,33,34],H [0,2,3,32,33,34,35],H [0,2,3,12,32,33,34],H [0,2,3,13,32,33,34],H [0,2,3,13,32,33,34,45],H [8],H [0,2,3,32,33,34],H [8]]
def ZVe:PC :=
 (.reg [0,1,2,3] [I 8 (.mv (V 0))])
def ZVf:PC :=
 (.reg [0,1,2,3,16] [I 14 (.mv (.s 2)),I 15 (.mv (.s 1)),I 16 (.look 0 (.bool false) false (.s 14) (.s 15))])
def ZVg:PC :=
 (.reg [8] [I 8 (.mv (V 0))])
def ZVh:PC :=
 (.reg [0,1,2,3] [I 17 (.mv (.s 2)),I 18 (.mv (.s 1)),J (.mupd 0 (.s 17) (.s 18) (.v (.bool true)))])
def ZVi:PC :=
 (.reg [0,1,2,3,9,10] [I 20 (.mv (.s 0)),I 21 (.mv (.s 1)),I 22 (C QY [(.s 20),(.s 21)]),I 19 (.mv (.s 22)),I 23 (.ext (.s 19) 0),I 24 (.ext (.s 19) 1),I 9 (.box (.v ZN)),J (.st 3 (.s 9) (.s 23)),I 10 (.mv (.s 24))])
def ZVj:PC :=
 (.reg [0,1,2,3,9,10,26] [I 25 (.mv (.s 10)),I 26 (.bin .neq (.s 25) (V 0))])
def ZVk:PC :=
 (.reg [8] [I 27 (.mv (.s 10)),I 8 (.mv (.s 27))])
def ZVl:PC :=
 (.reg [0,2,3,9] [I 28 (.mv (.s 3)),I 29 (.mv (.s 1)),I 30 (.call .norm (.s 28) [(.s 29)])])
def ZVm:PC :=
 (.reg [0,2,3,32,33,34] [I 31 (.fadr 2 (.s 9)),I 32 (.ld false 1 (.s 31)),I 33 (.len 1 (.s 32)),I 34 (.mv (V 0))])
def ZVn:PC :=
 (.reg [0,2,3,32,33,34,35] [I 35 (.bin .lss (.s 34) (.s 33))])
def ZQ7:PC :=
 (.reg [0,2,3,12,32,33,34] [I 36 (.ixS 4 (.s 32) (.s 34)),I 37 (.ld true 4 (.s 36)),I 12 (.box (.v ZK)),J (.st 4 (.s 12) (.s 37))])
def ZQ8:PC :=
 (.reg [0,2,3,13,32,33,34] [I 38 (.mv (.s 0)),I 39 (.fadr 0 (.s 12)),I 40 (.ld false 1 (.s 39)),I 41 (.mv (.s 2)),I 42 (.mv (.s 3)),I 43 (C JD [(.s 38),(.s 40),(.s 41),(.s 42)]),I 13 (.mv (.s 43))])
def ZQ9:PC :=
 (.reg [0,2,3,13,32,33,34,45] [I 44 (.mv (.s 13)),I 45 (.bin .neq (.s 44) (V 0))])
def ZRA:PC :=
 (.reg [8] [I 46 (.mv (.s 13)),I 8 (.mv (.s 46))])
def ZRB:PC :=
 (.reg [0,2,3,32,33,34] [I 47 (.bin .add (.s 34) (V 1)),I 34 (.mv (.s 47))])
def ZRC:PC :=
 (.seq ZVn
 (.seq (.ite (.s 35)
 .skip
 (.exit 0))
 (.seq (.block 1
 (.seq ZQ7
 (.seq ZQ8
 (.seq ZQ9
 (.ite (.s 45)
 (.seq ZRA
 .ret)
 .skip)))))
 ZRB)))
def ZRD:PC :=
 (.reg [8] [I 8 (.mv (V 0))])
def ZLb:PF:=⟨false,
 (.seq ZVe
 (.seq (.seq ZVf
 (.ite (.s 16)
 (.seq ZVg
 .ret)
 .skip))
 (.seq ZVh
 (.seq ZVi
 (.seq (.seq ZVj
 (.ite (.s 26)
 (.seq ZVk
 .ret)
 .skip))
 (.seq ZVl
 (.seq (.seq ZVm
 (.block 0
 (.loop ZRC)))
 (.seq ZRD
 .ret)))))))),
 [.s 8]⟩
theorem Zbu:Zr Go.Proofs.Try.prog false Zbt Go.Proofs.Try.f138=some ZLb:=by kernel_rfl
def ZN8:List Hint:=[]
def ZDw:PF:=⟨false,
 .skip,
 []⟩
theorem ZN9:Zr Go.Proofs.Try.prog false ZN8 Go.Proofs.Try.f139=some ZDw:=by kernel_rfl
def ZOA:List Hint:=[H [0,2,7],H []]
def ZJV:PC :=
 (.reg [0,2,7] [I 4 (.ld false 1 (.s 1)),I 5 (.mv (.s 0)),I 6 (.look 0 (.bool false) false (.s 4) (.s 5)),I 7 (.un .not (.s 6))])
def ZJW:PC :=
 (.reg [] [I 8 (.ld false 1 (.s 2)),I 9 (.mv (.s 0)),I 10 (.bslice false 1 [(.int .u64 0)] [(0,(.s 9))]),I 11 (.app 1 8 (.s 8) (.s 10)),J (.st 1 (.s 2) (.s 11))])
def ZDx:PF:=⟨false,
 (.seq ZJV
 (.ite (.s 7)
 ZJW
 .skip)),
 []⟩
theorem ZOB:Zr Go.Proofs.Try.prog false ZOA Go.Proofs.Try.f140=some ZDx:=by kernel_rfl
def ZRE:List Hint:=[H [0,1,2],H [1,2,9],H [4],H [4]]
def ZLc:PC :=
 (.reg [0,1,2] [I 4 (.mv (V 0))])
def ZLd:PC :=
 (.reg [1,2,9] [I 5 (.mv (.s 0)),I 6 (.ld false 1 (.s 1)),I 7 (.ld false 1 (.s 2)),I 8 (.bin .rem (.s 6) (.s 7)),I 9 (.bin .lss (.s 5) (.s 8))])
def ZLe:PC :=
 (.reg [4] [I 10 (.ld false 1 (.s 1)),I 11 (.ld false 1 (.s 2)),I 12 (.bin .quo (.s 10) (.s 11)),I 13 (.bin .add (.s 12) (V 1)),I 4 (.mv (.s 13))])
def ZLf:PC :=
 (.reg [4] [I 14 (.ld false 1 (.s 1)),I 15 (.ld false 1 (.s 2)),I 16 (.bin .quo (.s 14) (.s 15)),I 4 (.mv (.s 16))])
def ZFe:PF:=⟨false,
 (.seq ZLc
 (.seq (.seq ZLd
 (.ite (.s 9)
 (.seq ZLe
 .ret)
 .skip))
 (.seq ZLf
 .ret))),
 [.s 4]⟩
theorem ZRF:Zr Go.Proofs.Try.prog false ZRE Go.Proofs.Try.f141=some ZFe:=by kernel_rfl
def Zbv:List Hint:=[H [0],H [2]]
def ZVo:PC :=
 (.reg [0] [I 2 (.mv (.v (.bool false)))])
def ZVp:PC :=
 (.reg [2] [I 3 (.mv (.s 0)),I 4 (.len 0 (.s 3)),I 5 (.bin .geq (.s 4) (V 1)),I 6 (.mv (.s 5)),G 7 6 true (.mv (.s 0)),G 8 6 true (.len 0 (.s 7)),G 9 6 true (.bin .leq (.s 8) (V 16)),I 10 (.pick (.s 6) (.s 9) (.v (.bool false))),I 2 (.mv (.s 10))])
def ZLg:PF:=⟨false,
 (.seq ZVo
 (.seq ZVp
 .ret)),
 [.s 2]⟩
theorem Zbw:Zr Go.Proofs.Try.prog false Zbv Go.Proofs.Try.f142=some ZLg:=by kernel_rfl
def ZYn:List Hint:=[H [0,4,5],⟨[0,4,5,8,9],[],[(1,.pure)],[],[],[]⟩,H [0,4,5,32],H [6,7],H [0,5,10,11],H [0,5,10,11,43],H [6,7],H [10,11,12],H [10,11,12,52],H [6,7],H [11,13],H [11,13,61],H [6,7],⟨[13,14],[0],[],[],[],[]⟩,H [14,63,64,65],H [14,63,64,65,66],H [14,16,63,64,65],H [14,63,64,65],H [14,63,64,65],H [6,7]]
def ZRG:PC :=
 (.reg [0,4,5] [I 4 (.box (.s 1)),I 5 (.box (.s 2)),I 6 (.mv (.v .nils)),I 7 (.mv (V 0))])
def ZRH:PC :=
 (.reg [0,4,5,8,9] [I 17 (.ld true 7 (.s 4)),I 18 (.call .pure (.v (.func (.func Qg) [] [])) [(.s 17)]),I 19 (.ld true 7 (.s 5)),I 20 (C Qg [(.s 19)]),I 8 (.mv (.s 18)),I 9 (.mv (.s 20))])
def ZRI:PC :=
 (.reg [0,4,5,32] [I 21 (.mv (.s 8)),I 22 (.mv (.s 9)),I 23 (.bin .add (.s 21) (.s 22)),I 24 (.bin .gtr (.s 23) (V 16)),I 25 (.mv (.s 24)),G 26 25 true (.mv (.s 8)),G 27 25 true (.bin .geq (.s 26) (V 8)),I 28 (.pick (.s 25) (.s 27) (.v (.bool false))),I 29 (.mv (.s 28)),G 30 29 true (.mv (.s 9)),G 31 29 true (.bin .geq (.s 30) (V 8)),I 32 (.pick (.s 29) (.s 31) (.v (.bool false)))])
def ZRJ:PC :=
 (.reg [6,7] [I 33 (.ld true 7 (.s 4)),I 34 (.ld true 7 (.s 5)),I 35 (.bslice false 7 [ZT,ZT] [(0,(.s 33)),(1,(.s 34))]),I 6 (.mv (.s 35)),I 7 (.mv (V 0))])
def ZRK:PC :=
 (.reg [0,5,10,11] [I 37 (.mv (.s 0)),I 38 (.ld true 7 (.s 4)),I 39 (C ZAf [(.s 37),(.s 38)]),I 36 (.mv (.s 39)),I 40 (.ext (.s 36) 0),I 41 (.ext (.s 36) 1),I 10 (.mv (.s 40)),I 11 (.mv (.s 41))])
def ZRL:PC :=
 (.reg [0,5,10,11,43] [I 42 (.mv (.s 11)),I 43 (.bin .neq (.s 42) (V 0))])
def ZRM:PC :=
 (.reg [6,7] [I 44 (.mv (.s 11)),I 6 (.mv (.v .nils)),I 7 (.mv (.s 44))])
def ZRN:PC :=
 (.reg [10,11,12] [I 46 (.mv (.s 0)),I 47 (.ld true 7 (.s 5)),I 48 (C ZAf [(.s 46),(.s 47)]),I 45 (.mv (.s 48)),I 49 (.ext (.s 45) 0),I 50 (.ext (.s 45) 1),I 12 (.mv (.s 49)),I 11 (.mv (.s 50))])
def ZRO:PC :=
 (.reg [10,11,12,52] [I 51 (.mv (.s 11)),I 52 (.bin .neq (.s 51) (V 0))])
def ZRP:PC :=
 (.reg [6,7] [I 53 (.mv (.s 11)),I 6 (.mv (.v .nils)),I 7 (.mv (.s 53))])
def ZOC:PC :=
 (.reg [11,13] [I 55 (.mv (.s 10)),I 56 (.mv (.s 12)),I 57 (C ZEP [(.s 55),(.s 56)]),I 54 (.mv (.s 57)),I 58 (.ext (.s 54) 0),I 59 (.ext (.s 54) 1),I 13 (.mv (.s 58)),I 11 (.mv (.s 59))])
def ZOD:PC :=
 (.reg [11,13,61] [I 60 (.mv (.s 11)),I 61 (.bin .neq (.s 60) (V 0))])
def ZOE:PC :=
 (.reg [6,7] [I 62 (.mv (.s 11)),I 6 (.mv (.v .nils)),I 7 (.mv (.s 62))])
def ZOF:PC :=
 (.reg [13,14] [I 14 (.onil 7)])
def ZOG:PC :=
 (.reg [14,63,64,65] [I 63 (.mv (.s 13)),I 64 (.len 1 (.s 63)),I 65 (.mv (V 0))])
def ZOH:PC :=
 (.reg [14,63,64,65,66] [I 66 (.bin .lss (.s 65) (.s 64))])
def ZOI:PC :=
 (.reg [14,16,63,64,65] [I 67 (.ixS 1 (.s 63) (.s 65)),I 68 (.ld false 1 (.s 67)),I 16 (.mv (.s 68))])
def ZOJ:PC :=
 (.reg [14,63,64,65] [I 69 (.mv (.s 14)),I 70 (.mv (.s 16)),I 71 (.build [(.int .u64 0),(.int .i64 0),(.int .i64 0),(.int .i64 0),(.int .i64 0),(.str []),.nils] [(5,1,(.s 70))]),I 72 (.bslice false 7 [ZT] [(0,(.s 71))]),I 73 (.app 7 80 (.s 69) (.s 72)),I 14 (.mv (.s 73))])
def ZOK:PC :=
 (.reg [14,63,64,65] [I 74 (.bin .add (.s 65) (V 1)),I 65 (.mv (.s 74))])
def ZDy:PC :=
 (.seq ZOH
 (.seq (.ite (.s 66)
 .skip
 (.exit 0))
 (.seq (.block 1
 (.seq ZOI
 ZOJ))
 ZOK)))
def ZOL:PC :=
 (.reg [6,7] [I 75 (.mv (.s 14)),I 6 (.mv (.s 75)),I 7 (.mv (V 0))])
def ZIL:PF:=⟨false,
 (.seq ZRG
 (.seq ZRH
 (.seq (.seq ZRI
 (.ite (.s 32)
 (.seq ZRJ
 .ret)
 .skip))
 (.seq ZRK
 (.seq (.seq ZRL
 (.ite (.s 43)
 (.seq ZRM
 .ret)
 .skip))
 (.seq ZRN
 (.seq (.seq ZRO
 (.ite (.s 52)
 (.seq ZRP
 .ret)
 .skip))
 (.seq ZOC
 (.seq (.seq ZOD
 (.ite (.s 61)
 (.seq ZOE
 .ret)
 .skip))
 (.seq ZOF
 (.seq (.seq ZOG
 (.block 0
 (.loop ZDy)))
 (.seq ZOL
 .ret)))))))))))),
 [.s 6,.s 7]⟩
theorem ZYo:Zr Go.Proofs.Try.prog false ZYn Go.Proofs.Try.f143=some ZIL:=by kernel_rfl
def ZdN:List Hint:=[H [0],H [0,6],H [2],H [0,3],⟨[2],[],[(3,.pure)],[],[],[]⟩]
def ZYp:PC :=
 (.reg [0] [I 2 (.mv (.v .nils))])
def ZYq:PC :=
 (.reg [0,6] [I 4 (.mv (.s 0)),I 5 (.len 1 (.s 4)),I 6 (.bin .leq (.s 5) (V 4))])
def ZYr:PC :=
 (.reg [2] [I 7 (.mv (.s 0)),I 8 (C QH [(.s 7)]),I 9 (.bslice false 7 [ZT] [(0,(.s 8))]),I 2 (.mv (.s 9))])
def ZYs:PC :=
 (.reg [0,3] [I 10 (.mv (.s 0)),I 11 (.len 1 (.s 10)),I 12 (.bin .add (.s 11) (V 1)),I 13 (.bin .quo (.s 12) (V 2)),I 3 (.mv (.s 13))])
def ZYt:PC :=
 (.reg [2] [I 14 (.mv (.s 0)),I 15 (.mv (.s 3)),I 16 (.slc 7 (.s 14) none (some (.s 15))),I 17 (.call .pure (.v (.func (.func QH) [] [])) [(.s 16)]),I 18 (.mv (.s 0)),I 19 (.mv (.s 3)),I 20 (.slc 7 (.s 18) (some (.s 19)) none),I 21 (C QH [(.s 20)]),I 22 (.bslice false 7 [ZT,ZT] [(0,(.s 17)),(1,(.s 21))]),I 2 (.mv (.s 22))])
def ZPD:PF:=⟨false,
 (.seq ZYp
 (.seq (.seq ZYq
 (.ite (.s 6)
 (.seq ZYr
 .ret)
 .skip))
 (.seq ZYs
 (.seq ZYt
 .ret)))),
 [.s 2]⟩
theorem ZdO:Zr Go.Proofs.Try.prog false ZdN Go.Proofs.Try.f144=some ZPD:=by kernel_rfl
def ZVq:List Hint:=[H [0],H [3,4],H [19],H [2],H [2]]
def ZOM:PC :=
 (.reg [0] [I 2 (.mv (V 0))])
def ZON:PC :=
 (.reg [3,4] [I 6 (.mv (.s 0)),I 7 (C Yk [(.s 6)]),I 5 (.mv (.s 7)),I 8 (.ext (.s 5) 0),I 9 (.ext (.s 5) 1),I 3 (.mv (.s 8)),I 4 (.mv (.s 9))])
def ZOO:PC :=
 (.reg [19] [I 10 (.mv (.s 3)),I 11 (.bin .geq (.s 10) (V 16384)),I 12 (.mv (.s 11)),G 13 12 false (.mv (.s 4)),G 14 12 false (.bin .lss (.s 13) (.v (.int .u64 1))),I 15 (.pick (.s 12) (.v (.bool true)) (.s 14)),I 16 (.mv (.s 15)),G 17 16 false (.mv (.s 4)),G 18 16 false (.bin .gtr (.s 17) (.v (.int .u64 4294967295))),I 19 (.pick (.s 16) (.v (.bool true)) (.s 18))])
def ZOP:PC :=
 (.reg [2] [I 2 (.mv (V 2))])
def ZOQ:PC :=
 (.reg [2] [I 2 (.mv (V 0))])
def ZG7:PF:=⟨false,
 (.seq ZOM
 (.seq (.seq ZON
 (.seq ZOO
 (.ite (.s 19)
 (.seq ZOP
 .ret)
 .skip)))
 (.seq ZOQ
 .ret))),
 [.s 2]⟩
theorem ZVr:Zr Go.Proofs.Try.prog false ZVq Go.Proofs.Try.f145=some ZG7:=by kernel_rfl
def ZVs:List Hint:=[H [0],H [2,3]]
def ZOR:PC :=
 (.reg [0] [I 2 (.mv (V 0)),I 3 (.mv (.v (.int .u64 0)))])
def ZOS:PC :=
 (.reg [2,3] [I 4 (.mv (.s 0)),I 5 (.bin .and (.s 4) (.v (.int .u64 65535))),I 6 (.cint .i64 (.s 5)),I 7 (.mv (.s 0)),I 8 (.bin .shr (.s 7) (.v (.int .u64 16))),I 2 (.mv (.s 6)),I 3 (.mv (.s 8))])
def ZG8:PF:=⟨false,
 (.seq ZOR
 (.seq ZOS
 .ret)),
 [.s 2,.s 3]⟩
theorem ZVt:Zr Go.Proofs.Try.prog false ZVs Go.Proofs.Try.f146=some ZG8:=by kernel_rfl
def ZYu:List Hint:=[H [1],H [1,9],H [2],H [1,50],H [2],H [1,3,4],H [3,4,59,60,61],H [3,4,59,60,61,62],H [3,4,6,59,60,61],H [3,4,59,60,61,112],H [2],H [3,4,59,60,61],H [2]]
def ZRQ:PC :=
 (.reg [1] [I 1 (.box (.s 0)),I 2 (.mv (.v (.bool false)))])
def ZRR:PC :=
 (.reg [1,9] [I 7 (.fadr 0 (.s 1)),I 8 (.ld false 1 (.s 7)),I 9 (.bin .eql (.s 8) (V 0))])
def ZRS:PC :=
 (.reg [2] [I 10 (.fadr 1 (.s 1)),I 11 (.ld false 1 (.s 10)),I 12 (.len 0 (.s 11)),I 13 (.bin .geq (.s 12) (V 1)),I 14 (.mv (.s 13)),G 15 14 true (.fadr 1 (.s 1)),G 16 14 true (.ld false 1 (.s 15)),G 17 14 true (.len 0 (.s 16)),G 18 14 true (.bin .leq (.s 17) (V 16)),I 19 (.pick (.s 14) (.s 18) (.v (.bool false))),I 20 (.mv (.s 19)),G 21 20 true (.fadr 2 (.s 1)),G 22 20 true (.ld false 1 (.s 21)),G 23 20 true (.len 1 (.s 22)),G 24 20 true (.bin .eql (.s 23) (V 0)),I 25 (.pick (.s 20) (.s 24) (.v (.bool false))),I 2 (.mv (.s 25))])
def ZRT:PC :=
 (.reg [1,50] [I 26 (.fadr 0 (.s 1)),I 27 (.ld false 1 (.s 26)),I 28 (.bin .lss (.s 27) (V 1)),I 29 (.mv (.s 28)),G 30 29 false (.fadr 0 (.s 1)),G 31 29 false (.ld false 1 (.s 30)),G 32 29 false (.bin .gtr (.s 31) (V 16)),I 33 (.pick (.s 29) (.v (.bool true)) (.s 32)),I 34 (.mv (.s 33)),G 35 34 false (.fadr 1 (.s 1)),G 36 34 false (.ld false 1 (.s 35)),G 37 34 false (.bin .neq (.s 36) (.v (.str []))),I 38 (.pick (.s 34) (.v (.bool true)) (.s 37)),I 39 (.mv (.s 38)),G 40 39 false (.fadr 2 (.s 1)),G 41 39 false (.ld false 1 (.s 40)),G 42 39 false (.len 1 (.s 41)),G 43 39 false (.bin .lss (.s 42) (V 2)),I 44 (.pick (.s 39) (.v (.bool true)) (.s 43)),I 45 (.mv (.s 44)),G 46 45 false (.fadr 2 (.s 1)),G 47 45 false (.ld false 1 (.s 46)),G 48 45 false (.len 1 (.s 47)),G 49 45 false (.bin .gtr (.s 48) (V 4)),I 50 (.pick (.s 45) (.v (.bool true)) (.s 49))])
def ZRU:PC :=
 (.reg [2] [I 2 (.mv (.v (.bool false)))])
def ZRV:PC :=
 (.reg [1,3,4] [I 52 (.fadr 0 (.s 1)),I 53 (.ld false 1 (.s 52)),I 54 (.bin .sub (.s 53) (V 1)),I 55 (C ZCv [(.s 54)]),I 51 (.mv (.s 55)),I 56 (.ext (.s 51) 0),I 57 (.ext (.s 51) 1),I 3 (.mv (.s 56)),I 4 (.mv (.s 57))])
def ZRW:PC :=
 (.reg [3,4,59,60,61] [I 58 (.fadr 2 (.s 1)),I 59 (.ld false 1 (.s 58)),I 60 (.len 1 (.s 59)),I 61 (.mv (V 0))])
def ZRX:PC :=
 (.reg [3,4,59,60,61,62] [I 62 (.bin .lss (.s 61) (.s 60))])
def ZRY:PC :=
 (.reg [3,4,6,59,60,61] [I 63 (.ixS 4 (.s 59) (.s 61)),I 64 (.ld true 4 (.s 63)),I 6 (.box (.v ZK)),J (.st 4 (.s 6) (.s 64))])
def ZRZ:PC :=
 (.reg [3,4,59,60,61,112] [I 65 (.fadr 0 (.s 6)),I 66 (.ld false 1 (.s 65)),I 67 (C YA [(.s 66)]),I 68 (.bin .neq (.s 67) (V 0)),I 69 (.mv (.s 68)),G 70 69 false (.fadr 1 (.s 6)),G 71 69 false (.fadr 0 (.s 70)),G 72 69 false (.ld false 1 (.s 71)),G 73 69 false (.mv (.s 3)),G 74 69 false (.bin .lss (.s 72) (.s 73)),I 75 (.pick (.s 69) (.v (.bool true)) (.s 74)),I 76 (.mv (.s 75)),G 77 76 false (.fadr 1 (.s 6)),G 78 76 false (.fadr 0 (.s 77)),G 79 76 false (.ld false 1 (.s 78)),G 80 76 false (.mv (.s 4)),G 81 76 false (.bin .gtr (.s 79) (.s 80)),I 82 (.pick (.s 76) (.v (.bool true)) (.s 81)),I 83 (.mv (.s 82)),G 84 83 false (.fadr 1 (.s 6)),G 85 83 false (.fadr 1 (.s 84)),G 86 83 false (.ld false 1 (.s 85)),G 87 83 false (.bin .lss (.s 86) (V 0)),I 88 (.pick (.s 83) (.v (.bool true)) (.s 87)),I 89 (.mv (.s 88)),G 90 89 false (.fadr 1 (.s 6)),G 91 89 false (.fadr 1 (.s 90)),G 92 89 false (.ld false 1 (.s 91)),G 93 89 false (.fadr 1 (.s 6)),G 94 89 false (.fadr 0 (.s 93)),G 95 89 false (.ld false 1 (.s 94)),G 96 89 false (.bin .gtr (.s 92) (.s 95)),I 97 (.pick (.s 89) (.v (.bool true)) (.s 96)),I 98 (.mv (.s 97)),G 99 98 false (.fadr 1 (.s 6)),G 100 98 false (.fadr 2 (.s 99)),G 101 98 false (.ld false 1 (.s 100)),G 102 98 false (.bin .lss (.s 101) (V 0)),I 103 (.pick (.s 98) (.v (.bool true)) (.s 102)),I 104 (.mv (.s 103)),G 105 104 false (.fadr 1 (.s 6)),G 106 104 false (.fadr 2 (.s 105)),G 107 104 false (.ld false 1 (.s 106)),G 108 104 false (.fadr 1 (.s 6)),G 109 104 false (.fadr 1 (.s 108)),G 110 104 false (.ld false 1 (.s 109)),G 111 104 false (.bin .gtr (.s 107) (.s 110)),I 112 (.pick (.s 104) (.v (.bool true)) (.s 111))])
def ZOT:PC :=
 (.reg [2] [I 2 (.mv (.v (.bool false)))])
def ZOU:PC :=
 (.reg [3,4,59,60,61] [I 113 (.bin .add (.s 61) (V 1)),I 61 (.mv (.s 113))])
def ZOV:PC :=
 (.seq ZRX
 (.seq (.ite (.s 62)
 .skip
 (.exit 0))
 (.seq (.block 1
 (.seq ZRY
 (.seq ZRZ
 (.ite (.s 112)
 (.seq ZOT
 .ret)
 .skip))))
 ZOU)))
def ZOW:PC :=
 (.reg [2] [I 2 (.mv (.v (.bool true)))])
def ZIM:PF:=⟨false,
 (.seq ZRQ
 (.seq (.seq ZRR
 (.ite (.s 9)
 (.seq ZRS
 .ret)
 .skip))
 (.seq (.seq ZRT
 (.ite (.s 50)
 (.seq ZRU
 .ret)
 .skip))
 (.seq ZRV
 (.seq (.seq ZRW
 (.block 0
 (.loop ZOV)))
 (.seq ZOW
 .ret)))))),
 [.s 2]⟩
theorem ZYv:Zr Go.Proofs.Try.prog false ZYu Go.Proofs.Try.f147=some ZIM:=by kernel_rfl
def Zbx:List Hint:=[H [0,2],H [0,2,3],H [0,2,3,6,7],H [0,2,3,6,7,8],H [0,2,3,4,5,6,7],H [0,2,3,6,7],H [0,2,3,6,7],H [2]]
def ZVu:PC :=
 (.reg [0,2] [I 2 (.box (.v ZM))])
def ZVv:PC :=
 (.reg [0,2,3] [I 3 (.box (.v ZM))])
def ZVw:PC :=
 (.reg [0,2,3,6,7] [I 6 (.build [.nilfunc,.nilfunc,.nilfunc] [(0,1,(.v (.func (.func XD) [] []))),(1,1,(.v (.func (.func Yu) [] []))),(2,1,(.v (.func (.func XE) [] [])))]),I 7 (.mv (V 0))])
def ZVx:PC :=
 (.reg [0,2,3,6,7,8] [I 8 (.bin .lss (.s 7) (V 3))])
def ZVy:PC :=
 (.reg [0,2,3,4,5,6,7] [I 9 (.mv (.s 7)),I 10 (.ixArr false 3 1 (.s 6) (.s 7)),I 4 (.mv (.s 9)),I 5 (.mv (.s 10))])
def ZVz:PC :=
 (.reg [0,2,3,6,7] [I 11 (.mv (.s 4)),I 12 (.mv (.s 0)),I 13 (.mv (.s 5)),I 14 (C ZAu [(.s 12),(.s 13)]),I 15 (.ixA 3 1 (.s 3) (.s 11)),J (.st 1 (.s 15) (.s 14))])
def ZV0:PC :=
 (.reg [0,2,3,6,7] [I 16 (.bin .add (.s 7) (V 1)),I 7 (.mv (.s 16))])
def ZV1:PC :=
 (.seq ZVx
 (.seq (.ite (.s 8)
 .skip
 (.exit 0))
 (.seq (.block 1
 (.seq ZVy
 ZVz))
 ZV0)))
def ZV2:PC :=
 (.reg [2] [I 17 (.ld true 3 (.s 3)),I 18 (C YL [(.s 17)]),J (.st 3 (.s 2) (.s 18))])
def ZLh:PF:=⟨false,
 (.seq ZVu
 (.seq ZVv
 (.seq (.seq ZVw
 (.block 0
 (.loop ZV1)))
 (.seq ZV2
 .ret)))),
 [.c 2 true 3]⟩
theorem Zby:Zr Go.Proofs.Try.prog false Zbx Go.Proofs.Try.f148=some ZLh:=by kernel_rfl
def ZYw:List Hint:=[H [0,2],H [0,2,3],H [2,3,8,9,10],H [2,3,8,9,10,11],H [2,3,5,8,9,10],H [2,3,8,9,10,20,21],H [2,3,8,9,10,20,21,22],H [2,3,6,7,8,9,10,20,21],H [2,3,8,9,10,20,21],H [2,3,8,9,10,20,21],H [2,3,8,9,10],H [2]]
def ZRa:PC :=
 (.reg [0,2] [I 2 (.box (.v ZM))])
def ZRb:PC :=
 (.reg [0,2,3] [I 3 (.box (.v ZM))])
def ZRc:PC :=
 (.reg [2,3,8,9,10] [I 8 (.mv (.s 0)),I 9 (.len 1 (.s 8)),I 10 (.mv (V 0))])
def ZRd:PC :=
 (.reg [2,3,8,9,10,11] [I 11 (.bin .lss (.s 10) (.s 9))])
def ZRe:PC :=
 (.reg [2,3,5,8,9,10] [I 12 (.ixS 3 (.s 8) (.s 10)),I 13 (.ld true 3 (.s 12)),I 5 (.box (.v ZM)),J (.st 3 (.s 5) (.s 13))])
def ZRf:PC :=
 (.reg [2,3,8,9,10,20,21] [I 14 (.fadr 0 (.s 5)),I 15 (.ld false 1 (.s 14)),I 16 (.fadr 1 (.s 5)),I 17 (.ld false 1 (.s 16)),I 18 (.fadr 2 (.s 5)),I 19 (.ld false 1 (.s 18)),I 20 (.build [(.int .i64 0),(.int .i64 0),(.int .i64 0)] [(0,1,(.s 15)),(1,1,(.s 17)),(2,1,(.s 19))]),I 21 (.mv (V 0))])
def ZRg:PC :=
 (.reg [2,3,8,9,10,20,21,22] [I 22 (.bin .lss (.s 21) (V 3))])
def ZRh:PC :=
 (.reg [2,3,6,7,8,9,10,20,21] [I 23 (.mv (.s 21)),I 24 (.ixArr false 3 1 (.s 20) (.s 21)),I 6 (.mv (.s 23)),I 7 (.mv (.s 24))])
def ZRi:PC :=
 (.reg [2,3,8,9,10,20,21] [I 25 (.mv (.s 6)),I 26 (.ixA 3 1 (.s 3) (.s 25)),I 27 (.ld false 1 (.s 26)),I 28 (.mv (.s 7)),I 29 (.bin .add (.s 27) (.s 28)),I 30 (.ixA 3 1 (.s 3) (.s 25)),J (.st 1 (.s 30) (.s 29))])
def ZRj:PC :=
 (.reg [2,3,8,9,10,20,21] [I 31 (.bin .add (.s 21) (V 1)),I 21 (.mv (.s 31))])
def ZOX:PC :=
 (.seq ZRg
 (.seq (.ite (.s 22)
 .skip
 (.exit 2))
 (.seq (.block 3
 (.seq ZRh
 ZRi))
 ZRj)))
def ZOY:PC :=
 (.reg [2,3,8,9,10] [I 32 (.bin .add (.s 10) (V 1)),I 10 (.mv (.s 32))])
def ZOZ:PC :=
 (.seq ZRd
 (.seq (.ite (.s 11)
 .skip
 (.exit 0))
 (.seq (.block 1
 (.seq ZRe
 (.seq ZRf
 (.block 2
 (.loop ZOX)))))
 ZOY)))
def ZOa:PC :=
 (.reg [2] [I 33 (.ld true 3 (.s 3)),I 34 (C YL [(.s 33)]),J (.st 3 (.s 2) (.s 34))])
def ZIN:PF:=⟨false,
 (.seq ZRa
 (.seq ZRb
 (.seq (.seq ZRc
 (.block 0
 (.loop ZOZ)))
 (.seq ZOa
 .ret)))),
 [.c 2 true 3]⟩
theorem ZYx:Zr Go.Proofs.Try.prog false ZYw Go.Proofs.Try.f149=some ZIN:=by kernel_rfl
def ZG9:List Hint:=[H [0],H [0,6],H [2,3],H [0,12],H [2,3],H [0,4],H [0,4],H [0,4],H [2,3]]
def ZE8:PC :=
 (.reg [0] [I 2 (.mv (.v (.int .u64 0))),I 3 (.mv (V 0))])
def ZE9:PC :=
 (.reg [0,6] [I 5 (.mv (.s 0)),I 6 (.eqs false 3 [] (.s 5) (.v .nilptr))])
def ZFA:PC :=
 (.reg [2,3] [I 2 (.mv (.v (.int .u64 0))),I 3 (.mv (V 1))])
def ZFB:PC :=
 (.reg [0,12] [I 7 (.mv (.s 0)),I 8 (.nilck (.s 7)),I 9 (.fadr 0 (.s 8)),I 10 (.ld false 1 (.s 9)),I 11 (.len 1 (.s 10)),I 12 (.bin .eql (.s 11) (V 0))])
def ZFC:PC :=
 (.reg [2,3] [I 2 (.mv (.v (.int .u64 0))),I 3 (.mv (V 6))])
def ZFD:PC :=
 (.reg [0,4] [I 13 (.mv (.s 0)),I 14 (.nilck (.s 13)),I 15 (.fadr 0 (.s 14)),I 16 (.ld false 1 (.s 15)),I 17 (.mv (.s 0)),I 18 (.nilck (.s 17)),I 19 (.fadr 0 (.s 18)),I 20 (.ld false 1 (.s 19)),I 21 (.len 1 (.s 20)),I 22 (.bin .sub (.s 21) (V 1)),I 23 (.ixS 1 (.s 16) (.s 22)),I 24 (.ld false 1 (.s 23)),I 4 (.mv (.s 24))])
def ZFE:PC :=
 (.reg [0,4] [I 25 (.mv (.s 0)),I 26 (.mv (.s 0)),I 27 (.nilck (.s 26)),I 28 (.fadr 0 (.s 27)),I 29 (.ld false 1 (.s 28)),I 30 (.mv (.s 0)),I 31 (.nilck (.s 30)),I 32 (.fadr 0 (.s 31)),I 33 (.ld false 1 (.s 32)),I 34 (.len 1 (.s 33)),I 35 (.bin .sub (.s 34) (V 1)),I 36 (.slc 1 (.s 29) none (some (.s 35))),I 37 (.nilck (.s 25)),I 38 (.fadr 0 (.s 37)),J (.st 1 (.s 38) (.s 36))])
def ZFF:PC :=
 (.reg [0,4] [I 39 (.mv (.s 0)),I 40 (.nilck (.s 39)),I 41 (.fadr 1 (.s 40)),I 42 (.ld false 1 (.s 41)),I 43 (.mv (.s 4)),I 44 (.ixS 1 (.s 42) (.s 43)),J (.st 1 (.s 44) (.v (.int .u8 1)))])
def ZFG:PC :=
 (.reg [2,3] [I 45 (.mv (.s 4)),I 46 (.mv (.s 0)),I 47 (.nilck (.s 46)),I 48 (.fadr 2 (.s 47)),I 49 (.ld false 1 (.s 48)),I 50 (.mv (.s 4)),I 51 (.ixS 1 (.s 49) (.s 50)),I 52 (.ld false 1 (.s 51)),I 53 (C ZAS [(.s 45),(.s 52)]),I 54 (.ext (.s 53) 0),I 55 (.ext (.s 53) 1),I 2 (.mv (.s 54)),I 3 (.mv (.s 55))])
def ZAk:PF:=⟨false,
 (.seq ZE8
 (.seq (.seq ZE9
 (.ite (.s 6)
 (.seq ZFA
 .ret)
 .skip))
 (.seq (.seq ZFB
 (.ite (.s 12)
 (.seq ZFC
 .ret)
 .skip))
 (.seq ZFD
 (.seq ZFE
 (.seq ZFF
 (.seq ZFG
 .ret))))))),
 [.s 2,.s 3]⟩
theorem ZHA:Zr Go.Proofs.Try.prog false ZG9 Go.Proofs.Try.f150=some ZAk:=by kernel_rfl
def ZYy:List Hint:=[H [1,2,3,4],H [1,2,3,4,16],H [2,3,4],H [3,4],H [3,26,27,28],H [3,26,27,28,29],H [3,6,26,27,28],H [3,26,27,28],H [3,26,27,28]]
def ZRk:PC :=
 (.reg [1,2,3,4] [I 4 (.box (.s 0))])
def ZRl:PC :=
 (.reg [1,2,3,4,16] [I 7 (.fadr 0 (.s 4)),I 8 (.ld false 1 (.s 7)),I 9 (.bin .neq (.s 8) (.v (.int .u64 0))),I 10 (.mv (.s 9)),G 11 10 true (.ld false 1 (.s 1)),G 12 10 true (.fadr 0 (.s 4)),G 13 10 true (.ld false 1 (.s 12)),G 14 10 true (.look 0 (.bool false) false (.s 11) (.s 13)),G 15 10 true (.un .not (.s 14)),I 16 (.pick (.s 10) (.s 15) (.v (.bool false)))])
def ZRm:PC :=
 (.reg [2,3,4] [I 17 (.ld false 1 (.s 1)),I 18 (.fadr 0 (.s 4)),I 19 (.ld false 1 (.s 18)),J (.mupd 0 (.s 17) (.s 19) (.v (.bool true)))])
def ZRn:PC :=
 (.reg [3,4] [I 20 (.ld false 1 (.s 2)),I 21 (.fadr 0 (.s 4)),I 22 (.ld false 1 (.s 21)),I 23 (.bslice false 1 [(.int .u64 0)] [(0,(.s 22))]),I 24 (.app 1 8 (.s 20) (.s 23)),J (.st 1 (.s 2) (.s 24))])
def ZFf:PC :=
 (.reg [3,26,27,28] [I 25 (.fadr 6 (.s 4)),I 26 (.ld false 1 (.s 25)),I 27 (.len 1 (.s 26)),I 28 (.mv (V 0))])
def ZRo:PC :=
 (.reg [3,26,27,28,29] [I 29 (.bin .lss (.s 28) (.s 27))])
def ZRp:PC :=
 (.reg [3,6,26,27,28] [I 30 (.ixS 7 (.s 26) (.s 28)),I 31 (.ld true 7 (.s 30)),I 6 (.box (.v ZT)),J (.st 7 (.s 6) (.s 31))])
def ZRq:PC :=
 (.reg [3,26,27,28] [I 32 (.ld false 1 (.s 3)),I 33 (.ld true 7 (.s 6)),I 34 (.call .norm (.s 32) [(.s 33)])])
def ZRr:PC :=
 (.reg [3,26,27,28] [I 35 (.bin .add (.s 28) (V 1)),I 28 (.mv (.s 35))])
def ZAv:PC :=
 (.seq ZRo
 (.seq (.ite (.s 29)
 .skip
 (.exit 0))
 (.seq (.block 1
 (.seq ZRp
 ZRq))
 ZRr)))
def ZIO:PF:=⟨false,
 (.seq ZRk
 (.seq (.seq ZRl
 (.ite (.s 16)
 (.seq ZRm
 ZRn)
 .skip))
 (.seq ZFf
 (.block 0
 (.loop ZAv))))),
 []⟩
theorem ZYz:Zr Go.Proofs.Try.prog false ZYy Go.Proofs.Try.f151=some ZIO:=by kernel_rfl
def Zbz:List Hint:=[H [0,1],H [0,1,15],H [4,5],H [0,1,6],H [0,1,6,21],H [4,5],H [0,1,6,31],H [4,5],H [6,7],H [4,5]]
def ZV3:PC :=
 (.reg [0,1] [I 4 (.mv (.v .nils)),I 5 (.mv (V 0))])
def ZV4:PC :=
 (.reg [0,1,15] [I 8 (.mv (.s 0)),I 9 (C Xk [(.s 8)]),I 10 (.un .not (.s 9)),I 11 (.mv (.s 10)),G 12 11 false (.mv (.s 1)),G 13 11 false (C Xk [(.s 12)]),G 14 11 false (.un .not (.s 13)),I 15 (.pick (.s 11) (.v (.bool true)) (.s 14))])
def ZV5:PC :=
 (.reg [4,5] [I 4 (.mv (.v .nils)),I 5 (.mv (V 2))])
def ZV6:PC :=
 (.reg [0,1,6] [I 16 (.mv (.s 0)),I 17 (.mv (.s 1)),I 18 (.bin .add (.s 16) (.s 17)),I 6 (.mv (.s 18))])
def ZV7:PC :=
 (.reg [0,1,6,21] [I 19 (.mv (.s 6)),I 20 (.len 0 (.s 19)),I 21 (.bin .leq (.s 20) (V 16))])
def ZV8:PC :=
 (.reg [4,5] [I 22 (.mv (.s 6)),I 23 (.bslice false 1 [(.str [])] [(0,(.s 22))]),I 4 (.mv (.s 23)),I 5 (.mv (V 0))])
def ZV9:PC :=
 (.reg [0,1,6,31] [I 24 (.mv (.s 0)),I 25 (.len 0 (.s 24)),I 26 (.bin .geq (.s 25) (V 8)),I 27 (.mv (.s 26)),G 28 27 true (.mv (.s 1)),G 29 27 true (.len 0 (.s 28)),G 30 27 true (.bin .geq (.s 29) (V 8)),I 31 (.pick (.s 27) (.s 30) (.v (.bool false)))])
def ZWA:PC :=
 (.reg [4,5] [I 32 (.mv (.s 0)),I 33 (.mv (.s 1)),I 34 (.bslice false 1 [(.str []),(.str [])] [(0,(.s 32)),(1,(.s 33))]),I 4 (.mv (.s 34)),I 5 (.mv (V 0))])
def ZWB:PC :=
 (.reg [6,7] [I 35 (.mv (.s 6)),I 36 (.len 0 (.s 35)),I 37 (.bin .add (.s 36) (V 1)),I 38 (.bin .quo (.s 37) (V 2)),I 7 (.mv (.s 38))])
def ZWC:PC :=
 (.reg [4,5] [I 39 (.mv (.s 6)),I 40 (.mv (.s 7)),I 41 (.slcS (.s 39) none (some (.s 40))),I 42 (.mv (.s 6)),I 43 (.mv (.s 7)),I 44 (.slcS (.s 42) (some (.s 43)) none),I 45 (.bslice false 1 [(.str []),(.str [])] [(0,(.s 41)),(1,(.s 44))]),I 4 (.mv (.s 45)),I 5 (.mv (V 0))])
def ZLi:PF:=⟨false,
 (.seq ZV3
 (.seq (.seq ZV4
 (.ite (.s 15)
 (.seq ZV5
 .ret)
 .skip))
 (.seq ZV6
 (.seq (.seq ZV7
 (.ite (.s 21)
 (.seq ZV8
 .ret)
 .skip))
 (.seq (.seq ZV9
 (.ite (.s 31)
 (.seq ZWA
 .ret)
 .skip))
 (.seq ZWB
 (.seq ZWC
 .ret))))))),
 [.s 4,.s 5]⟩
theorem Zb0:Zr Go.Proofs.Try.prog false Zbz Go.Proofs.Try.f152=some ZLi:=by kernel_rfl
def ZY0:List Hint:=[H [0],H [0,2,3],H [2,3,4,5],H [2,3,4,5,6],H [2,3,4,5],H [2,3,4,5],H [2,3,4,5],H [2,3]]
def ZRs:PC :=
 (.reg [0] [I 2 (.mv (V 0)),I 3 (.mv (V 0))])
def ZRt:PC :=
 (.reg [0,2,3] [I 2 (.mv (V 8)),I 3 (.mv (V 16))])
def ZRu:PC :=
 (.reg [2,3,4,5] [I 4 (.mv (.s 0)),I 5 (.mv (V 0))])
def ZRv:PC :=
 (.reg [2,3,4,5,6] [I 6 (.bin .lss (.s 5) (.s 4))])
def ZRw:PC :=
 (.reg [2,3,4,5] [I 7 (.mv (.s 2)),I 8 (.bin .mul (.s 7) (V 2)),I 2 (.mv (.s 8))])
def ZRx:PC :=
 (.reg [2,3,4,5] [I 9 (.mv (.s 3)),I 10 (.bin .mul (.s 9) (V 4)),I 11 (.mnx false (.s 10) (V 65536)),I 3 (.mv (.s 11))])
def ZRy:PC :=
 (.reg [2,3,4,5] [I 12 (.bin .add (.s 5) (V 1)),I 5 (.mv (.s 12))])
def ZRz:PC :=
 (.seq ZRv
 (.seq (.ite (.s 6)
 .skip
 (.exit 0))
 (.seq (.block 1
 (.seq ZRw
 ZRx))
 ZRy)))
def ZR0:PC :=
 (.reg [2,3] [I 13 (.mv (.s 2)),I 14 (.mv (.s 3)),I 15 (.mnx false (.s 14) (V 65536)),I 2 (.mv (.s 13)),I 3 (.mv (.s 15))])
def ZIP:PF:=⟨false,
 (.seq ZRs
 (.seq ZRt
 (.seq (.seq ZRu
 (.block 0
 (.loop ZRz)))
 (.seq ZR0
 .ret)))),
 [.s 2,.s 3]⟩
theorem ZY1:Zr Go.Proofs.Try.prog false ZY0 Go.Proofs.Try.f153=some ZIP:=by kernel_rfl
def ZR1:List Hint:=[H [],H [2]]
def ZLj:PC :=
 (.reg [] [I 2 (.mv (.v (.bool false)))])
def ZLk:PC :=
 (.reg [2] [I 2 (.mv (.v (.bool true)))])
def ZFg:PF:=⟨false,
 (.seq ZLj
 (.seq ZLk
 .ret)),
 [.s 2]⟩
theorem ZR2:Zr Go.Proofs.Try.prog false ZR1 Go.Proofs.Try.f154=some ZFg:=by kernel_rfl
def ZR3:List Hint:=[H [0],H [2]]
def ZLl:PC :=
 (.reg [0] [I 2 (.mv (.v (.bool false)))])
def ZLm:PC :=
 (.reg [2] [I 3 (.mv (.s 0)),I 4 (.bin .eql (.s 3) (.v (.int .u8 10))),I 2 (.mv (.s 4))])
def ZFh:PF:=⟨false,
 (.seq ZLl
 (.seq ZLm
 .ret)),
 [.s 2]⟩
theorem ZR4:Zr Go.Proofs.Try.prog false ZR3 Go.Proofs.Try.f155=some ZFh:=by kernel_rfl
def ZJX:List Hint:=[H [1,2],H [1,2,5],H [2],H [2]]
def ZHB:PC :=
 (.reg [1,2] [I 1 (.box (.s 0)),I 2 (.box (.v ZM))])
def ZHC:PC :=
 (.reg [1,2,5] [I 3 (.ld true 3 (.s 1)),I 4 (.build [(.int .i64 0),(.int .i64 0),(.int .i64 0)] []),I 5 (.eqs false 0 [(0,0),(1,0),(2,0)] (.s 3) (.s 4))])
def ZHD:PC :=
 (.reg [2] [I 6 (.build [(.int .i64 0),(.int .i64 0),(.int .i64 0)] []),J (.st 3 (.s 2) (.s 6))])
def ZHE:PC :=
 (.reg [2] [I 7 (.ixA 3 1 (.s 1) (V 0)),I 8 (.ld false 1 (.s 7)),I 9 (.ixA 3 1 (.s 1) (V 1)),I 10 (.ld false 1 (.s 9)),I 11 (.ixA 3 1 (.s 1) (V 2)),I 12 (.ld false 1 (.s 11)),I 13 (.build [(.int .i64 0),(.int .i64 0),(.int .i64 0)] [(0,1,(.s 8)),(1,1,(.s 10)),(2,1,(.s 12))]),J (.st 3 (.s 2) (.s 13))])
def ZBw:PF:=⟨false,
 (.seq ZHB
 (.seq (.seq ZHC
 (.ite (.s 5)
 (.seq ZHD
 .ret)
 .skip))
 (.seq ZHE
 .ret))),
 [.c 2 true 3]⟩
theorem ZJY:Zr Go.Proofs.Try.prog false ZJX Go.Proofs.Try.f156=some ZBw:=by kernel_rfl
end Go.Q15
namespace Go.Q15
open Go Go.QAbs
set_option maxRecDepth 100000
def ZmM:List (FuncId × Ent):=[(JU,.pf YM),(ZA6,.pf ZKC),(XS,.pf ZGX),(XL,.pf ZBh),(J0,.pf ZAw),(ZAL,.pf ZTc),(XM,.pf ZBi),(Xf,.pf ZKD),(ZAt,.pf ZFX),(XC,.pf ZFY),(QY,.pf ZCc),(Je,.pf ZBj),(JM,.pf Y0),(Xg,.pf ZGg),(Jx,.pf Y5),(ZAe,.pf ZO4),(ZBa,.pf ZTo),(Jf,.pf X5),(ZA7,.pf ZKW),(J1,.pf ZAx),(XT,.pf ZO5),(Q6,.pf X6),(Yh,.pf ZO6),(ZBb,.pf ZGh),(YK,.pf ZKm),(ZAf,.pf ZO7),(YS,.pf ZFb),(Ql,.pf ZO8),(Xh,.pf ZKx),(Yi,.pf ZAg),(Jo,.pf ZAh),(Q3,.pf Yx),(XN,.pf ZBv),(Qc,.pf ZGw),(J2,.pf ZAy),(ZAR,.pf ZIE),(ZCs,.pf ZIF),(Ys,.pf ZDa),(ZGU,.pf ZO9),(ZBc,.pf ZGx),(J6,.pf XU),(ZBd,.pf ZGy),(ZEM,.pf ZK7),(QH,.pf ZK8),(ZCa,.pf ZPA),(Qg,.pf ZK9),(ZBe,.pf ZUx),(ZAM,.pf ZUy),(YT,.pf ZIH),(ZA8,.pf ZLA),(JE,.pf ZGz),(J7,.pf ZDd),(Jp,.pf ZAi),(Jg,.pf X7),(Jq,.pf ZAj),(Yj,.pf ZG4),(Xi,.pf ZG5),(JZ,.pf ZDr),(Q8,.pf ZDs),(ZBf,.pf ZG6),(ZAS,.pf ZII),(ZAT,.pf ZIJ),(ZGV,.pf ZPB),(Xj,.pf ZLO),(ZAU,.pf ZIK),(ZEN,.pf ZLP),(ZA9,.pf ZLQ),(ZBg,.pf ZVd),(Yt,.pf ZDu),(JN,.pf ZAz),(Yu,.pf ZDv),(ZAu,.pf ZFd),(ZGW,.pf ZPC),(JD,.pf ZLb),(J8,.pf ZDw),(J9,.pf ZDx),(Jl,.pf ZFe),(Xk,.pf ZLg),(ZCt,.pf ZIL),(ZCb,.pf ZPD),(YA,.pf ZG7),(Yk,.pf ZG8),(ZAV,.pf ZIM),(ZEO,.pf ZLh),(ZCu,.pf ZIN),(Yl,.pf ZAk),(YU,.pf ZIO),(ZEP,.pf ZLi),(ZCv,.pf ZIP),(XD,.pf ZFg),(XE,.pf ZFh),(YL,.pf ZBw)]
def T0:Tab:=X4 ZmM
theorem Zk3:ZSv Go.Proofs.Try.prog ZmM:=⟨⟨Go.Proofs.Try.call10,_,_,_,Go.Proofs.Try.func10,ZER⟩,⟨⟨Go.Proofs.Try.call17,_,_,_,Go.Proofs.Try.func17,Zag⟩,⟨⟨Go.Proofs.Try.call18,_,_,_,Go.Proofs.Try.func18,Zc4⟩,⟨⟨Go.Proofs.Try.call26,_,_,_,Go.Proofs.Try.func26,ZIp⟩,⟨⟨Go.Proofs.Try.call27,_,_,_,Go.Proofs.Try.func27,ZHp⟩,⟨⟨Go.Proofs.Try.call28,_,_,_,Go.Proofs.Try.func28,Zew⟩,⟨⟨Go.Proofs.Try.call29,_,_,_,Go.Proofs.Try.func29,ZIr⟩,⟨⟨Go.Proofs.Try.call32,_,_,_,Go.Proofs.Try.func32,Zaw⟩,⟨⟨Go.Proofs.Try.call34,_,_,_,Go.Proofs.Try.func34,ZPi⟩,⟨⟨Go.Proofs.Try.call35,_,_,_,Go.Proofs.Try.func35,ZPk⟩,⟨⟨Go.Proofs.Try.call36,_,_,_,Go.Proofs.Try.func36,ZKV⟩,⟨⟨Go.Proofs.Try.call41,_,_,_,Go.Proofs.Try.func41,ZIt⟩,⟨⟨Go.Proofs.Try.call45,_,_,_,Go.Proofs.Try.func45,ZH0⟩,⟨⟨Go.Proofs.Try.call46,_,_,_,Go.Proofs.Try.func46,ZTn⟩,⟨⟨Go.Proofs.Try.call47,_,_,_,Go.Proofs.Try.func47,ZC7⟩,⟨⟨Go.Proofs.Try.call49,_,_,_,Go.Proofs.Try.func49,Zc6⟩,⟨⟨Go.Proofs.Try.call50,_,_,_,Go.Proofs.Try.func50,Zey⟩,⟨⟨Go.Proofs.Try.call51,_,_,_,Go.Proofs.Try.func51,ZFy⟩,⟨⟨Go.Proofs.Try.call53,_,_,_,Go.Proofs.Try.func53,Za6⟩,⟨⟨Go.Proofs.Try.call55,_,_,_,Go.Proofs.Try.func55,ZH2⟩,⟨⟨Go.Proofs.Try.call56,_,_,_,Go.Proofs.Try.func56,Zc8⟩,⟨⟨Go.Proofs.Try.call57,_,_,_,Go.Proofs.Try.func57,ZF4⟩,⟨⟨Go.Proofs.Try.call59,_,_,_,Go.Proofs.Try.func59,ZdA⟩,⟨⟨Go.Proofs.Try.call60,_,_,_,Go.Proofs.Try.func60,ZUI⟩,⟨⟨Go.Proofs.Try.call61,_,_,_,Go.Proofs.Try.func61,Za8⟩,⟨⟨Go.Proofs.Try.call63,_,_,_,Go.Proofs.Try.func63,ZdC⟩,⟨⟨Go.Proofs.Try.call64,_,_,_,Go.Proofs.Try.func64,ZP0⟩,⟨⟨Go.Proofs.Try.call65,_,_,_,Go.Proofs.Try.func65,ZdE⟩,⟨⟨Go.Proofs.Try.call66,_,_,_,Go.Proofs.Try.func66,ZbA⟩,⟨⟨Go.Proofs.Try.call71,_,_,_,Go.Proofs.Try.func71,ZGj⟩,⟨⟨Go.Proofs.Try.call72,_,_,_,Go.Proofs.Try.func72,ZGl⟩,⟨⟨Go.Proofs.Try.call73,_,_,_,Go.Proofs.Try.func73,ZCI⟩,⟨⟨Go.Proofs.Try.call74,_,_,_,Go.Proofs.Try.func74,ZI0⟩,⟨⟨Go.Proofs.Try.call75,_,_,_,Go.Proofs.Try.func75,ZUX⟩,⟨⟨Go.Proofs.Try.call84,_,_,_,Go.Proofs.Try.func84,ZH4⟩,⟨⟨Go.Proofs.Try.call85,_,_,_,Go.Proofs.Try.func85,ZXo⟩,⟨⟨Go.Proofs.Try.call86,_,_,_,Go.Proofs.Try.func86,ZXq⟩,⟨⟨Go.Proofs.Try.call87,_,_,_,Go.Proofs.Try.func87,ZND⟩,⟨⟨Go.Proofs.Try.call88,_,_,_,Go.Proofs.Try.func88,ZdG⟩,⟨⟨Go.Proofs.Try.call91,_,_,_,Go.Proofs.Try.func91,ZUZ⟩,⟨⟨Go.Proofs.Try.call92,_,_,_,Go.Proofs.Try.func92,ZDc⟩,⟨⟨Go.Proofs.Try.call93,_,_,_,Go.Proofs.Try.func93,ZUb⟩,⟨⟨Go.Proofs.Try.call94,_,_,_,Go.Proofs.Try.func94,ZbC⟩,⟨⟨Go.Proofs.Try.call95,_,_,_,Go.Proofs.Try.func95,ZbE⟩,⟨⟨Go.Proofs.Try.call96,_,_,_,Go.Proofs.Try.func96,ZdI⟩,⟨⟨Go.Proofs.Try.call97,_,_,_,Go.Proofs.Try.func97,ZbG⟩,⟨⟨Go.Proofs.Try.call98,_,_,_,Go.Proofs.Try.func98,Ze0⟩,⟨⟨Go.Proofs.Try.call99,_,_,_,Go.Proofs.Try.func99,Ze2⟩,⟨⟨Go.Proofs.Try.call100,_,_,_,Go.Proofs.Try.func100,ZYS⟩,⟨⟨Go.Proofs.Try.call101,_,_,_,Go.Proofs.Try.func101,Zbc⟩,⟨⟨Go.Proofs.Try.call102,_,_,_,Go.Proofs.Try.func102,ZVA⟩,⟨⟨Go.Proofs.Try.call103,_,_,_,Go.Proofs.Try.func103,ZNe⟩,⟨⟨Go.Proofs.Try.call106,_,_,_,Go.Proofs.Try.func106,ZG1⟩,⟨⟨Go.Proofs.Try.call107,_,_,_,Go.Proofs.Try.func107,ZGC⟩,⟨⟨Go.Proofs.Try.call108,_,_,_,Go.Proofs.Try.func108,ZG3⟩,⟨⟨Go.Proofs.Try.call109,_,_,_,Go.Proofs.Try.func109,ZVC⟩,⟨⟨Go.Proofs.Try.call110,_,_,_,Go.Proofs.Try.func110,ZVE⟩,⟨⟨Go.Proofs.Try.call111,_,_,_,Go.Proofs.Try.func111,ZNn⟩,⟨⟨Go.Proofs.Try.call112,_,_,_,Go.Proofs.Try.func112,ZNp⟩,⟨⟨Go.Proofs.Try.call118,_,_,_,Go.Proofs.Try.func118,ZVG⟩,⟨⟨Go.Proofs.Try.call120,_,_,_,Go.Proofs.Try.func120,ZYU⟩,⟨⟨Go.Proofs.Try.call121,_,_,_,Go.Proofs.Try.func121,ZYW⟩,⟨⟨Go.Proofs.Try.call122,_,_,_,Go.Proofs.Try.func122,ZdK⟩,⟨⟨Go.Proofs.Try.call123,_,_,_,Go.Proofs.Try.func123,Zbe⟩,⟨⟨Go.Proofs.Try.call126,_,_,_,Go.Proofs.Try.func126,ZYe⟩,⟨⟨Go.Proofs.Try.call127,_,_,_,Go.Proofs.Try.func127,Zbg⟩,⟨⟨Go.Proofs.Try.call128,_,_,_,Go.Proofs.Try.func128,Zbi⟩,⟨⟨Go.Proofs.Try.call129,_,_,_,Go.Proofs.Try.func129,Ze4⟩,⟨⟨Go.Proofs.Try.call130,_,_,_,Go.Proofs.Try.func130,ZN5⟩,⟨⟨Go.Proofs.Try.call131,_,_,_,Go.Proofs.Try.func131,ZH8⟩,⟨⟨Go.Proofs.Try.call135,_,_,_,Go.Proofs.Try.func135,ZN7⟩,⟨⟨Go.Proofs.Try.call136,_,_,_,Go.Proofs.Try.func136,ZQ6⟩,⟨⟨Go.Proofs.Try.call137,_,_,_,Go.Proofs.Try.func137,ZdM⟩,⟨⟨Go.Proofs.Try.call138,_,_,_,Go.Proofs.Try.func138,Zbu⟩,⟨⟨Go.Proofs.Try.call139,_,_,_,Go.Proofs.Try.func139,ZN9⟩,⟨⟨Go.Proofs.Try.call140,_,_,_,Go.Proofs.Try.func140,ZOB⟩,⟨⟨Go.Proofs.Try.call141,_,_,_,Go.Proofs.Try.func141,ZRF⟩,⟨⟨Go.Proofs.Try.call142,_,_,_,Go.Proofs.Try.func142,Zbw⟩,⟨⟨Go.Proofs.Try.call143,_,_,_,Go.Proofs.Try.func143,ZYo⟩,⟨⟨Go.Proofs.Try.call144,_,_,_,Go.Proofs.Try.func144,ZdO⟩,⟨⟨Go.Proofs.Try.call145,_,_,_,Go.Proofs.Try.func145,ZVr⟩,⟨⟨Go.Proofs.Try.call146,_,_,_,Go.Proofs.Try.func146,ZVt⟩,⟨⟨Go.Proofs.Try.call147,_,_,_,Go.Proofs.Try.func147,ZYv⟩,⟨⟨Go.Proofs.Try.call148,_,_,_,Go.Proofs.Try.func148,Zby⟩,⟨⟨Go.Proofs.Try.call149,_,_,_,Go.Proofs.Try.func149,ZYx⟩,⟨⟨Go.Proofs.Try.call150,_,_,_,Go.Proofs.Try.func150,ZHA⟩,⟨⟨Go.Proofs.Try.call151,_,_,_,Go.Proofs.Try.func151,ZYz⟩,⟨⟨Go.Proofs.Try.call152,_,_,_,Go.Proofs.Try.func152,Zb0⟩,⟨⟨Go.Proofs.Try.call153,_,_,_,Go.Proofs.Try.func153,ZY1⟩,⟨⟨Go.Proofs.Try.call154,_,_,_,Go.Proofs.Try.func154,ZR2⟩,⟨⟨Go.Proofs.Try.call155,_,_,_,Go.Proofs.Try.func155,ZR4⟩,⟨⟨Go.Proofs.Try.call156,_,_,_,Go.Proofs.Try.func156,ZJY⟩,trivial⟩⟩⟩⟩⟩⟩⟩⟩⟩⟩⟩⟩⟩⟩⟩⟩⟩⟩⟩⟩⟩⟩⟩⟩⟩⟩⟩⟩⟩⟩⟩⟩⟩⟩⟩⟩⟩⟩⟩⟩⟩⟩⟩⟩⟩⟩⟩⟩⟩⟩⟩⟩⟩⟩⟩⟩⟩⟩⟩⟩⟩⟩⟩⟩⟩⟩⟩⟩⟩⟩⟩⟩⟩⟩⟩⟩⟩⟩⟩⟩⟩⟩⟩⟩⟩⟩⟩⟩⟩⟩⟩⟩
end Go.Q15
