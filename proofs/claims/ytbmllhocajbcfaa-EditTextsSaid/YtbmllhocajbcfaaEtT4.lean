/- Resolved code, printed by program. No condition. -/
import Derived.Test.YtbmllhocajbcfaaProg
import Derived.KernelRfl
import Derived.Test.YtbmllhocajbcfaaEtT3
set_option linter.unusedVariables false
set_option linter.unusedSimpArgs false
namespace Go.Q15
open Go Go.QAbs
set_option maxRecDepth 100000
abbrev Zmh:FuncId:=1
abbrev Zh5:FuncId:=2
abbrev ZaR:FuncId:=3
abbrev ZaS:FuncId:=4
abbrev ZaT:FuncId:=5
abbrev ZbS:FuncId:=6
abbrev ZaU:FuncId:=7
abbrev JN:FuncId:=8
abbrev ZaV:FuncId:=9
abbrev ZbT:FuncId:=10
abbrev Xb:FuncId:=11
abbrev Xc:FuncId:=12
abbrev ZfE:FuncId:=13
abbrev YM:FuncId:=14
abbrev XE:FuncId:=15
abbrev ZGZ:FuncId:=16
abbrev Y2:FuncId:=17
abbrev Jy:FuncId:=18
abbrev ZDB:FuncId:=19
abbrev ZT4:FuncId:=20
abbrev ZdE:FuncId:=21
abbrev Xo:FuncId:=22
abbrev Xp:FuncId:=23
abbrev Zfq:FuncId:=24
abbrev Zfr:FuncId:=25
abbrev Zfs:FuncId:=26
abbrev XF:FuncId:=27
abbrev ZAS:FuncId:=28
abbrev JC:FuncId:=29
abbrev Zmi:FuncId:=30
abbrev ZbU:FuncId:=31
abbrev Y3:FuncId:=32
abbrev Zft:FuncId:=33
abbrev ZA0:FuncId:=34
abbrev XR:FuncId:=35
abbrev Qi:FuncId:=36
abbrev ZdF:FuncId:=37
abbrev Yp:FuncId:=38
abbrev ZfF:FuncId:=39
abbrev YN:FuncId:=40
abbrev JD:FuncId:=41
abbrev Zmj:FuncId:=42
abbrev Zmk:FuncId:=43
abbrev Xd:FuncId:=44
abbrev Qf:FuncId:=45
abbrev Yq:FuncId:=46
abbrev J3:FuncId:=47
abbrev ZAd:FuncId:=48
abbrev ZCy:FuncId:=49
abbrev ZBk:FuncId:=50
abbrev ZdG:FuncId:=51
abbrev Zlt:FuncId:=52
abbrev Xq:FuncId:=53
abbrev ZaW:FuncId:=54
abbrev ZfG:FuncId:=55
abbrev Zml:FuncId:=56
abbrev ZdH:FuncId:=57
abbrev ZfH:FuncId:=58
abbrev Jc:FuncId:=59
abbrev Xr:FuncId:=60
abbrev Ja:FuncId:=61
abbrev Ya:FuncId:=62
abbrev Xk:FuncId:=63
abbrev Ju:FuncId:=64
abbrev QS:FuncId:=65
abbrev Xs:FuncId:=66
abbrev ZPm:FuncId:=68
abbrev Zg4:FuncId:=70
abbrev Zd9:FuncId:=71
abbrev Yr:FuncId:=72
abbrev Jt:FuncId:=73
abbrev Zfu:FuncId:=74
abbrev Qk:FuncId:=75
abbrev Z5:FuncId:=76
abbrev ZdI:FuncId:=77
abbrev ZfI:FuncId:=78
abbrev Zmm:FuncId:=79
abbrev Zlu:FuncId:=80
abbrev Zmn:FuncId:=81
abbrev Zlv:FuncId:=82
abbrev Zkw:FuncId:=83
abbrev J6:FuncId:=84
abbrev ZAe:FuncId:=85
abbrev XK:FuncId:=86
abbrev J7:FuncId:=87
abbrev ZGa:FuncId:=88
abbrev YY:FuncId:=89
abbrev ZDC:FuncId:=90
abbrev ZBl:FuncId:=91
abbrev ZaX:FuncId:=92
abbrev ZBm:FuncId:=93
abbrev ZEO:FuncId:=94
abbrev QK:FuncId:=95
abbrev ZCz:FuncId:=96
abbrev QT:FuncId:=97
abbrev ZAT:FuncId:=98
abbrev ZAU:FuncId:=99
abbrev J4:FuncId:=100
abbrev ZBH:FuncId:=101
abbrev Ql:FuncId:=102
abbrev J8:FuncId:=103
abbrev ZTE:FuncId:=104
abbrev ZeA:FuncId:=106
abbrev Yd:FuncId:=107
abbrev ZeB:FuncId:=108
abbrev Ys:FuncId:=109
abbrev Xt:FuncId:=110
abbrev Ji:FuncId:=111
abbrev JE:FuncId:=112
abbrev Zkx:FuncId:=113
abbrev Zmo:FuncId:=114
abbrev Zji:FuncId:=115
abbrev Zky:FuncId:=116
abbrev Zjj:FuncId:=117
abbrev ZBn:FuncId:=118
abbrev ZGb:FuncId:=119
abbrev ZDD:FuncId:=120
abbrev ZAf:FuncId:=121
abbrev ZGc:FuncId:=122
abbrev Xu:FuncId:=123
abbrev Zkz:FuncId:=126
abbrev Zlw:FuncId:=127
abbrev ZBI:FuncId:=128
abbrev ZBo:FuncId:=129
abbrev Y4:FuncId:=130
abbrev JU:FuncId:=131
abbrev Zih:FuncId:=132
abbrev Zk0:FuncId:=133
abbrev Zjk:FuncId:=134
abbrev Y5:FuncId:=135
abbrev ZA1:FuncId:=136
abbrev ZGd:FuncId:=137
abbrev JJ:FuncId:=138
abbrev J9:FuncId:=139
abbrev YA:FuncId:=140
abbrev Jv:FuncId:=141
abbrev Xv:FuncId:=142
abbrev ZDE:FuncId:=143
abbrev ZC0:FuncId:=144
abbrev ZBp:FuncId:=145
abbrev ZBq:FuncId:=146
abbrev ZAg:FuncId:=147
abbrev ZEP:FuncId:=148
abbrev ZDF:FuncId:=149
abbrev Yt:FuncId:=150
abbrev Yb:FuncId:=151
abbrev ZEQ:FuncId:=152
abbrev ZDG:FuncId:=153
abbrev XS:FuncId:=154
abbrev XT:FuncId:=155
abbrev YO:FuncId:=156
abbrev I (d:Nat) (o:PO):PI:=⟨some d,none,false,o⟩
abbrev G (d g:Nat) (b:Bool) (o:PO):PI:=⟨some d,some (g,b),false,o⟩
abbrev J (o:PO):PI:=⟨none,none,false,o⟩
abbrev C (f:FuncId) (a:List Opd):PO:=.call .norm (.v (.func (.func f) [] [])) a
abbrev H (k:List Nat):Hint:=⟨k,[],[],[],[],[]⟩
abbrev V (i:Int):Opd:=.v (.int .i64 i)
abbrev ZT:AV:=.agg [(.int .u64 0),(.int .i64 0),(.int .i64 0),(.int .i64 0),(.int .i64 0),(.str []),.nils]
abbrev ZR:AV:=.agg [(.int .u64 0),(.int .i64 0),(.int .i64 0),(.int .i64 0),(.int .i64 0)]
abbrev ZM:AV:=.agg [(.int .i64 0),(.int .i64 0),(.int .i64 0)]
abbrev ZN:AV:=.agg [(.int .i64 0),(.str []),.nils]
abbrev ZK:AV:=.agg [(.int .u64 0),(.int .i64 0),(.int .i64 0),(.int .i64 0)]
def ZDY:List Hint:=[H [0,1,2,3,4],H [0,1,2,3,4,51],H [10],H [2,3,4,11,12,13,14],H [2,3,4,11,12,13,62],H [10],H [2,3,4,11,12,13,65],H [10],H [2,11,12,13,15,16],⟨[2,11,12,13,16,17,18],[],[],[],[(7,(.only (.s 13))),(9,(.off (.s 13))),(6,(.only (.s 13)))],[]⟩,H [2,11,12,13,16,17,18,19],H [2,11,12,13,16,17,18,19,88],H [2,11,12,13,16,17,18,19,20],H [2,11,12,13,16,17,18,19,20,21,22],H [2,11,12,13,16,17,18,19,20,21,22,23],H [2,11,12,13,16,17,18,19,20,21,22,23,24],H [2,11,12,13,16,17,18,19,20,21,22,23,24,25,26],H [2,11,12,13,16,17,18,19,20,21,23,24,25,26,124],H [10],H [2,11,12,13,16,17,18,19,20,21,23,24,25,26,126],H [10],H [2,11,12,13,16,17,18,19,21,25,26,27],H [2,11,12,13,16,17,18,19,21,25,26,27,28,29],H [2,11,12,13,16,17,18,19,21,25,26,27,28,29,30,31],H [2,11,12,13,16,17,18,19,21,25,26,27,28,29,30,31,32,33],H [2,11,12,13,16,17,19,25,27,188],H [10],⟨[2,11,12,13,16,17,19,25,26,27,34],[],[(7,.inner)],[],[(11,(.here 11))],[11]⟩,H [2,11,12,13,16,17,19,25,26,27,34,201],H [2,11,12,13,16,17,19,25,26,27,35,36],H [2,11,12,13,16,17,19,25,27,224],H [10],H [2,11,12,13,16,17,18,19],H [2,11,12,13,16,17,18,19],H [11,12,13,37],H [11,12,13,37,231],H [11,12,13,37,38,39],H [11,12,13,37,252],H [10],H [11,12,13,37],H [10]]
def ZCg:PC :=
 (.reg [0,1,2,3,4] [I 10 (.mv (.v (.bool false)))])
def ZCh:PC :=
 (.reg [0,1,2,3,4,51] [I 40 (.mv (.s 0)),I 41 (.mv (.s 1)),I 42 (C Yp [(.s 40),(.s 41)]),I 43 (.mv (.s 42)),G 44 43 false (.mv (.s 2)),G 45 43 false (.len 1 (.s 44)),G 46 43 false (.bin .gtr (.s 45) (V 6)),I 47 (.pick (.s 43) (.v (.bool true)) (.s 46)),I 48 (.mv (.s 47)),G 49 48 false (.mv (.s 2)),G 50 48 false (C Xd [(.s 49)]),I 51 (.pick (.s 48) (.v (.bool true)) (.s 50))])
def ZCi:PC :=
 (.reg [10] [I 52 (C Qf []),I 10 (.mv (.s 52))])
def ZCj:PC :=
 (.reg [2,3,4,11,12,13,14] [I 54 (.mv (.s 0)),I 55 (.mv (.s 1)),I 56 (C YN [(.s 54),(.s 55)]),I 53 (.mv (.s 56)),I 57 (.ext (.s 53) 0),I 58 (.ext (.s 53) 1),I 59 (.ext (.s 53) 2),I 60 (.ext (.s 53) 3),I 11 (.mv (.s 57)),I 12 (.mv (.s 58)),I 13 (.mv (.s 59)),I 14 (.mv (.s 60))])
def ZCk:PC :=
 (.reg [2,3,4,11,12,13,62] [I 61 (.mv (.s 14)),I 62 (.un .not (.s 61))])
def ZCl:PC :=
 (.reg [10] [I 10 (.mv (.v (.bool false)))])
def ZCm:PC :=
 (.reg [2,3,4,11,12,13,65] [I 63 (.mv (.s 12)),I 64 (.len 1 (.s 63)),I 65 (.bin .eql (.s 64) (V 0))])
def ZCn:PC :=
 (.reg [10] [I 66 (C Qf []),I 10 (.mv (.s 66))])
def ZCo:PC :=
 (.reg [2,11,12,13,15,16] [I 67 (.mv (.s 3)),I 68 (.mv (.s 12)),I 69 (.len 1 (.s 68)),I 70 (.bin .sub (.s 69) (V 1)),I 71 (C JD [(.s 67),(.s 70)]),I 72 (.mv (.s 4)),I 73 (.mv (.s 12)),I 74 (.len 1 (.s 73)),I 75 (.bin .sub (.s 74) (V 1)),I 76 (C JD [(.s 72),(.s 75)]),I 15 (.mv (.s 71)),I 16 (.mv (.s 76))])
def ZCp:PC :=
 (.reg [2,11,12,13,16,17,18] [I 77 (.mv (.s 12)),I 78 (.mv (.s 15)),I 79 (.ixS 5 (.s 77) (.s 78)),I 80 (.ld true 5 (.s 79)),I 81 (.mv (.s 13)),I 82 (.mv (.s 15)),I 83 (.w (.only (.s 13)) (.ixS 1 (.s 81) (.s 82))),I 84 (.w (.only (.s 13)) (.ld false 1 (.s 83))),I 17 (.box (.v ZR)),J (.w (.off (.s 13)) (.st 5 (.s 17) (.s 80))),I 18 (.mv (.s 84))])
def ZBr:PC :=
 (.reg [2,11,12,13,16,17,18,19] [I 19 (.mv (V 0))])
def ZBs:PC :=
 (.reg [2,11,12,13,16,17,18,19,88] [I 85 (.mv (.s 19)),I 86 (.mv (.s 2)),I 87 (.len 1 (.s 86)),I 88 (.bin .lss (.s 85) (.s 87))])
def ZBt:PC :=
 (.reg [2,11,12,13,16,17,18,19,20] [I 91 (.mv (.s 2)),I 92 (.mv (.s 19)),I 93 (.ixS 3 (.s 91) (.s 92)),I 94 (.ld true 3 (.s 93)),I 20 (.box (.v (.agg [(.int .i64 0),(.int .i64 0),(.str [])]))),J (.st 3 (.s 20) (.s 94))])
def ZBu:PC :=
 (.reg [2,11,12,13,16,17,18,19,20,21,22] [I 96 (.mv (.s 11)),I 97 (.ld true 5 (.s 17)),I 98 (C Xp [(.s 96),(.s 97)]),I 95 (.mv (.s 98)),I 99 (.ext (.s 95) 0),I 100 (.ext (.s 95) 1),I 21 (.mv (.s 99)),I 22 (.mv (.s 100))])
def ZBv:PC :=
 (.reg [2,11,12,13,16,17,18,19,20,21,22,23] [I 101 (.fadr 0 (.s 20)),I 102 (.ld false 1 (.s 101)),I 103 (.mv (.s 18)),I 104 (.len 0 (.s 103)),I 105 (C JD [(.s 102),(.s 104)]),I 23 (.mv (.s 105))])
def ZBw:PC :=
 (.reg [2,11,12,13,16,17,18,19,20,21,22,23,24] [I 106 (.fadr 1 (.s 20)),I 107 (.ld false 1 (.s 106)),I 108 (.mv (.s 18)),I 109 (.len 0 (.s 108)),I 110 (.mv (.s 23)),I 111 (.bin .sub (.s 109) (.s 110)),I 112 (C JD [(.s 107),(.s 111)]),I 24 (.mv (.s 112))])
def ZBx:PC :=
 (.reg [2,11,12,13,16,17,18,19,20,21,22,23,24,25,26] [I 114 (.mv (.s 11)),I 115 (.ld true 5 (.s 17)),I 116 (.mv (.s 23)),I 117 (.mv (.s 24)),I 118 (.fadr 2 (.s 20)),I 119 (.ld false 1 (.s 118)),I 120 (C Yq [(.s 114),(.s 115),(.s 116),(.s 117),(.s 119)]),I 113 (.mv (.s 120)),I 121 (.ext (.s 113) 0),I 122 (.ext (.s 113) 1),I 25 (.box (.v (.agg [(.int .u64 0),(.int .i64 0),(.int .i64 0),(.int .i64 0),(.int .i64 0),.nils,.nils]))),J (.st 7 (.s 25) (.s 121)),I 26 (.mv (.s 122))])
def ZBy:PC :=
 (.reg [2,11,12,13,16,17,18,19,20,21,23,24,25,26,124] [I 123 (.mv (.s 22)),I 124 (.bin .neq (.s 123) (V 0))])
def ZBz:PC :=
 (.reg [10] [I 10 (.mv (.v (.bool false)))])
def ZB0:PC :=
 (.reg [2,11,12,13,16,17,18,19,20,21,23,24,25,26,126] [I 125 (.mv (.s 26)),I 126 (.bin .eql (.s 125) (V 6))])
def ZB1:PC :=
 (.reg [10] [I 127 (C Qf []),I 10 (.mv (.s 127))])
def ZB2:PC :=
 (.reg [2,11,12,13,16,17,18,19,21,25,26,27] [I 128 (.mv (.s 18)),I 129 (.mv (.s 23)),I 130 (.slcS (.s 128) none (some (.s 129))),I 131 (.fadr 2 (.s 20)),I 132 (.ld false 1 (.s 131)),I 133 (.bin .add (.s 130) (.s 132)),I 134 (.mv (.s 18)),I 135 (.mv (.s 23)),I 136 (.mv (.s 24)),I 137 (.bin .add (.s 135) (.s 136)),I 138 (.slcS (.s 134) (some (.s 137)) none),I 139 (.bin .add (.s 133) (.s 138)),I 27 (.mv (.s 139))])
def ZB3:PC :=
 (.reg [2,11,12,13,16,17,18,19,21,25,26,27,28,29] [I 141 (.mv (.s 11)),I 142 (.fadr 0 (.s 25)),I 143 (.ld true 5 (.s 142)),I 144 (C Jy [(.s 141),(.s 143)]),I 140 (.mv (.s 144)),I 145 (.ext (.s 140) 0),I 146 (.ext (.s 140) 1),I 28 (.mv (.s 145)),I 29 (.mv (.s 146))])
def ZB4:PC :=
 (.reg [2,11,12,13,16,17,18,19,21,25,26,27,28,29,30,31] [I 148 (.mv (.s 11)),I 149 (.ld true 5 (.s 17)),I 150 (C Jy [(.s 148),(.s 149)]),I 147 (.mv (.s 150)),I 151 (.ext (.s 147) 0),I 152 (.ext (.s 147) 1),I 30 (.mv (.s 151)),I 31 (.mv (.s 152))])
def ZB5:PC :=
 (.reg [2,11,12,13,16,17,18,19,21,25,26,27,28,29,30,31,32,33] [I 154 (.mv (.s 11)),I 155 (.ld true 5 (.s 17)),I 156 (C Xp [(.s 154),(.s 155)]),I 153 (.mv (.s 156)),I 157 (.ext (.s 153) 0),I 158 (.ext (.s 153) 1),I 32 (.mv (.s 157)),I 33 (.mv (.s 158))])
def ZB6:PC :=
 (.reg [2,11,12,13,16,17,19,25,27,188] [I 159 (.mv (.s 26)),I 160 (.bin .neq (.s 159) (V 0)),I 161 (.mv (.s 160)),G 162 161 false (.mv (.s 29)),G 163 161 false (.bin .neq (.s 162) (V 0)),I 164 (.pick (.s 161) (.v (.bool true)) (.s 163)),I 165 (.mv (.s 164)),G 166 165 false (.mv (.s 31)),G 167 165 false (.bin .neq (.s 166) (V 0)),I 168 (.pick (.s 165) (.v (.bool true)) (.s 167)),I 169 (.mv (.s 168)),G 170 169 false (.mv (.s 33)),G 171 169 false (.bin .neq (.s 170) (V 0)),I 172 (.pick (.s 169) (.v (.bool true)) (.s 171)),I 173 (.mv (.s 172)),G 174 173 false (.mv (.s 28)),G 175 173 false (.mv (.s 27)),G 176 173 false (.bin .neq (.s 174) (.s 175)),I 177 (.pick (.s 173) (.v (.bool true)) (.s 176)),I 178 (.mv (.s 177)),G 179 178 false (.mv (.s 30)),G 180 178 false (.mv (.s 18)),G 181 178 false (.bin .neq (.s 179) (.s 180)),I 182 (.pick (.s 178) (.v (.bool true)) (.s 181)),I 183 (.mv (.s 182)),G 184 183 false (.mv (.s 21)),G 185 183 false (.mv (.s 32)),G 186 183 false (C J3 [(.s 184),(.s 185)]),G 187 183 false (.un .not (.s 186)),I 188 (.pick (.s 183) (.v (.bool true)) (.s 187))])
def ZB7:PC :=
 (.reg [10] [I 10 (.mv (.v (.bool false)))])
def ZB8:PC :=
 (.regH [11] [2,11,12,13,16,17,19,25,26,27,34] [I 190 (.mv (.s 11)),I 191 (.fadr 0 (.s 25)),I 192 (.ld true 5 (.s 191)),I 193 (.mv (.s 12)),I 194 (.mv (.s 16)),I 195 (.ixS 5 (.s 193) (.s 194)),I 196 (.ld true 5 (.s 195)),I 197 (.call .inner (.v (.func (.func ZAd) [] [])) [(.s 190),(.s 192),(.s 196)]),I 189 (.mv (.s 197)),I 198 (.ext (.s 189) 0),I 199 (.ext (.s 189) 1),I 34 (.w (.here 11) (.box (.v (.agg [(.int .u64 0),(.int .i64 0),(.int .i64 0),(.int .i64 0),(.int .i64 0),.nils,.nils])))),J (.st 7 (.s 34) (.s 198)),I 26 (.mv (.s 199))])
def ZB9:PC :=
 (.reg [2,11,12,13,16,17,19,25,26,27,34,201] [I 200 (.mv (.s 26)),I 201 (.bin .neq (.s 200) (V 6))])
def ZCA:PC :=
 (.reg [2,11,12,13,16,17,19,25,26,27,35,36] [I 203 (.mv (.s 11)),I 204 (.fadr 0 (.s 34)),I 205 (.ld true 5 (.s 204)),I 206 (C Jy [(.s 203),(.s 205)]),I 202 (.mv (.s 206)),I 207 (.ext (.s 202) 0),I 208 (.ext (.s 202) 1),I 35 (.mv (.s 207)),I 36 (.mv (.s 208))])
def ZCB:PC :=
 (.reg [2,11,12,13,16,17,19,25,27,224] [I 209 (.mv (.s 26)),I 210 (.bin .neq (.s 209) (V 0)),I 211 (.mv (.s 210)),G 212 211 false (.mv (.s 36)),G 213 211 false (.bin .neq (.s 212) (V 0)),I 214 (.pick (.s 211) (.v (.bool true)) (.s 213)),I 215 (.mv (.s 214)),G 216 215 false (.mv (.s 35)),G 217 215 false (.mv (.s 27)),G 218 215 false (.mv (.s 13)),G 219 215 false (.mv (.s 16)),G 220 215 false (.ixS 1 (.s 218) (.s 219)),G 221 215 false (.ld false 1 (.s 220)),G 222 215 false (.bin .add (.s 217) (.s 221)),G 223 215 false (.bin .neq (.s 216) (.s 222)),I 224 (.pick (.s 215) (.v (.bool true)) (.s 223))])
def ZCC:PC :=
 (.reg [10] [I 10 (.mv (.v (.bool false)))])
def ZCD:PC :=
 (.reg [2,11,12,13,16,17,18,19] [I 225 (.fadr 0 (.s 25)),I 226 (.ld true 5 (.s 225)),I 227 (.mv (.s 27)),J (.st 5 (.s 17) (.s 226)),I 18 (.mv (.s 227))])
def ZCE:PC :=
 (.reg [2,11,12,13,16,17,18,19] [I 89 (.mv (.s 19)),I 90 (.bin .add (.s 89) (V 1)),I 19 (.mv (.s 90))])
def p_quartolaw19_EditTexts_34:PC :=
 (.seq (.seq ZBs
 (.ite (.s 88)
 .skip
 (.exit 0)))
 (.seq (.block 1
 (.seq ZBt
 (.seq ZBu
 (.seq ZBv
 (.seq ZBw
 (.seq ZBx
 (.seq (.seq ZBy
 (.ite (.s 124)
 (.seq ZBz
 .ret)
 .skip))
 (.seq (.seq ZB0
 (.ite (.s 126)
 (.seq ZB1
 .ret)
 .skip))
 (.seq ZB2
 (.seq ZB3
 (.seq ZB4
 (.seq ZB5
 (.seq (.seq ZB6
 (.ite (.s 188)
 (.seq ZB7
 .ret)
 .skip))
 (.seq ZB8
 (.seq (.seq ZB9
 (.ite (.s 201)
 (.seq ZCA
 (.seq ZCB
 (.ite (.s 224)
 (.seq ZCC
 .ret)
 .skip)))
 .skip))
 ZCD)))))))))))))))
 ZCE))
def p_quartolaw19_EditTexts_35:PC :=
 (.reg [11,12,13,37] [I 37 (.mv (V 0))])
def ZCF:PC :=
 (.reg [11,12,13,37,231] [I 228 (.mv (.s 37)),I 229 (.mv (.s 12)),I 230 (.len 1 (.s 229)),I 231 (.bin .lss (.s 228) (.s 230))])
def ZCG:PC :=
 (.reg [11,12,13,37,38,39] [I 235 (.mv (.s 11)),I 236 (.mv (.s 12)),I 237 (.mv (.s 37)),I 238 (.ixS 5 (.s 236) (.s 237)),I 239 (.ld true 5 (.s 238)),I 240 (C Jy [(.s 235),(.s 239)]),I 234 (.mv (.s 240)),I 241 (.ext (.s 234) 0),I 242 (.ext (.s 234) 1),I 38 (.mv (.s 241)),I 39 (.mv (.s 242))])
def ZCH:PC :=
 (.reg [11,12,13,37,252] [I 243 (.mv (.s 39)),I 244 (.bin .neq (.s 243) (V 0)),I 245 (.mv (.s 244)),G 246 245 false (.mv (.s 38)),G 247 245 false (.mv (.s 13)),G 248 245 false (.mv (.s 37)),G 249 245 false (.ixS 1 (.s 247) (.s 248)),G 250 245 false (.ld false 1 (.s 249)),G 251 245 false (.bin .neq (.s 246) (.s 250)),I 252 (.pick (.s 245) (.v (.bool true)) (.s 251))])
def ZCI:PC :=
 (.reg [10] [I 10 (.mv (.v (.bool false)))])
def ZCJ:PC :=
 (.reg [11,12,13,37] [I 232 (.mv (.s 37)),I 233 (.bin .add (.s 232) (V 1)),I 37 (.mv (.s 233))])
def p_quartolaw19_EditTexts_41:PC :=
 (.seq (.seq ZCF
 (.ite (.s 231)
 .skip
 (.exit 2)))
 (.seq (.block 3
 (.seq ZCG
 (.seq ZCH
 (.ite (.s 252)
 (.seq ZCI
 .ret)
 .skip))))
 ZCJ))
def p_quartolaw19_EditTexts_42:PC :=
 (.reg [10] [I 253 (C Qf []),I 10 (.mv (.s 253))])
def YB:PF:=⟨false,
 (.seq ZCg
 (.seq (.seq ZCh
 (.ite (.s 51)
 (.seq ZCi
 .ret)
 .skip))
 (.seq ZCj
 (.seq (.seq ZCk
 (.ite (.s 62)
 (.seq ZCl
 .ret)
 .skip))
 (.seq (.seq ZCm
 (.ite (.s 65)
 (.seq ZCn
 .ret)
 .skip))
 (.seq ZCo
 (.seq ZCp
 (.seq (.seq ZBr
 (.block 0
 (.loop p_quartolaw19_EditTexts_34)))
 (.seq (.seq p_quartolaw19_EditTexts_35
 (.block 2
 (.loop p_quartolaw19_EditTexts_41)))
 (.seq p_quartolaw19_EditTexts_42
 .ret)))))))))),
 [.s 10]⟩
theorem ZDZ:Zv Go.Proofs.Try.prog false ZDY Go.Proofs.Try.f8=some YB:=by kernel_rfl
def ZJM:List Hint:=[H [0],H [0,3],H [0,3,4],H [0,3,4,12],H [0,3,4],H [0,3,4],H [2]]
def ZGe:PC :=
 (.reg [0] [I 2 (.mv (.v (.bool false)))])
def ZGf:PC :=
 (.reg [0,3] [I 3 (.mv (V 0))])
def ZGg:PC :=
 (.reg [0,3,4] [I 4 (.mv (V 0))])
def ZGh:PC :=
 (.reg [0,3,4,12] [I 5 (.mv (.s 4)),I 6 (.mv (.s 0)),I 7 (.len 1 (.s 6)),I 8 (.bin .lss (.s 5) (.s 7)),I 9 (.mv (.s 8)),G 10 9 true (.mv (.s 3)),G 11 9 true (.bin .leq (.s 10) (V 900)),I 12 (.pick (.s 9) (.s 11) (.v (.bool false)))])
def ZGi:PC :=
 (.reg [0,3,4] [I 15 (.mv (.s 3)),I 16 (.mv (.s 0)),I 17 (.mv (.s 4)),I 18 (.ixS 1 (.s 16) (.s 17)),I 19 (.ld false 1 (.s 18)),I 20 (.len 0 (.s 19)),I 21 (.mnx false (.s 20) (V 1000)),I 22 (.bin .add (.s 15) (.s 21)),I 3 (.mv (.s 22))])
def ZGj:PC :=
 (.reg [0,3,4] [I 13 (.mv (.s 4)),I 14 (.bin .add (.s 13) (V 1)),I 4 (.mv (.s 14))])
def ZGk:PC :=
 (.seq (.seq ZGh
 (.ite (.s 12)
 .skip
 (.exit 0)))
 (.seq (.block 1
 ZGi)
 ZGj))
def ZGl:PC :=
 (.reg [2] [I 23 (.mv (.s 0)),I 24 (.len 1 (.s 23)),I 25 (.bin .gtr (.s 24) (V 4)),I 26 (.mv (.s 25)),G 27 26 false (.mv (.s 3)),G 28 26 false (.bin .gtr (.s 27) (V 900)),I 29 (.pick (.s 26) (.v (.bool true)) (.s 28)),I 2 (.mv (.s 29))])
def ZCK:PF:=⟨false,
 (.seq ZGe
 (.seq ZGf
 (.seq (.seq ZGg
 (.block 0
 (.loop ZGk)))
 (.seq ZGl
 .ret)))),
 [.s 2]⟩
theorem ZJN:Zv Go.Proofs.Try.prog false ZJM Go.Proofs.Try.f11=some ZCK:=by kernel_rfl
def ZJO:List Hint:=[H [0],H [0,3],H [0,3,11],H [0,3,20],H [2],H [0,3],H [2]]
def ZGm:PC :=
 (.reg [0] [I 2 (.mv (.v (.bool false)))])
def ZGn:PC :=
 (.reg [0,3] [I 3 (.mv (V 0))])
def ZGo:PC :=
 (.reg [0,3,11] [I 4 (.mv (.s 3)),I 5 (.mv (.s 0)),I 6 (.len 1 (.s 5)),I 7 (.bin .lss (.s 4) (.s 6)),I 8 (.mv (.s 7)),G 9 8 true (.mv (.s 3)),G 10 8 true (.bin .lss (.s 9) (V 100)),I 11 (.pick (.s 8) (.s 10) (.v (.bool false)))])
def ZGp:PC :=
 (.reg [0,3,20] [I 14 (.mv (.s 0)),I 15 (.mv (.s 3)),I 16 (.ixS 5 (.s 14) (.s 15)),I 17 (.fadr 4 (.s 16)),I 18 (.ld false 1 (.s 17)),I 19 (.len 0 (.s 18)),I 20 (.bin .gtr (.s 19) (V 200))])
def ZGq:PC :=
 (.reg [2] [I 2 (.mv (.v (.bool true)))])
def ZGr:PC :=
 (.reg [0,3] [I 12 (.mv (.s 3)),I 13 (.bin .add (.s 12) (V 1)),I 3 (.mv (.s 13))])
def ZGs:PC :=
 (.seq (.seq ZGo
 (.ite (.s 11)
 .skip
 (.exit 0)))
 (.seq (.block 1
 (.seq ZGp
 (.ite (.s 20)
 (.seq ZGq
 .ret)
 .skip)))
 ZGr))
def ZGt:PC :=
 (.reg [2] [I 21 (.mv (.s 0)),I 22 (.len 1 (.s 21)),I 23 (.bin .gtr (.s 22) (V 60)),I 2 (.mv (.s 23))])
def ZCL:PF:=⟨false,
 (.seq ZGm
 (.seq (.seq ZGn
 (.block 0
 (.loop ZGs)))
 (.seq ZGt
 .ret))),
 [.s 2]⟩
theorem ZJP:Zv Go.Proofs.Try.prog false ZJO Go.Proofs.Try.f12=some ZCL:=by kernel_rfl
def ZJQ:List Hint:=[H [0],H [0,5,6],H [0,5,20],H [2,3,4],⟨[0,5,7],[0],[],[],[],[]⟩,H [0,5,7,8],H [0,5,7,8,24],H [0,5,7,8,9,10],H [0,5,7,8,9,37],H [2,3,4],H [0,5,7,8],H [0,5,7,8],H [2,3,4]]
def ZGu:PC :=
 (.reg [0] [I 2 (.mv (.v .nilptr)),I 3 (.mv (.v .nils)),I 4 (.mv (.v (.bool false)))])
def ZGv:PC :=
 (.reg [0,5,6] [I 12 (C ZCy [(V 1500),(.v (.int .u64 3))]),I 11 (.mv (.s 12)),I 13 (.ext (.s 11) 0),I 14 (.ext (.s 11) 1),I 5 (.mv (.s 13)),I 6 (.mv (.s 14))])
def ZGw:PC :=
 (.reg [0,5,20] [I 15 (.mv (.s 5)),I 16 (.eqs false 3 [] (.s 15) (.v .nilptr)),I 17 (.mv (.s 16)),G 18 17 false (.mv (.s 6)),G 19 17 false (.bin .neq (.s 18) (V 0)),I 20 (.pick (.s 17) (.v (.bool true)) (.s 19))])
def ZGx:PC :=
 (.reg [2,3,4] [I 2 (.mv (.v .nilptr)),I 3 (.mv (.v .nils)),I 4 (.mv (.v (.bool false)))])
def ZGy:PC :=
 (.reg [0,5,7] [I 7 (.onil 5)])
def ZGz:PC :=
 (.reg [0,5,7,8] [I 8 (.mv (V 0))])
def ZG0:PC :=
 (.reg [0,5,7,8,24] [I 21 (.mv (.s 8)),I 22 (.mv (.s 0)),I 23 (.len 1 (.s 22)),I 24 (.bin .lss (.s 21) (.s 23))])
def ZG1:PC :=
 (.reg [0,5,7,8,9,10] [I 28 (.mv (.s 5)),I 29 (.mv (.s 0)),I 30 (.mv (.s 8)),I 31 (.ixS 1 (.s 29) (.s 30)),I 32 (.ld false 1 (.s 31)),I 33 (C ZBk [(.s 28),(.s 32)]),I 27 (.mv (.s 33)),I 34 (.ext (.s 27) 0),I 35 (.ext (.s 27) 1),I 9 (.box (.v ZR)),J (.st 5 (.s 9) (.s 34)),I 10 (.mv (.s 35))])
def ZG2:PC :=
 (.reg [0,5,7,8,9,37] [I 36 (.mv (.s 10)),I 37 (.bin .neq (.s 36) (V 0))])
def ZG3:PC :=
 (.reg [2,3,4] [I 2 (.mv (.v .nilptr)),I 3 (.mv (.v .nils)),I 4 (.mv (.v (.bool false)))])
def ZFY:PC :=
 (.reg [0,5,7,8] [I 38 (.mv (.s 7)),I 39 (.ld true 5 (.s 9)),I 40 (.bslice false 5 [ZR] [(0,(.s 39))]),I 41 (.app 5 40 (.s 38) (.s 40)),I 7 (.mv (.s 41))])
def ZFZ:PC :=
 (.reg [0,5,7,8] [I 25 (.mv (.s 8)),I 26 (.bin .add (.s 25) (V 1)),I 8 (.mv (.s 26))])
def ZFa:PC :=
 (.seq (.seq ZG0
 (.ite (.s 24)
 .skip
 (.exit 0)))
 (.seq (.block 1
 (.seq ZG1
 (.seq (.seq ZG2
 (.ite (.s 37)
 (.seq ZG3
 .ret)
 .skip))
 ZFY)))
 ZFZ))
def ZFb:PC :=
 (.reg [2,3,4] [I 42 (.mv (.s 5)),I 43 (.mv (.s 7)),I 2 (.mv (.s 42)),I 3 (.mv (.s 43)),I 4 (.mv (.v (.bool true)))])
def ZCM:PF:=⟨true,
 (.seq ZGu
 (.seq ZGv
 (.seq (.seq ZGw
 (.ite (.s 20)
 (.seq ZGx
 .ret)
 .skip))
 (.seq ZGy
 (.seq (.seq ZGz
 (.block 0
 (.loop ZFa)))
 (.seq ZFb
 .ret)))))),
 [.s 2,.s 3,.s 4]⟩
theorem ZJR:Zv Go.Proofs.Try.prog true ZJQ Go.Proofs.Try.f14=some ZCM:=by kernel_rfl
def ZIP:List Hint:=[H [0,1,2],⟨[0,1,2,8],[0],[],[],[],[]⟩,H [0,1,2,8,9],H [0,1,2,8,9,19],H [0,1,2,8,9,24],H [0,1,2,8,9,10,11],H [0,1,2,8,9,10,35],H [6,7],H [0,1,2,8,9],H [0,1,2,8,9,12],H [0,1,2,8,9,12,13,14],H [0,1,2,8,9,12,13,59],H [6,7],H [0,1,2,8,9,12,13,15],⟨[0,1,2,8,9,13,14],[],[(13,.pure)],[],[],[]⟩,H [0,1,2,8,9,13,93],H [6,7],H [0,1,2,8,9],H [0,1,2,8,9],H [6,7]]
def ZFc:PC :=
 (.reg [0,1,2] [I 6 (.mv (.v .nils)),I 7 (.mv (.v (.bool false)))])
def ZFd:PC :=
 (.reg [0,1,2,8] [I 8 (.onil 7)])
def ZFe:PC :=
 (.reg [0,1,2,8,9] [I 9 (.mv (V 0))])
def ZFf:PC :=
 (.reg [0,1,2,8,9,19] [I 16 (.mv (.s 9)),I 17 (.mv (.s 2)),I 18 (.len 1 (.s 17)),I 19 (.bin .lss (.s 16) (.s 18))])
def ZFg:PC :=
 (.reg [0,1,2,8,9,24] [I 22 (.mv (.s 1)),I 23 (.len 1 (.s 22)),I 24 (.bin .eql (.s 23) (V 0))])
def ZFh:PC :=
 (.reg [0,1,2,8,9,10,11] [I 26 (.mv (.s 2)),I 27 (.mv (.s 9)),I 28 (.ixS 5 (.s 26) (.s 27)),I 29 (.fadr 4 (.s 28)),I 30 (.ld false 1 (.s 29)),I 31 (C Xq [(.s 30)]),I 25 (.mv (.s 31)),I 32 (.ext (.s 25) 0),I 33 (.ext (.s 25) 1),I 10 (.box (.v ZT)),J (.st 7 (.s 10) (.s 32)),I 11 (.mv (.s 33))])
def ZFi:PC :=
 (.reg [0,1,2,8,9,10,35] [I 34 (.mv (.s 11)),I 35 (.bin .neq (.s 34) (V 0))])
def ZFj:PC :=
 (.reg [6,7] [I 6 (.mv (.v .nils)),I 7 (.mv (.v (.bool false)))])
def ZFk:PC :=
 (.reg [0,1,2,8,9] [I 36 (.mv (.s 8)),I 37 (.ld true 7 (.s 10)),I 38 (.bslice false 7 [ZT] [(0,(.s 37))]),I 39 (.app 7 80 (.s 36) (.s 38)),I 8 (.mv (.s 39))])
def ZFl:PC :=
 (.reg [0,1,2,8,9,12] [I 40 (.mv (.s 1)),I 41 (.mv (.s 2)),I 42 (.mv (.s 9)),I 43 (.ixS 5 (.s 41) (.s 42)),I 44 (.fadr 1 (.s 43)),I 45 (.ld false 1 (.s 44)),I 46 (.mv (.s 1)),I 47 (.len 1 (.s 46)),I 48 (.bin .sub (.s 47) (V 1)),I 49 (C JC [(.s 45),(.s 48)]),I 50 (.ixS 5 (.s 40) (.s 49)),I 51 (.ld true 5 (.s 50)),I 12 (.box (.v ZR)),J (.st 5 (.s 12) (.s 51))])
def ZER:PC :=
 (.reg [0,1,2,8,9,12,13,14] [I 53 (.mv (.s 0)),I 54 (.ld true 5 (.s 12)),I 55 (C Jc [(.s 53),(.s 54)]),I 52 (.mv (.s 55)),I 56 (.ext (.s 52) 0),I 57 (.ext (.s 52) 1),I 13 (.box (.v ZT)),J (.st 7 (.s 13) (.s 56)),I 14 (.mv (.s 57))])
def ZES:PC :=
 (.reg [0,1,2,8,9,12,13,59] [I 58 (.mv (.s 14)),I 59 (.bin .neq (.s 58) (V 0))])
def ZET:PC :=
 (.reg [6,7] [I 6 (.mv (.v .nils)),I 7 (.mv (.v (.bool false)))])
def ZEU:PC :=
 (.reg [0,1,2,8,9,12,13,15] [I 60 (.mv (.s 2)),I 61 (.mv (.s 9)),I 62 (.ixS 5 (.s 60) (.s 61)),I 63 (.fadr 2 (.s 62)),I 64 (.ld false 1 (.s 63)),I 65 (.fadr 2 (.s 12)),I 66 (.fadr 0 (.s 65)),I 67 (.ld false 1 (.s 66)),I 68 (C JC [(.s 64),(.s 67)]),I 15 (.mv (.s 68))])
def ZEV:PC :=
 (.reg [0,1,2,8,9,13,14] [I 70 (.mv (.s 0)),I 71 (.ld true 7 (.s 13)),I 72 (.mv (.s 15)),I 73 (.mv (.s 2)),I 74 (.mv (.s 9)),I 75 (.ixS 5 (.s 73) (.s 74)),I 76 (.fadr 3 (.s 75)),I 77 (.ld false 1 (.s 76)),I 78 (.fadr 2 (.s 12)),I 79 (.fadr 0 (.s 78)),I 80 (.ld false 1 (.s 79)),I 81 (.mv (.s 15)),I 82 (.bin .sub (.s 80) (.s 81)),I 83 (.call .pure (.v (.func (.func JC) [] [])) [(.s 77),(.s 82)]),I 84 (.mv (.s 2)),I 85 (.mv (.s 9)),I 86 (.ixS 5 (.s 84) (.s 85)),I 87 (.fadr 4 (.s 86)),I 88 (.ld false 1 (.s 87)),I 89 (C Xr [(.s 70),(.s 71),(.s 72),(.s 83),(.s 88)]),I 69 (.mv (.s 89)),I 90 (.ext (.s 69) 0),I 91 (.ext (.s 69) 1),J (.st 7 (.s 13) (.s 90)),I 14 (.mv (.s 91))])
def ZEW:PC :=
 (.reg [0,1,2,8,9,13,93] [I 92 (.mv (.s 14)),I 93 (.bin .neq (.s 92) (V 0))])
def ZEX:PC :=
 (.reg [6,7] [I 6 (.mv (.v .nils)),I 7 (.mv (.v (.bool false)))])
def ZEY:PC :=
 (.reg [0,1,2,8,9] [I 94 (.mv (.s 8)),I 95 (.ld true 7 (.s 13)),I 96 (.bslice false 7 [ZT] [(0,(.s 95))]),I 97 (.app 7 80 (.s 94) (.s 96)),I 8 (.mv (.s 97))])
def ZEZ:PC :=
 (.reg [0,1,2,8,9] [I 20 (.mv (.s 9)),I 21 (.bin .add (.s 20) (V 1)),I 9 (.mv (.s 21))])
def ZEa:PC :=
 (.seq (.seq ZFf
 (.ite (.s 19)
 .skip
 (.exit 0)))
 (.seq (.block 1
 (.seq (.seq ZFg
 (.ite (.s 24)
 (.seq ZFh
 (.seq (.seq ZFi
 (.ite (.s 35)
 (.seq ZFj
 .ret)
 .skip))
 (.seq ZFk
 (.exit 1))))
 .skip))
 (.seq ZFl
 (.seq ZER
 (.seq (.seq ZES
 (.ite (.s 59)
 (.seq ZET
 .ret)
 .skip))
 (.seq ZEU
 (.seq ZEV
 (.seq (.seq ZEW
 (.ite (.s 93)
 (.seq ZEX
 .ret)
 .skip))
 ZEY))))))))
 ZEZ))
def ZEb:PC :=
 (.reg [6,7] [I 98 (.mv (.s 8)),I 6 (.mv (.s 98)),I 7 (.mv (.v (.bool true)))])
def ZA6:PF:=⟨false,
 (.seq ZFc
 (.seq ZFd
 (.seq (.seq ZFe
 (.block 0
 (.loop ZEa)))
 (.seq ZEb
 .ret)))),
 [.s 6,.s 7]⟩
theorem ZIQ:Zv Go.Proofs.Try.prog false ZIP Go.Proofs.Try.f15=some ZA6:=by kernel_rfl
def ZeC:List Hint:=[H [2,3],H [2,3,6],H [2,3,6,14],H [4,5],⟨[2,3,7],[0],[],[],[],[]⟩,H [2,3,7,8],H [3,7,8],H [3,7,8,19],H [4,5],H [7,9],H [7,9,24],H [4,5],H [4,5]]
def ZXa:PC :=
 (.reg [2,3] [I 2 (.box (.s 0)),I 3 (.box (.s 1)),I 4 (.mv (.v (.str []))),I 5 (.mv (V 0))])
def ZXb:PC :=
 (.reg [2,3,6] [I 10 (.ld false 1 (.s 2)),I 11 (.ld true 7 (.s 3)),I 12 (C Ja [(.s 10),(.s 11)]),I 6 (.mv (.s 12))])
def ZXc:PC :=
 (.reg [2,3,6,14] [I 13 (.mv (.s 6)),I 14 (.bin .neq (.s 13) (V 0))])
def ZXd:PC :=
 (.reg [4,5] [I 15 (.mv (.s 6)),I 4 (.mv (.v (.str []))),I 5 (.mv (.s 15))])
def ZXe:PC :=
 (.reg [2,3,7] [I 7 (.boxnil 1)])
def ZXf:PC :=
 (.reg [2,3,7,8] [I 8 (.box (.v .nilfunc))])
def ZXg:PC :=
 (.reg [3,7,8] [I 16 (.mkf (.func Ya) [] [(.s 2),(.s 7),(.s 8)]),J (.st 1 (.s 8) (.s 16))])
def ZXh:PC :=
 (.reg [3,7,8,19] [I 17 (.ld true 7 (.s 3)),I 18 (C QS [(.s 17)]),I 19 (.bin .eql (.s 18) (V 1))])
def ZXi:PC :=
 (.reg [4,5] [I 4 (.mv (.v (.str []))),I 5 (.mv (V 0))])
def ZXj:PC :=
 (.reg [7,9] [I 20 (.ld false 1 (.s 8)),I 21 (.ld true 7 (.s 3)),I 22 (.call .norm (.s 20) [(.s 21)]),I 9 (.mv (.s 22))])
def ZT5:PC :=
 (.reg [7,9,24] [I 23 (.mv (.s 9)),I 24 (.bin .neq (.s 23) (V 0))])
def ZT6:PC :=
 (.reg [4,5] [I 25 (.mv (.s 9)),I 4 (.mv (.v (.str []))),I 5 (.mv (.s 25))])
def ZT7:PC :=
 (.reg [4,5] [I 26 (.ld false 1 (.s 7)),I 27 (.b2s (.s 26)),I 4 (.mv (.s 27)),I 5 (.mv (V 0))])
def ZPn:PF:=⟨false,
 (.seq ZXa
 (.seq (.seq ZXb
 (.seq ZXc
 (.ite (.s 14)
 (.seq ZXd
 .ret)
 .skip)))
 (.seq ZXe
 (.seq ZXf
 (.seq ZXg
 (.seq (.seq ZXh
 (.ite (.s 19)
 (.seq ZXi
 .ret)
 .skip))
 (.seq (.seq ZXj
 (.seq ZT5
 (.ite (.s 24)
 (.seq ZT6
 .ret)
 .skip)))
 (.seq ZT7
 .ret)))))))),
 [.s 4,.s 5]⟩
theorem ZeD:Zv Go.Proofs.Try.prog false ZeC Go.Proofs.Try.f16=some ZPn:=by kernel_rfl
def ZbV:List Hint:=[⟨[0,3,4,5],[2],[],[],[],[]⟩,H [4,5,6,7],H [4,5,6,7,18],⟨[4,5,6],[3],[],[],[],[]⟩,H [4,5,7,26],H [4,5,7,8,10],H [4,5,7,8,10,34],⟨[4,5,6],[3],[],[],[],[]⟩,H [4,5,7],H [4,5,6],H [4,5,6]]
def ZT8:PC :=
 (.reg [0,3,4,5] [I 3 (.box (.s 1)),I 4 (.box (.v ZR)),I 5 (.onil 1),I 6 (.mv (V 0))])
def ZT9:PC :=
 (.reg [4,5,6,7] [I 12 (.mv (.s 0)),I 13 (.ld true 7 (.s 3)),I 14 (C Y3 [(.s 12),(.s 13)]),I 11 (.mv (.s 14)),I 15 (.ext (.s 11) 0),I 16 (.ext (.s 11) 1),I 7 (.mv (.s 15)),I 6 (.mv (.s 16))])
def ZUA:PC :=
 (.reg [4,5,6,7,18] [I 17 (.mv (.s 6)),I 18 (.bin .neq (.s 17) (V 0))])
def ZUB:PC :=
 (.reg [4,5,6] [I 19 (.build [(.int .u64 0),(.int .i64 0),(.int .i64 0),(.int .i64 0),(.int .i64 0)] []),I 20 (.mv (.s 6)),J (.st 5 (.s 4) (.s 19)),I 5 (.onil 1),I 6 (.mv (.s 20))])
def ZUC:PC :=
 (.reg [4,5,7,26] [I 21 (.mv (.s 7)),I 22 (.nilck (.s 21)),I 23 (.fadr 1 (.s 22)),I 24 (.ld false 1 (.s 23)),I 25 (.len 1 (.s 24)),I 26 (.bin .gtr (.s 25) (V 0))])
def ZUD:PC :=
 (.reg [4,5,7,8,10] [I 28 (.mv (.s 7)),I 29 (C XR [(.s 28)]),I 27 (.mv (.s 29)),I 30 (.ext (.s 27) 0),I 31 (.ext (.s 27) 1),I 32 (.ext (.s 27) 2),I 8 (.mv (.s 30)),I 9 (.mv (.s 31)),I 10 (.mv (.s 32))])
def ZUE:PC :=
 (.reg [4,5,7,8,10,34] [I 33 (.mv (.s 10)),I 34 (.bin .neq (.s 33) (V 0))])
def ZUF:PC :=
 (.reg [4,5,6] [I 35 (.build [(.int .u64 0),(.int .i64 0),(.int .i64 0),(.int .i64 0),(.int .i64 0)] []),I 36 (.mv (.s 10)),J (.st 5 (.s 4) (.s 35)),I 5 (.onil 1),I 6 (.mv (.s 36))])
def ZUG:PC :=
 (.reg [4,5,7] [I 37 (.mv (.s 5)),I 38 (.mv (.s 8)),I 39 (.bslice false 1 [(.int .u64 0)] [(0,(.s 38))]),I 40 (.app 1 8 (.s 37) (.s 39)),I 5 (.mv (.s 40))])
def ZUH:PC :=
 (.seq (.seq ZUC
 (.ite (.s 26)
 .skip
 (.exit 0)))
 (.block 1
 (.seq ZUD
 (.seq (.seq ZUE
 (.ite (.s 34)
 (.seq ZUF
 .ret)
 .skip))
 ZUG))))
def ZQC:PC :=
 (.reg [4,5,6] [I 42 (.mv (.s 7)),I 43 (C ZA0 [(.s 42)]),I 41 (.mv (.s 43)),I 44 (.ext (.s 41) 0),I 45 (.ext (.s 41) 1),J (.st 5 (.s 4) (.s 44)),I 6 (.mv (.s 45))])
def ZQD:PC :=
 (.reg [4,5,6] [I 46 (.ld true 5 (.s 4)),I 47 (.mv (.s 5)),I 48 (.mv (.s 6)),J (.st 5 (.s 4) (.s 46)),I 5 (.mv (.s 47)),I 6 (.mv (.s 48))])
def ZKr:PF:=⟨false,
 (.seq ZT8
 (.seq ZT9
 (.seq (.seq ZUA
 (.ite (.s 18)
 (.seq ZUB
 .ret)
 .skip))
 (.seq (.block 0
 (.loop ZUH))
 (.seq ZQC
 (.seq ZQD
 .ret)))))),
 [.c 4 true 5,.s 5,.s 6]⟩
theorem ZbW:Zv Go.Proofs.Try.prog false ZbV Go.Proofs.Try.f17=some ZKr:=by kernel_rfl
def ZeE:List Hint:=[H [0,3],H [6,7],H [6,7,18],H [4,5],⟨[6,8],[0],[],[],[],[]⟩,H [8,20,21,22],H [8,20,21,22,23],H [8,10,20,21,22],H [8,20,21,22],H [8,20,21,22],H [4,5]]
def ZXk:PC :=
 (.reg [0,3] [I 3 (.box (.s 1)),I 4 (.mv (.v (.str []))),I 5 (.mv (V 0))])
def ZXl:PC :=
 (.reg [6,7] [I 12 (.mv (.s 0)),I 13 (.ld true 5 (.s 3)),I 14 (C ZDB [(.s 12),(.s 13)]),I 11 (.mv (.s 14)),I 15 (.ext (.s 11) 0),I 16 (.ext (.s 11) 1),I 6 (.mv (.s 15)),I 7 (.mv (.s 16))])
def ZXm:PC :=
 (.reg [6,7,18] [I 17 (.mv (.s 7)),I 18 (.bin .neq (.s 17) (V 0))])
def ZXn:PC :=
 (.reg [4,5] [I 19 (.mv (.s 7)),I 4 (.mv (.v (.str []))),I 5 (.mv (.s 19))])
def ZXo:PC :=
 (.reg [6,8] [I 8 (.onil 1)])
def ZXp:PC :=
 (.reg [8,20,21,22] [I 20 (.mv (.s 6)),I 21 (.len 1 (.s 20)),I 22 (.mv (V 0))])
def ZXq:PC :=
 (.reg [8,20,21,22,23] [I 23 (.bin .lss (.s 22) (.s 21))])
def ZXr:PC :=
 (.reg [8,10,20,21,22] [I 24 (.ixS 1 (.s 20) (.s 22)),I 25 (.ld false 1 (.s 24)),I 10 (.mv (.s 25))])
def ZXs:PC :=
 (.reg [8,20,21,22] [I 26 (.mv (.s 8)),I 27 (.mv (.s 10)),I 28 (.app 1 1 (.s 26) (.s 27)),I 8 (.mv (.s 28))])
def ZXt:PC :=
 (.reg [8,20,21,22] [I 29 (.bin .add (.s 22) (V 1)),I 22 (.mv (.s 29))])
def ZUI:PC :=
 (.seq ZXq
 (.seq (.ite (.s 23)
 .skip
 (.exit 0))
 (.seq (.block 1
 (.seq ZXr
 ZXs))
 ZXt)))
def ZUJ:PC :=
 (.reg [4,5] [I 30 (.mv (.s 8)),I 31 (.b2s (.s 30)),I 4 (.mv (.s 31)),I 5 (.mv (V 0))])
def ZG4:PF:=⟨false,
 (.seq ZXk
 (.seq ZXl
 (.seq (.seq ZXm
 (.ite (.s 18)
 (.seq ZXn
 .ret)
 .skip))
 (.seq ZXo
 (.seq (.seq ZXp
 (.block 0
 (.loop ZUI)))
 (.seq ZUJ
 .ret)))))),
 [.s 4,.s 5]⟩
theorem ZeF:Zv Go.Proofs.Try.prog false ZeE Go.Proofs.Try.f18=some ZG4:=by kernel_rfl
def ZXu:List Hint:=[H [0,3,20],H [0,3,6,20],H [0,3,6,14,20],H [4,5],⟨[0,3,7,20],[0],[],[],[],[]⟩,H [7,18,20],H [7,9],H [7,9,24],H [7],H [4,5]]
def ZQE:PC :=
 (.reg [0,3,20] [I 3 (.box (.s 1)),I 4 (.mv (.v .nils)),I 5 (.mv (V 0))])
def ZQF:PC :=
 (.reg [0,3,6,20] [I 10 (.mv (.s 0)),I 11 (.ld true 5 (.s 3)),I 12 (C Xo [(.s 10),(.s 11)]),I 6 (.mv (.s 12))])
def ZQG:PC :=
 (.reg [0,3,6,14,20] [I 13 (.mv (.s 6)),I 14 (.bin .neq (.s 13) (V 0))])
def ZQH:PC :=
 (.reg [4,5] [I 15 (.mv (.s 6)),I 4 (.mv (.v .nils)),I 5 (.mv (.s 15))])
def ZQI:PC :=
 (.reg [0,3,7,20] [I 7 (.boxnil 1)])
def ZQJ:PC :=
 (.reg [7,18,20] [I 16 (.mv (.s 0)),I 17 (.ld true 5 (.s 3)),I 18 (C Xs [(.s 16),(.s 17)])])
def ZQK:PC :=
 (.reg [7,9] [I 9 (.box (.v (.agg [(.int .i64 0),(.str []),.nils,(.int .i64 0)]))),J (.st 4 (.s 9) (.s 20))])
def ZQL:PC :=
 (.reg [7,9,24] [I 21 (.fadr 0 (.s 9)),I 22 (.fadr 0 (.s 21)),I 23 (.ld false 1 (.s 22)),I 24 (.bin .eql (.s 23) (V 0))])
def ZQM:PC :=
 (.reg [7] [I 25 (.ld false 1 (.s 7)),I 26 (.fadr 0 (.s 9)),I 27 (.fadr 1 (.s 26)),I 28 (.ld false 1 (.s 27)),I 29 (.bslice false 1 [(.str [])] [(0,(.s 28))]),I 30 (.app 1 16 (.s 25) (.s 29)),J (.st 1 (.s 7) (.s 30))])
def ZQN:PC :=
 (.reg [4,5] [I 31 (.ld false 1 (.s 7)),I 4 (.mv (.s 31)),I 5 (.mv (V 0))])
def p_rope_Leaves:RF:=⟨32,
 (.seq ZQE
 (.seq (.seq ZQF
 (.seq ZQG
 (.ite (.s 14)
 (.seq ZQH
 .ret)
 .skip)))
 (.seq ZQI
 (.seq ZQJ
 .skip)))),
 ⟨(.s 18),[19,20],
 ZQK,
 (.block 1
 (.seq ZQL
 (.ite (.s 24)
 ZQM
 .skip)))⟩,
 (.seq .skip
 (.seq ZQN
 .ret)),
 [.s 4,.s 5]⟩
theorem ZXv:ZTx Go.Proofs.Try.prog ZXu Go.Proofs.Try.f19=some p_rope_Leaves:=by kernel_rfl
def ZbX:List Hint:=[H [0,3,23],H [0,3,6,23],H [0,3,6,17,23],H [4],H [0,3,7,23],H [7,21,23],H [7,9],H [7,9,26],H [7],H [4]]
def ZUK:PC :=
 (.reg [0,3,23] [I 3 (.box (.s 1)),I 4 (.mv (V 0))])
def ZUL:PC :=
 (.reg [0,3,6,23] [I 11 (.mv (.s 0)),I 12 (.ld true 5 (.s 3)),I 13 (C Jc [(.s 11),(.s 12)]),I 10 (.mv (.s 13)),I 14 (.ext (.s 10) 0),I 15 (.ext (.s 10) 1),I 5 (.box (.v ZT)),J (.st 7 (.s 5) (.s 14)),I 6 (.mv (.s 15))])
def ZUM:PC :=
 (.reg [0,3,6,17,23] [I 16 (.mv (.s 6)),I 17 (.bin .neq (.s 16) (V 0))])
def ZUN:PC :=
 (.reg [4] [I 18 (.mv (.s 6)),I 4 (.mv (.s 18))])
def ZUO:PC :=
 (.reg [0,3,7,23] [I 7 (.box (V 0)),J (.st 1 (.s 7) (V 0))])
def ZUP:PC :=
 (.reg [7,21,23] [I 19 (.mv (.s 0)),I 20 (.ld true 5 (.s 3)),I 21 (C Xs [(.s 19),(.s 20)])])
def ZUQ:PC :=
 (.reg [7,9] [I 9 (.box (.v (.agg [(.int .i64 0),(.str []),.nils,(.int .i64 0)]))),J (.st 4 (.s 9) (.s 23))])
def ZUR:PC :=
 (.reg [7,9,26] [I 24 (.fadr 3 (.s 9)),I 25 (.ld false 1 (.s 24)),I 26 (.bin .neq (.s 25) (V 0))])
def ZUS:PC :=
 (.reg [7] [I 27 (.fadr 3 (.s 9)),I 28 (.ld false 1 (.s 27)),J (.st 1 (.s 7) (.s 28))])
def ZUT:PC :=
 (.reg [4] [I 29 (.ld false 1 (.s 7)),I 4 (.mv (.s 29))])
def p_rope_Check:RF:=⟨30,
 (.seq ZUK
 (.seq (.seq ZUL
 (.seq ZUM
 (.ite (.s 17)
 (.seq ZUN
 .ret)
 .skip)))
 (.seq ZUO
 (.seq .skip
 (.seq ZUP
 .skip))))),
 ⟨(.s 21),[22,23],
 ZUQ,
 (.block 1
 (.seq ZUR
 (.ite (.s 26)
 (.seq ZUS
 (.exit 0))
 .skip)))⟩,
 (.seq .skip
 (.seq ZUT
 .ret)),
 [.s 4]⟩
theorem ZbY:ZTx Go.Proofs.Try.prog ZbX Go.Proofs.Try.f22=some p_rope_Check:=by kernel_rfl
def ZbZ:List Hint:=[H [0,3,20],H [0,3,6,20],H [0,3,6,14,20],H [4,5],⟨[0,3,7,20],[0],[],[],[],[]⟩,H [0,3,7,8,20],H [7,8,19,20],H [7,8,9],H [7,8,9,25],H [7,9],H [7],H [4,5]]
def ZUU:PC :=
 (.reg [0,3,20] [I 3 (.box (.s 1)),I 4 (.mv (.v .nils)),I 5 (.mv (V 0))])
def ZUV:PC :=
 (.reg [0,3,6,20] [I 10 (.mv (.s 0)),I 11 (.ld true 5 (.s 3)),I 12 (C Xo [(.s 10),(.s 11)]),I 6 (.mv (.s 12))])
def ZUW:PC :=
 (.reg [0,3,6,14,20] [I 13 (.mv (.s 6)),I 14 (.bin .neq (.s 13) (V 0))])
def ZUX:PC :=
 (.reg [4,5] [I 15 (.mv (.s 6)),I 4 (.mv (.v .nils)),I 5 (.mv (.s 15))])
def ZUY:PC :=
 (.reg [0,3,7,20] [I 7 (.boxnil 1)])
def ZUZ:PC :=
 (.reg [0,3,7,8,20] [I 16 (.mkmap),I 8 (.box (.v .nilmap)),J (.st 1 (.s 8) (.s 16))])
def ZUa:PC :=
 (.reg [7,8,19,20] [I 17 (.mv (.s 0)),I 18 (.ld true 5 (.s 3)),I 19 (C Xs [(.s 17),(.s 18)])])
def ZUb:PC :=
 (.reg [7,8,9] [I 9 (.mv (.s 20))])
def ZUc:PC :=
 (.reg [7,8,9,25] [I 22 (.ld false 1 (.s 8)),I 23 (.mv (.s 9)),I 24 (.look 0 (.bool false) false (.s 22) (.s 23)),I 25 (.un .not (.s 24))])
def ZUd:PC :=
 (.reg [7,9] [I 26 (.ld false 1 (.s 8)),I 27 (.mv (.s 9)),J (.mupd 0 (.s 26) (.s 27) (.v (.bool true)))])
def ZQO:PC :=
 (.reg [7] [I 28 (.ld false 1 (.s 7)),I 29 (.mv (.s 9)),I 30 (.bslice false 1 [(.int .u64 0)] [(0,(.s 29))]),I 31 (.app 1 8 (.s 28) (.s 30)),J (.st 1 (.s 7) (.s 31))])
def ZQP:PC :=
 (.reg [4,5] [I 32 (.ld false 1 (.s 7)),I 4 (.mv (.s 32)),I 5 (.mv (V 0))])
def p_rope_Nodes:RF:=⟨33,
 (.seq ZUU
 (.seq (.seq ZUV
 (.seq ZUW
 (.ite (.s 14)
 (.seq ZUX
 .ret)
 .skip)))
 (.seq ZUY
 (.seq ZUZ
 (.seq ZUa
 .skip))))),
 ⟨(.s 19),[20,21],
 ZUb,
 (.block 1
 (.seq ZUc
 (.ite (.s 25)
 (.seq ZUd
 ZQO)
 .skip)))⟩,
 (.seq .skip
 (.seq ZQP
 .ret)),
 [.s 4,.s 5]⟩
theorem Zba:ZTx Go.Proofs.Try.prog ZbZ Go.Proofs.Try.f23=some p_rope_Nodes:=by kernel_rfl
def ZIR:List Hint:=[H [0,2],H [0,2,4],H [2],⟨[2],[],[(8,.pure),(19,.pure)],[],[],[]⟩]
def ZFm:PC :=
 (.reg [0,2] [I 2 (.box (.v (.agg [(.int .i64 0),(.int .i64 0),(.int .i64 0),(.int .i64 0),(.int .i64 0),(.int .i64 0),(.int .i64 0)])))])
def ZFn:PC :=
 (.reg [0,2,4] [I 3 (.mv (.s 0)),I 4 (.eqs false 3 [] (.s 3) (.v .nilptr))])
def ZFo:PC :=
 (.reg [2] [I 5 (.build [(.int .i64 0),(.int .i64 0),(.int .i64 0),(.int .i64 0),(.int .i64 0),(.int .i64 0),(.int .i64 0)] []),J (.st 7 (.s 2) (.s 5))])
def ZFp:PC :=
 (.reg [2] [I 6 (.mv (.s 0)),I 7 (.nilck (.s 6)),I 8 (.fadr 0 (.s 7)),I 9 (.ld false 1 (.s 8)),I 10 (.mv (.s 0)),I 11 (.nilck (.s 10)),I 12 (.fadr 1 (.s 11)),I 13 (.ld false 1 (.s 12)),I 14 (.call .pure (.v (.func (.func Yr) [] [])) [(.s 13)]),I 15 (.len 1 (.s 14)),I 16 (.mv (.s 0)),I 17 (.nilck (.s 16)),I 18 (.fadr 2 (.s 17)),I 19 (.ld false 1 (.s 18)),I 20 (.len 2 (.s 19)),I 21 (.mv (.s 0)),I 22 (.nilck (.s 21)),I 23 (.fadr 1 (.s 22)),I 24 (.ld false 1 (.s 23)),I 25 (.call .pure (.v (.func (.func Jt) [] [])) [(.s 24)]),I 26 (.len 1 (.s 25)),I 27 (.mv (.s 0)),I 28 (.nilck (.s 27)),I 29 (.fadr 3 (.s 28)),I 30 (.ld false 1 (.s 29)),I 31 (.mv (.s 0)),I 32 (.nilck (.s 31)),I 33 (.fadr 4 (.s 32)),I 34 (.ld false 1 (.s 33)),I 35 (.mv (.s 0)),I 36 (.nilck (.s 35)),I 37 (.fadr 5 (.s 36)),I 38 (.ld false 1 (.s 37)),I 39 (.build [(.int .i64 0),(.int .i64 0),(.int .i64 0),(.int .i64 0),(.int .i64 0),(.int .i64 0),(.int .i64 0)] [(0,1,(.s 9)),(1,1,(.s 15)),(2,1,(.s 20)),(3,1,(.s 26)),(4,1,(.s 30)),(5,1,(.s 34)),(6,1,(.s 38))]),J (.st 7 (.s 2) (.s 39))])
def ZA7:PF:=⟨false,
 (.seq ZFm
 (.seq (.seq ZFn
 (.ite (.s 4)
 (.seq ZFo
 .ret)
 .skip))
 (.seq ZFp
 .ret))),
 [.c 2 true 7]⟩
theorem ZIS:Zv Go.Proofs.Try.prog false ZIR Go.Proofs.Try.f27=some ZA7:=by kernel_rfl
def Zfv:List Hint:=[H [1],H [1,3],H [1,3,4],H [1,3,14],H [1,3],H [3,16,17,18],H [3,16,17,18,19],H [3,6,16,17,18],H [3,16,17,18],H [3,16,17,18],H [2]]
def Zbb:PC :=
 (.reg [1] [I 1 (.box (.s 0)),I 2 (.mv (V 0))])
def Zbc:PC :=
 (.reg [1,3] [I 3 (.mv (V 0))])
def Zbd:PC :=
 (.reg [1,3,4] [I 7 (.ld true 7 (.s 1)),I 8 (C QS [(.s 7)]),I 4 (.mv (.s 8))])
def Zbe:PC :=
 (.reg [1,3,14] [I 9 (.mv (.s 4)),I 10 (.bin .eql (.s 9) (V 3)),I 11 (.mv (.s 10)),G 12 11 false (.mv (.s 4)),G 13 11 false (.bin .eql (.s 12) (V 4)),I 14 (.pick (.s 11) (.v (.bool true)) (.s 13))])
def Zbf:PC :=
 (.reg [1,3] [I 3 (.mv (V 1))])
def Zbg:PC :=
 (.reg [3,16,17,18] [I 15 (.fadr 6 (.s 1)),I 16 (.ld false 1 (.s 15)),I 17 (.len 1 (.s 16)),I 18 (.mv (V 0))])
def Zbh:PC :=
 (.reg [3,16,17,18,19] [I 19 (.bin .lss (.s 18) (.s 17))])
def Zbi:PC :=
 (.reg [3,6,16,17,18] [I 20 (.ixS 7 (.s 16) (.s 18)),I 21 (.ld true 7 (.s 20)),I 6 (.box (.v ZT)),J (.st 7 (.s 6) (.s 21))])
def Zbj:PC :=
 (.reg [3,16,17,18] [I 22 (.mv (.s 3)),I 23 (.ld true 7 (.s 6)),I 24 (C ZAS [(.s 23)]),I 25 (.bin .add (.s 22) (.s 24)),I 3 (.mv (.s 25))])
def Zbk:PC :=
 (.reg [3,16,17,18] [I 26 (.bin .add (.s 18) (V 1)),I 18 (.mv (.s 26))])
def ZXw:PC :=
 (.seq Zbh
 (.seq (.ite (.s 19)
 .skip
 (.exit 0))
 (.seq (.block 1
 (.seq Zbi
 Zbj))
 Zbk)))
def ZXx:PC :=
 (.reg [2] [I 27 (.mv (.s 3)),I 2 (.mv (.s 27))])
def ZUe:PF:=⟨false,
 (.seq Zbb
 (.seq Zbc
 (.seq (.seq Zbd
 (.seq Zbe
 (.ite (.s 14)
 Zbf
 .skip)))
 (.seq (.seq Zbg
 (.block 0
 (.loop ZXw)))
 (.seq ZXx
 .ret))))),
 [.s 2]⟩
theorem Zfw:Zv Go.Proofs.Try.prog false Zfv Go.Proofs.Try.f28=some ZUe:=by kernel_rfl
def ZJS:List Hint:=[H [0,1],H [4]]
def ZG5:PC :=
 (.reg [0,1] [I 4 (.mv (V 0))])
def ZG6:PC :=
 (.reg [4] [I 5 (.mv (.s 0)),I 6 (.cint .u64 (.s 5)),I 7 (.mv (.s 1)),I 8 (.bin .add (.s 7) (V 1)),I 9 (.cint .u64 (.s 8)),I 10 (.bin .rem (.s 6) (.s 9)),I 11 (.cint .i64 (.s 10)),I 4 (.mv (.s 11))])
def ZCN:PF:=⟨false,
 (.seq ZG5
 (.seq ZG6
 .ret)),
 [.s 4]⟩
theorem ZJT:Zv Go.Proofs.Try.prog false ZJS Go.Proofs.Try.f29=some ZCN:=by kernel_rfl
def Zbl:List Hint:=[H [0,3],H [0,3,6],H [0,3,6,12],H [4,5],H [0,3,19],H [4,5],H [3,7],H [7],H [4,5]]
def ZUf:PC :=
 (.reg [0,3] [I 3 (.box (.s 1)),I 4 (.mv (.v .nilptr)),I 5 (.mv (V 0))])
def ZUg:PC :=
 (.reg [0,3,6] [I 8 (.mv (.s 0)),I 9 (.ld true 7 (.s 3)),I 10 (C Ja [(.s 8),(.s 9)]),I 6 (.mv (.s 10))])
def ZUh:PC :=
 (.reg [0,3,6,12] [I 11 (.mv (.s 6)),I 12 (.bin .neq (.s 11) (V 0))])
def ZUi:PC :=
 (.reg [4,5] [I 13 (.mv (.s 6)),I 4 (.mv (.v .nilptr)),I 5 (.mv (.s 13))])
def ZUj:PC :=
 (.reg [0,3,19] [I 14 (.ld true 7 (.s 3)),I 15 (C ZAS [(.s 14)]),I 16 (.mv (.s 0)),I 17 (C XF [(.s 16)]),I 18 (.fld false 1 1 (.s 17)),I 19 (.bin .gtr (.s 15) (.s 18))])
def ZUk:PC :=
 (.reg [4,5] [I 4 (.mv (.v .nilptr)),I 5 (.mv (V 6))])
def ZUl:PC :=
 (.reg [3,7] [I 20 (.mv (.s 0)),I 21 (.build [.nilptr,.nils,.nilptr] [(0,1,(.s 20))]),I 22 (.box (.s 21)),I 7 (.mv (.s 22))])
def ZUm:PC :=
 (.reg [7] [I 23 (.mv (.s 7)),I 24 (.mv (.s 7)),I 25 (.ld true 7 (.s 3)),I 26 (C Qk [(.s 24),(.s 25)]),I 27 (.nilck (.s 23)),I 28 (.fadr 2 (.s 27)),J (.st 1 (.s 28) (.s 26))])
def ZUn:PC :=
 (.reg [4,5] [I 29 (.mv (.s 7)),I 4 (.mv (.s 29)),I 5 (.mv (V 0))])
def ZKs:PF:=⟨true,
 (.seq ZUf
 (.seq (.seq ZUg
 (.seq ZUh
 (.ite (.s 12)
 (.seq ZUi
 .ret)
 .skip)))
 (.seq (.seq ZUj
 (.ite (.s 19)
 (.seq ZUk
 .ret)
 .skip))
 (.seq ZUl
 (.seq ZUm
 (.seq ZUn
 .ret)))))),
 [.s 4,.s 5]⟩
theorem Zbm:Zv Go.Proofs.Try.prog true Zbl Go.Proofs.Try.f32=some ZKs:=by kernel_rfl
def ZQQ:List Hint:=[H [0,2],H [0,2,5],H [2,3],H [0,2,12],H [2,3],H [2,3]]
def ZKt:PC :=
 (.reg [0,2] [I 2 (.box (.v ZR)),I 3 (.mv (V 0))])
def ZKu:PC :=
 (.reg [0,2,5] [I 4 (.mv (.s 0)),I 5 (.eqs false 3 [] (.s 4) (.v .nilptr))])
def ZKv:PC :=
 (.reg [2,3] [I 6 (.build [(.int .u64 0),(.int .i64 0),(.int .i64 0),(.int .i64 0),(.int .i64 0)] []),J (.st 5 (.s 2) (.s 6)),I 3 (.mv (V 1))])
def ZKw:PC :=
 (.reg [0,2,12] [I 7 (.mv (.s 0)),I 8 (.nilck (.s 7)),I 9 (.fadr 1 (.s 8)),I 10 (.ld false 1 (.s 9)),I 11 (.len 1 (.s 10)),I 12 (.bin .gtr (.s 11) (V 0))])
def ZKx:PC :=
 (.reg [2,3] [I 13 (.build [(.int .u64 0),(.int .i64 0),(.int .i64 0),(.int .i64 0),(.int .i64 0)] []),J (.st 5 (.s 2) (.s 13)),I 3 (.mv (V 8))])
def ZKy:PC :=
 (.reg [2,3] [I 14 (.mv (.s 0)),I 15 (.nilck (.s 14)),I 16 (.fadr 2 (.s 15)),I 17 (.ld false 1 (.s 16)),I 18 (.nilck (.s 17)),I 19 (.ld true 5 (.s 18)),J (.st 5 (.s 2) (.s 19)),I 3 (.mv (V 0))])
def ZFK:PF:=⟨false,
 (.seq ZKt
 (.seq (.seq ZKu
 (.ite (.s 5)
 (.seq ZKv
 .ret)
 .skip))
 (.seq (.seq ZKw
 (.ite (.s 12)
 (.seq ZKx
 .ret)
 .skip))
 (.seq ZKy
 .ret)))),
 [.c 2 true 5,.s 3]⟩
theorem ZQR:Zv Go.Proofs.Try.prog false ZQQ Go.Proofs.Try.f34=some ZFK:=by kernel_rfl
def ZQS:List Hint:=[H [0],H [0,6],H [2,3,4],H [0,12],H [2,3,4],H [0,2,4],H [0,2,4,24],H [2,3,4],H [0,2],H [2,3,4]]
def ZKz:PC :=
 (.reg [0] [I 2 (.mv (.v (.int .u64 0))),I 3 (.mv (.v (.bool false))),I 4 (.mv (V 0))])
def ZK0:PC :=
 (.reg [0,6] [I 5 (.mv (.s 0)),I 6 (.eqs false 3 [] (.s 5) (.v .nilptr))])
def ZK1:PC :=
 (.reg [2,3,4] [I 2 (.mv (.v (.int .u64 0))),I 3 (.mv (.v (.bool false))),I 4 (.mv (V 1))])
def ZK2:PC :=
 (.reg [0,12] [I 7 (.mv (.s 0)),I 8 (.nilck (.s 7)),I 9 (.fadr 1 (.s 8)),I 10 (.ld false 1 (.s 9)),I 11 (.len 1 (.s 10)),I 12 (.bin .eql (.s 11) (V 0))])
def ZK3:PC :=
 (.reg [2,3,4] [I 2 (.mv (.v (.int .u64 0))),I 3 (.mv (.v (.bool true))),I 4 (.mv (V 0))])
def ZK4:PC :=
 (.reg [0,2,4] [I 14 (.mv (.s 0)),I 15 (.nilck (.s 14)),I 16 (.fadr 1 (.s 15)),I 17 (.ld false 1 (.s 16)),I 18 (.ixS 1 (.s 17) (V 0)),I 19 (.ld false 1 (.s 18)),I 20 (.call .norm (.s 19) []),I 13 (.mv (.s 20)),I 21 (.ext (.s 13) 0),I 22 (.ext (.s 13) 1),I 2 (.mv (.s 21)),I 4 (.mv (.s 22))])
def ZK5:PC :=
 (.reg [0,2,4,24] [I 23 (.mv (.s 4)),I 24 (.bin .neq (.s 23) (V 0))])
def ZK6:PC :=
 (.reg [2,3,4] [I 25 (.mv (.s 4)),I 2 (.mv (.v (.int .u64 0))),I 3 (.mv (.v (.bool false))),I 4 (.mv (.s 25))])
def ZK7:PC :=
 (.reg [0,2] [I 26 (.mv (.s 0)),I 27 (.mv (.s 0)),I 28 (.nilck (.s 27)),I 29 (.fadr 1 (.s 28)),I 30 (.ld false 1 (.s 29)),I 31 (.slc 1 (.s 30) (some (V 1)) none),I 32 (.nilck (.s 26)),I 33 (.fadr 1 (.s 32)),J (.st 1 (.s 33) (.s 31))])
def ZK8:PC :=
 (.reg [2,3,4] [I 34 (.mv (.s 2)),I 35 (.mv (.s 0)),I 36 (.nilck (.s 35)),I 37 (.fadr 1 (.s 36)),I 38 (.ld false 1 (.s 37)),I 39 (.len 1 (.s 38)),I 40 (.bin .eql (.s 39) (V 0)),I 2 (.mv (.s 34)),I 3 (.mv (.s 40)),I 4 (.mv (V 0))])
def ZFL:PF:=⟨false,
 (.seq ZKz
 (.seq (.seq ZK0
 (.ite (.s 6)
 (.seq ZK1
 .ret)
 .skip))
 (.seq (.seq ZK2
 (.ite (.s 12)
 (.seq ZK3
 .ret)
 .skip))
 (.seq ZK4
 (.seq (.seq ZK5
 (.ite (.s 24)
 (.seq ZK6
 .ret)
 .skip))
 (.seq ZK7
 (.seq ZK8
 .ret))))))),
 [.s 2,.s 3,.s 4]⟩
theorem ZQT:Zv Go.Proofs.Try.prog false ZQS Go.Proofs.Try.f35=some ZFL:=by kernel_rfl
def ZK9:List Hint:=[H [0,1,4],H [0,1,4,9],H [4,5],H [0,4,6,7],H [0,4,6,21],H [4],H [4,5],H [4,6],H [4,5]]
def ZIT:PC :=
 (.reg [0,1,4] [I 4 (.box (.v ZN)),I 5 (.mv (V 0))])
def ZIU:PC :=
 (.reg [0,1,4,9] [I 8 (.mv (.s 0)),I 9 (.eqs false 3 [] (.s 8) (.v .nilptr))])
def ZIV:PC :=
 (.reg [4,5] [I 10 (.build [(.int .i64 0),(.str []),.nils] []),J (.st 3 (.s 4) (.s 10)),I 5 (.mv (V 1))])
def ZIW:PC :=
 (.reg [0,4,6,7] [I 12 (.mv (.s 0)),I 13 (.nilck (.s 12)),I 14 (.fadr 2 (.s 13)),I 15 (.ld false 1 (.s 14)),I 16 (.mv (.s 1)),I 17 (.look 0 ZN true (.s 15) (.s 16)),I 11 (.mv (.s 17)),I 18 (.ext (.s 11) 0),I 19 (.ext (.s 11) 1),I 6 (.box (.v ZN)),J (.st 3 (.s 6) (.s 18)),I 7 (.mv (.s 19))])
def ZIX:PC :=
 (.reg [0,4,6,21] [I 20 (.mv (.s 7)),I 21 (.un .not (.s 20))])
def ZIY:PC :=
 (.reg [4] [I 22 (.mv (.s 0)),I 23 (.nilck (.s 22)),I 24 (.fadr 5 (.s 23)),I 25 (.ld false 1 (.s 24)),I 26 (.bin .add (.s 25) (V 1)),I 27 (.nilck (.s 22)),I 28 (.fadr 5 (.s 27)),J (.st 1 (.s 28) (.s 26))])
def ZIZ:PC :=
 (.reg [4,5] [I 29 (.build [(.int .i64 0),(.str []),.nils] []),J (.st 3 (.s 4) (.s 29)),I 5 (.mv (V 10))])
def ZIa:PC :=
 (.reg [4,6] [I 30 (.fadr 2 (.s 6)),I 31 (.ld false 1 (.s 30)),I 32 (C Z5 [(.s 31)]),I 33 (.fadr 2 (.s 6)),J (.st 1 (.s 33) (.s 32))])
def ZIb:PC :=
 (.reg [4,5] [I 34 (.ld true 3 (.s 6)),J (.st 3 (.s 4) (.s 34)),I 5 (.mv (V 0))])
def ZC1:PF:=⟨false,
 (.seq ZIT
 (.seq (.seq ZIU
 (.ite (.s 9)
 (.seq ZIV
 .ret)
 .skip))
 (.seq ZIW
 (.seq (.seq ZIX
 (.ite (.s 21)
 (.seq ZIY
 (.seq ZIZ
 .ret))
 .skip))
 (.seq ZIa
 (.seq ZIb
 .ret)))))),
 [.c 4 true 3,.s 5]⟩
theorem ZLA:Zv Go.Proofs.Try.prog false ZK9 Go.Proofs.Try.f36=some ZC1:=by kernel_rfl
def ZG7:List Hint:=[H [0,1],H [4]]
def ZEc:PC :=
 (.reg [0,1] [I 4 (.mv (.v (.bool false)))])
def ZEd:PC :=
 (.reg [4] [I 5 (.mv (.s 0)),I 6 (C Xb [(.s 5)]),I 7 (.mv (.s 6)),G 8 7 false (.mv (.s 1)),G 9 7 false (C Xc [(.s 8)]),I 10 (.pick (.s 7) (.v (.bool true)) (.s 9)),I 11 (.mv (.s 10)),G 12 11 false (.mv (.s 1)),G 13 11 false (.len 1 (.s 12)),G 14 11 false (.bin .gtr (.s 13) (V 12)),I 15 (.pick (.s 11) (.v (.bool true)) (.s 14)),I 4 (.mv (.s 15))])
def ZAn:PF:=⟨false,
 (.seq ZEc
 (.seq ZEd
 .ret)),
 [.s 4]⟩
theorem ZG8:Zv Go.Proofs.Try.prog false ZG7 Go.Proofs.Try.f38=some ZAn:=by kernel_rfl
def ZJU:List Hint:=[H [0,1],H [0,1,8,9,10],H [0,1,8,9,26],H [4,5,6,7],H [1,8,9,11],H [1,8,9,11,12],H [1,8,9,11,12,33],H [1,8,9,11,12,13,14],H [1,8,9,11,12,13,48],H [4,5,6,7],H [1,8,9,11,12,13,15,16],H [1,8,9,11,12,13,15,58],H [4,5,6,7],H [1,8,9,11,12,15,16,17],H [1,8,9,11,12,15,16,17,69],H [1,8,9,11,12,15,17,71],H [4,5,6,7],H [1,8,9,11,12,15],H [1,8,9,11,12],H [1,8,9,11,12],H [4,5,6,7]]
def ZG9:PC :=
 (.reg [0,1] [I 4 (.mv (.v .nilptr)),I 5 (.mv (.v .nils)),I 6 (.mv (.v .nils)),I 7 (.mv (.v (.bool false)))])
def ZHA:PC :=
 (.reg [0,1,8,9,10] [I 20 (.mv (.s 0)),I 21 (C YM [(.s 20)]),I 19 (.mv (.s 21)),I 22 (.ext (.s 19) 0),I 23 (.ext (.s 19) 1),I 24 (.ext (.s 19) 2),I 8 (.mv (.s 22)),I 9 (.mv (.s 23)),I 10 (.mv (.s 24))])
def ZHB:PC :=
 (.reg [0,1,8,9,26] [I 25 (.mv (.s 10)),I 26 (.un .not (.s 25))])
def ZHC:PC :=
 (.reg [4,5,6,7] [I 4 (.mv (.v .nilptr)),I 5 (.mv (.v .nils)),I 6 (.mv (.v .nils)),I 7 (.mv (.v (.bool false)))])
def ZHD:PC :=
 (.reg [1,8,9,11] [I 27 (.bslice false 1 [] []),I 28 (.mv (.s 0)),I 29 (.app 1 16 (.s 27) (.s 28)),I 11 (.mv (.s 29))])
def ZHE:PC :=
 (.reg [1,8,9,11,12] [I 12 (.mv (V 0))])
def ZHF:PC :=
 (.reg [1,8,9,11,12,33] [I 30 (.mv (.s 12)),I 31 (.mv (.s 1)),I 32 (.len 1 (.s 31)),I 33 (.bin .lss (.s 30) (.s 32))])
def ZHG:PC :=
 (.reg [1,8,9,11,12,13,14] [I 37 (.mv (.s 8)),I 38 (.mv (.s 9)),I 39 (.mv (.s 1)),I 40 (.mv (.s 12)),I 41 (.mv (.s 12)),I 42 (.bin .add (.s 41) (V 1)),I 43 (.slc 5 (.s 39) (some (.s 40)) (some (.s 42))),I 44 (C XE [(.s 37),(.s 38),(.s 43)]),I 36 (.mv (.s 44)),I 45 (.ext (.s 36) 0),I 46 (.ext (.s 36) 1),I 13 (.mv (.s 45)),I 14 (.mv (.s 46))])
def ZHH:PC :=
 (.reg [1,8,9,11,12,13,48] [I 47 (.mv (.s 14)),I 48 (.un .not (.s 47))])
def ZHI:PC :=
 (.reg [4,5,6,7] [I 4 (.mv (.v .nilptr)),I 5 (.mv (.v .nils)),I 6 (.mv (.v .nils)),I 7 (.mv (.v (.bool false)))])
def ZFq:PC :=
 (.reg [1,8,9,11,12,13,15,16] [I 50 (.mv (.s 8)),I 51 (.mv (.s 13)),I 52 (.ixS 7 (.s 51) (V 0)),I 53 (.ld true 7 (.s 52)),I 54 (C ZGZ [(.s 50),(.s 53)]),I 49 (.mv (.s 54)),I 55 (.ext (.s 49) 0),I 56 (.ext (.s 49) 1),I 15 (.mv (.s 55)),I 16 (.mv (.s 56))])
def ZFr:PC :=
 (.reg [1,8,9,11,12,13,15,58] [I 57 (.mv (.s 16)),I 58 (.bin .neq (.s 57) (V 0))])
def ZFs:PC :=
 (.reg [4,5,6,7] [I 4 (.mv (.v .nilptr)),I 5 (.mv (.v .nils)),I 6 (.mv (.v .nils)),I 7 (.mv (.v (.bool false)))])
def ZFt:PC :=
 (.reg [1,8,9,11,12,15,16,17] [I 60 (.mv (.s 8)),I 61 (.mv (.s 13)),I 62 (.ixS 7 (.s 61) (V 0)),I 63 (.ld true 7 (.s 62)),I 64 (C Y2 [(.s 60),(.s 63)]),I 59 (.mv (.s 64)),I 65 (.ext (.s 59) 0),I 66 (.ext (.s 59) 1),I 67 (.ext (.s 59) 2),I 17 (.box (.v ZR)),J (.st 5 (.s 17) (.s 65)),I 18 (.mv (.s 66)),I 16 (.mv (.s 67))])
def ZFu:PC :=
 (.reg [1,8,9,11,12,15,16,17,69] [I 68 (.mv (.s 16)),I 69 (.bin .eql (.s 68) (V 6))])
def ZFv:PC :=
 (.reg [1,8,9,11,12,15,17,71] [I 70 (.mv (.s 16)),I 71 (.bin .neq (.s 70) (V 0))])
def ZFw:PC :=
 (.reg [4,5,6,7] [I 4 (.mv (.v .nilptr)),I 5 (.mv (.v .nils)),I 6 (.mv (.v .nils)),I 7 (.mv (.v (.bool false)))])
def ZFx:PC :=
 (.reg [1,8,9,11,12,15] [I 72 (.mv (.s 9)),I 73 (.ld true 5 (.s 17)),I 74 (.bslice false 5 [ZR] [(0,(.s 73))]),I 75 (.app 5 40 (.s 72) (.s 74)),I 9 (.mv (.s 75))])
def ZFy:PC :=
 (.reg [1,8,9,11,12] [I 76 (.mv (.s 11)),I 77 (.mv (.s 15)),I 78 (.bslice false 1 [(.str [])] [(0,(.s 77))]),I 79 (.app 1 16 (.s 76) (.s 78)),I 11 (.mv (.s 79))])
def ZFz:PC :=
 (.reg [1,8,9,11,12] [I 34 (.mv (.s 12)),I 35 (.bin .add (.s 34) (V 1)),I 12 (.mv (.s 35))])
def ZF0:PC :=
 (.seq (.seq ZHF
 (.ite (.s 33)
 .skip
 (.exit 0)))
 (.seq (.block 1
 (.seq ZHG
 (.seq (.seq ZHH
 (.ite (.s 48)
 (.seq ZHI
 .ret)
 .skip))
 (.seq ZFq
 (.seq (.seq ZFr
 (.ite (.s 58)
 (.seq ZFs
 .ret)
 .skip))
 (.seq ZFt
 (.seq (.seq ZFu
 (.ite (.s 69)
 (.exit 1)
 .skip))
 (.seq (.seq ZFv
 (.ite (.s 71)
 (.seq ZFw
 .ret)
 .skip))
 (.seq ZFx
 ZFy)))))))))
 ZFz))
def ZF1:PC :=
 (.reg [4,5,6,7] [I 80 (.mv (.s 8)),I 81 (.mv (.s 9)),I 82 (.mv (.s 11)),I 4 (.mv (.s 80)),I 5 (.mv (.s 81)),I 6 (.mv (.s 82)),I 7 (.mv (.v (.bool true)))])
def Xe:PF:=⟨true,
 (.seq ZG9
 (.seq ZHA
 (.seq (.seq ZHB
 (.ite (.s 26)
 (.seq ZHC
 .ret)
 .skip))
 (.seq ZHD
 (.seq (.seq ZHE
 (.block 0
 (.loop ZF0)))
 (.seq ZF1
 .ret)))))),
 [.s 4,.s 5,.s 6,.s 7]⟩
theorem ZJV:Zv Go.Proofs.Try.prog true ZJU Go.Proofs.Try.f40=some Xe:=by kernel_rfl
def ZJW:List Hint:=[H [0,1],H [4]]
def ZHJ:PC :=
 (.reg [0,1] [I 4 (.mv (V 0))])
def ZHK:PC :=
 (.reg [4] [I 5 (.mv (.s 0)),I 6 (.mv (.s 1)),I 7 (C JC [(.s 5),(.s 6)]),I 4 (.mv (.s 7))])
def ZCO:PF:=⟨false,
 (.seq ZHJ
 (.seq ZHK
 .ret)),
 [.s 4]⟩
theorem ZJX:Zv Go.Proofs.Try.prog false ZJW Go.Proofs.Try.f41=some ZCO:=by kernel_rfl
def ZJY:List Hint:=[H [0],H [0,3],H [0,3,7],H [0,3,16],H [2],H [0,3],H [2]]
def ZHL:PC :=
 (.reg [0] [I 2 (.mv (.v (.bool false)))])
def ZHM:PC :=
 (.reg [0,3] [I 3 (.mv (V 0))])
def ZHN:PC :=
 (.reg [0,3,7] [I 4 (.mv (.s 3)),I 5 (.mv (.s 0)),I 6 (.len 1 (.s 5)),I 7 (.bin .lss (.s 4) (.s 6))])
def ZHO:PC :=
 (.reg [0,3,16] [I 10 (.mv (.s 0)),I 11 (.mv (.s 3)),I 12 (.ixS 3 (.s 10) (.s 11)),I 13 (.fadr 2 (.s 12)),I 14 (.ld false 1 (.s 13)),I 15 (.len 0 (.s 14)),I 16 (.bin .gtr (.s 15) (V 300))])
def ZHP:PC :=
 (.reg [2] [I 2 (.mv (.v (.bool true)))])
def ZHQ:PC :=
 (.reg [0,3] [I 8 (.mv (.s 3)),I 9 (.bin .add (.s 8) (V 1)),I 3 (.mv (.s 9))])
def ZHR:PC :=
 (.seq (.seq ZHN
 (.ite (.s 7)
 .skip
 (.exit 0)))
 (.seq (.block 1
 (.seq ZHO
 (.ite (.s 16)
 (.seq ZHP
 .ret)
 .skip)))
 ZHQ))
def ZHS:PC :=
 (.reg [2] [I 2 (.mv (.v (.bool false)))])
def ZCP:PF:=⟨false,
 (.seq ZHL
 (.seq (.seq ZHM
 (.block 0
 (.loop ZHR)))
 (.seq ZHS
 .ret))),
 [.s 2]⟩
theorem ZJZ:Zv Go.Proofs.Try.prog false ZJY Go.Proofs.Try.f44=some ZCP:=by kernel_rfl
def ZIc:List Hint:=[H [],H [1,2,3],H [1,2,14],H [0],H [1,4,5],H [5,6,7],H [0]]
def ZF2:PC :=
 (.reg [] [I 0 (.mv (.v (.bool false)))])
def ZF3:PC :=
 (.reg [1,2,3] [I 9 (C J6 []),I 8 (.mv (.s 9)),I 10 (.ext (.s 8) 0),I 11 (.ext (.s 8) 1),I 12 (.ext (.s 8) 2),I 2 (.box (.v ZR)),I 1 (.mv (.s 10)),J (.st 5 (.s 2) (.s 11)),I 3 (.mv (.s 12))])
def ZF4:PC :=
 (.reg [1,2,14] [I 13 (.mv (.s 3)),I 14 (.un .not (.s 13))])
def ZF5:PC :=
 (.reg [0] [I 0 (.mv (.v (.bool false)))])
def ZF6:PC :=
 (.reg [1,4,5] [I 16 (.mv (.s 1)),I 17 (.ld true 5 (.s 2)),I 18 (C ZAe [(.s 16),(.s 17),(V 9),(.v (.str [120,121,122]))]),I 15 (.mv (.s 18)),I 19 (.ext (.s 15) 0),I 20 (.ext (.s 15) 1),I 4 (.box (.v (.agg [(.int .u64 0),(.int .i64 0),(.int .i64 0),(.int .i64 0),(.int .i64 0),.nils,.nils]))),J (.st 7 (.s 4) (.s 19)),I 5 (.mv (.s 20))])
def ZF7:PC :=
 (.reg [5,6,7] [I 22 (.mv (.s 1)),I 23 (.fadr 0 (.s 4)),I 24 (.ld true 5 (.s 23)),I 25 (C Jy [(.s 22),(.s 24)]),I 21 (.mv (.s 25)),I 26 (.ext (.s 21) 0),I 27 (.ext (.s 21) 1),I 6 (.mv (.s 26)),I 7 (.mv (.s 27))])
def ZF8:PC :=
 (.reg [0] [I 28 (.mv (.s 5)),I 29 (.bin .eql (.s 28) (V 0)),I 30 (.mv (.s 29)),G 31 30 true (.mv (.s 7)),G 32 30 true (.bin .eql (.s 31) (V 0)),I 33 (.pick (.s 30) (.s 32) (.v (.bool false))),I 34 (.mv (.s 33)),G 35 34 true (.mv (.s 6)),G 36 34 true (.bin .eql (.s 35) (.v (.str [97,98,99,100,101,102,103,104,105,120,121,122,106,107,108,109,110,111,112,113]))),I 37 (.pick (.s 34) (.s 36) (.v (.bool false))),I 0 (.mv (.s 37))])
def XG:PF:=⟨false,
 (.seq ZF2
 (.seq ZF3
 (.seq (.seq ZF4
 (.ite (.s 14)
 (.seq ZF5
 .ret)
 .skip))
 (.seq ZF6
 (.seq ZF7
 (.seq ZF8
 .ret)))))),
 [.s 0]⟩
theorem ZId:Zv Go.Proofs.Try.prog false ZIc Go.Proofs.Try.f45=some XG:=by kernel_rfl
def ZUo:List Hint:=[H [5,6,7,8,9,10],H [10,11]]
def ZNJ:PC :=
 (.reg [5,6,7,8,9,10] [I 5 (.box (.s 0)),I 6 (.box (.s 1)),I 7 (.box (.s 2)),I 8 (.box (.s 3)),I 9 (.box (.s 4)),I 10 (.box (.v (.agg [(.int .u64 0),(.int .i64 0),(.int .i64 0),(.int .i64 0),(.int .i64 0),.nils,.nils]))),I 11 (.mv (V 0))])
def ZNK:PC :=
 (.reg [10,11] [I 12 (.ld false 1 (.s 5)),I 13 (.mkf (.func J7) [] [(.s 5),(.s 6),(.s 7),(.s 8),(.s 9)]),I 14 (.ld true 5 (.s 6)),I 15 (.bslice false 5 [ZR] [(0,(.s 14))]),I 16 (C XK [(.s 12),(.s 13),(.s 15)]),I 17 (.ext (.s 16) 0),I 18 (.ext (.s 16) 1),J (.st 7 (.s 10) (.s 17)),I 11 (.mv (.s 18))])
def ZHT:PF:=⟨false,
 (.seq ZNJ
 (.seq ZNK
 .ret)),
 [.c 10 true 7,.s 11]⟩
theorem ZUp:Zv Go.Proofs.Try.prog false ZUo Go.Proofs.Try.f46=some ZHT:=by kernel_rfl
def ZDH:List Hint:=[H [0,1],H [0,1,10],H [4],H [0,1,5],H [0,1,5,14],H [0,1,5,25],H [4],H [0,1,5],H [4]]
def ZCQ:PC :=
 (.reg [0,1] [I 4 (.mv (.v (.bool false)))])
def ZCR:PC :=
 (.reg [0,1,10] [I 6 (.mv (.s 0)),I 7 (.len 1 (.s 6)),I 8 (.mv (.s 1)),I 9 (.len 1 (.s 8)),I 10 (.bin .neq (.s 7) (.s 9))])
def ZCS:PC :=
 (.reg [4] [I 4 (.mv (.v (.bool false)))])
def ZCT:PC :=
 (.reg [0,1,5] [I 5 (.mv (V 0))])
def ZCU:PC :=
 (.reg [0,1,5,14] [I 11 (.mv (.s 5)),I 12 (.mv (.s 0)),I 13 (.len 1 (.s 12)),I 14 (.bin .lss (.s 11) (.s 13))])
def ZCV:PC :=
 (.reg [0,1,5,25] [I 17 (.mv (.s 0)),I 18 (.mv (.s 5)),I 19 (.ixS 1 (.s 17) (.s 18)),I 20 (.ld false 1 (.s 19)),I 21 (.mv (.s 1)),I 22 (.mv (.s 5)),I 23 (.ixS 1 (.s 21) (.s 22)),I 24 (.ld false 1 (.s 23)),I 25 (.bin .neq (.s 20) (.s 24))])
def ZCW:PC :=
 (.reg [4] [I 4 (.mv (.v (.bool false)))])
def ZCX:PC :=
 (.reg [0,1,5] [I 15 (.mv (.s 5)),I 16 (.bin .add (.s 15) (V 1)),I 5 (.mv (.s 16))])
def ZCY:PC :=
 (.seq (.seq ZCU
 (.ite (.s 14)
 .skip
 (.exit 0)))
 (.seq (.block 1
 (.seq ZCV
 (.ite (.s 25)
 (.seq ZCW
 .ret)
 .skip)))
 ZCX))
def ZCZ:PC :=
 (.reg [4] [I 4 (.mv (.v (.bool true)))])
def XL:PF:=⟨false,
 (.seq ZCQ
 (.seq (.seq ZCR
 (.ite (.s 10)
 (.seq ZCS
 .ret)
 .skip))
 (.seq (.seq ZCT
 (.block 0
 (.loop ZCY)))
 (.seq ZCZ
 .ret)))),
 [.s 4]⟩
theorem ZDI:Zv Go.Proofs.Try.prog false ZDH Go.Proofs.Try.f47=some XL:=by kernel_rfl
def ZXy:List Hint:=[H [3,4,5,6],H [6,7]]
def ZQU:PC :=
 (.reg [3,4,5,6] [I 3 (.box (.s 0)),I 4 (.box (.s 1)),I 5 (.box (.s 2)),I 6 (.box (.v (.agg [(.int .u64 0),(.int .i64 0),(.int .i64 0),(.int .i64 0),(.int .i64 0),.nils,.nils]))),I 7 (.mv (V 0))])
def ZQV:PC :=
 (.reg [6,7] [I 8 (.ld false 1 (.s 3)),I 9 (.mkf (.func YY) [] [(.s 3),(.s 4),(.s 5)]),I 10 (.ld true 5 (.s 4)),I 11 (.ld true 5 (.s 5)),I 12 (.bslice false 5 [ZR,ZR] [(0,(.s 10)),(1,(.s 11))]),I 13 (C XK [(.s 8),(.s 9),(.s 12)]),I 14 (.ext (.s 13) 0),I 15 (.ext (.s 13) 1),J (.st 7 (.s 6) (.s 14)),I 7 (.mv (.s 15))])
def ZIo:PF:=⟨false,
 (.seq ZQU
 (.seq ZQV
 .ret)),
 [.c 6 true 7,.s 7]⟩
theorem ZXz:Zv Go.Proofs.Try.prog false ZXy Go.Proofs.Try.f48=some ZIo:=by kernel_rfl
def ZeG:List Hint:=[H [0,1],H [0,6,7],H [0,6,7,15],H [4,5],H [4,5]]
def ZX0:PC :=
 (.reg [0,1] [I 4 (.mv (.v .nilptr)),I 5 (.mv (V 0))])
def ZX1:PC :=
 (.reg [0,6,7] [I 9 (.mv (.s 0)),I 10 (.mv (.s 1)),I 11 (C ZBl [(.s 9),(.s 10)]),I 8 (.mv (.s 11)),I 12 (.ext (.s 8) 0),I 13 (.ext (.s 8) 1),I 6 (.mv (.s 12)),I 7 (.mv (.s 13))])
def ZX2:PC :=
 (.reg [0,6,7,15] [I 14 (.mv (.s 7)),I 15 (.bin .neq (.s 14) (V 0))])
def ZX3:PC :=
 (.reg [4,5] [I 16 (.mv (.s 7)),I 4 (.mv (.v .nilptr)),I 5 (.mv (.s 16))])
def ZX4:PC :=
 (.reg [4,5] [I 17 (.mv (.s 0)),I 18 (.mv (.s 6)),I 19 (.mkmap),I 20 (.build [(.int .i64 0),.nilptr,.nilmap,(.int .i64 0),(.int .i64 0),(.int .i64 0)] [(0,1,(.s 17)),(1,1,(.s 18)),(2,1,(.s 19))]),I 21 (.box (.s 20)),I 4 (.mv (.s 21)),I 5 (.mv (V 0))])
def ZPo:PF:=⟨true,
 (.seq ZX0
 (.seq ZX1
 (.seq (.seq ZX2
 (.ite (.s 15)
 (.seq ZX3
 .ret)
 .skip))
 (.seq ZX4
 .ret)))),
 [.s 4,.s 5]⟩
theorem ZeH:Zv Go.Proofs.Try.prog true ZeG Go.Proofs.Try.f49=some ZPo:=by kernel_rfl
def Zfx:List Hint:=[H [0,1,4],H [0,1,4,11],H [4,5],H [0,4,6,7],H [0,4,6,7,19],H [4,5],H [4,7,8],H [4,5]]
def Zbn:PC :=
 (.reg [0,1,4] [I 4 (.box (.v ZR)),I 5 (.mv (V 0))])
def Zbo:PC :=
 (.reg [0,1,4,11] [I 10 (.mv (.s 0)),I 11 (.eqs false 3 [] (.s 10) (.v .nilptr))])
def Zbp:PC :=
 (.reg [4,5] [I 12 (.build [(.int .u64 0),(.int .i64 0),(.int .i64 0),(.int .i64 0),(.int .i64 0)] []),J (.st 5 (.s 4) (.s 12)),I 5 (.mv (V 1))])
def Zbq:PC :=
 (.reg [0,4,6,7] [I 14 (.mv (.s 1)),I 15 (C Xq [(.s 14)]),I 13 (.mv (.s 15)),I 16 (.ext (.s 13) 0),I 17 (.ext (.s 13) 1),I 6 (.box (.v ZT)),J (.st 7 (.s 6) (.s 16)),I 7 (.mv (.s 17))])
def Zbr:PC :=
 (.reg [0,4,6,7,19] [I 18 (.mv (.s 7)),I 19 (.bin .neq (.s 18) (V 0))])
def Zbs:PC :=
 (.reg [4,5] [I 20 (.build [(.int .u64 0),(.int .i64 0),(.int .i64 0),(.int .i64 0),(.int .i64 0)] []),I 21 (.mv (.s 7)),J (.st 5 (.s 4) (.s 20)),I 5 (.mv (.s 21))])
def Zbt:PC :=
 (.reg [4,7,8] [I 23 (.mv (.s 0)),I 24 (.ld true 7 (.s 6)),I 25 (C Y2 [(.s 23),(.s 24)]),I 22 (.mv (.s 25)),I 26 (.ext (.s 22) 0),I 27 (.ext (.s 22) 1),I 28 (.ext (.s 22) 2),I 8 (.box (.v ZR)),J (.st 5 (.s 8) (.s 26)),I 9 (.mv (.s 27)),I 7 (.mv (.s 28))])
def Zbu:PC :=
 (.reg [4,5] [I 29 (.ld true 5 (.s 8)),I 30 (.mv (.s 7)),J (.st 5 (.s 4) (.s 29)),I 5 (.mv (.s 30))])
def ZUq:PF:=⟨false,
 (.seq Zbn
 (.seq (.seq Zbo
 (.ite (.s 11)
 (.seq Zbp
 .ret)
 .skip))
 (.seq Zbq
 (.seq (.seq Zbr
 (.ite (.s 19)
 (.seq Zbs
 .ret)
 .skip))
 (.seq Zbt
 (.seq Zbu
 .ret)))))),
 [.c 4 true 5,.s 5]⟩
theorem Zfy:Zv Go.Proofs.Try.prog false Zfx Go.Proofs.Try.f50=some ZUq:=by kernel_rfl
def Zbv:List Hint:=[H [0,2],H [0,2,14],H [2,3],⟨[0,2,4],[0],[],[],[],[]⟩,H [2,4,17,18,19],H [2,4,17,18,19,20],H [2,4,6,17,18,19],H [2,4,17,18,19],H [2,4,17,18,19],H [2,4,31],H [2,4,7,8],H [2,4,7,8,39],H [2,3],⟨[2,4,7,9],[0],[],[],[],[]⟩,H [2,4,9,42,43,44],H [2,4,9,42,43,44,45],H [2,4,9,11,42,43,44],H [2,4,9,11,42,43,44],H [2,4,9,42,43,44],H [2,4,9,42,43,44],H [2,4],H [2,3]]
def ZUr:PC :=
 (.reg [0,2] [I 2 (.box (.v ZT)),I 3 (.mv (V 0))])
def ZUs:PC :=
 (.reg [0,2,14] [I 12 (.mv (.s 0)),I 13 (.len 0 (.s 12)),I 14 (.bin .gtr (.s 13) (V 65536))])
def ZUt:PC :=
 (.reg [2,3] [I 15 (.build [(.int .u64 0),(.int .i64 0),(.int .i64 0),(.int .i64 0),(.int .i64 0),(.str []),.nils] []),J (.st 7 (.s 2) (.s 15)),I 3 (.mv (V 5))])
def ZUu:PC :=
 (.reg [0,2,4] [I 4 (.onil 7)])
def ZUv:PC :=
 (.reg [2,4,17,18,19] [I 16 (.mv (.s 0)),I 17 (C ZBm [(.s 16)]),I 18 (.len 1 (.s 17)),I 19 (.mv (V 0))])
def ZUw:PC :=
 (.reg [2,4,17,18,19,20] [I 20 (.bin .lss (.s 19) (.s 18))])
def ZUx:PC :=
 (.reg [2,4,6,17,18,19] [I 21 (.ixS 1 (.s 17) (.s 19)),I 22 (.ld false 1 (.s 21)),I 6 (.mv (.s 22))])
def ZUy:PC :=
 (.reg [2,4,17,18,19] [I 23 (.mv (.s 4)),I 24 (.mv (.s 6)),I 25 (.build [(.int .u64 0),(.int .i64 0),(.int .i64 0),(.int .i64 0),(.int .i64 0),(.str []),.nils] [(5,1,(.s 24))]),I 26 (.bslice false 7 [ZT] [(0,(.s 25))]),I 27 (.app 7 80 (.s 23) (.s 26)),I 4 (.mv (.s 27))])
def ZUz:PC :=
 (.reg [2,4,17,18,19] [I 28 (.bin .add (.s 19) (V 1)),I 19 (.mv (.s 28))])
def ZU0:PC :=
 (.seq ZUw
 (.seq (.ite (.s 20)
 .skip
 (.exit 0))
 (.seq (.block 1
 (.seq ZUx
 ZUy))
 ZUz)))
def ZQW:PC :=
 (.reg [2,4,31] [I 29 (.mv (.s 4)),I 30 (.len 1 (.s 29)),I 31 (.bin .gtr (.s 30) (V 1))])
def ZQX:PC :=
 (.reg [2,4,7,8] [I 33 (.mv (.s 4)),I 34 (.len 1 (.s 33)),I 35 (C ZEO [(.s 34),(V 4)]),I 32 (.mv (.s 35)),I 36 (.ext (.s 32) 0),I 37 (.ext (.s 32) 1),I 7 (.mv (.s 36)),I 8 (.mv (.s 37))])
def ZQY:PC :=
 (.reg [2,4,7,8,39] [I 38 (.mv (.s 8)),I 39 (.bin .neq (.s 38) (V 0))])
def ZQZ:PC :=
 (.reg [2,3] [I 40 (.build [(.int .u64 0),(.int .i64 0),(.int .i64 0),(.int .i64 0),(.int .i64 0),(.str []),.nils] []),I 41 (.mv (.s 8)),J (.st 7 (.s 2) (.s 40)),I 3 (.mv (.s 41))])
def ZQa:PC :=
 (.reg [2,4,7,9] [I 9 (.onil 7)])
def ZQb:PC :=
 (.reg [2,4,9,42,43,44] [I 42 (.mv (.s 7)),I 43 (.len 1 (.s 42)),I 44 (.mv (V 0))])
def ZQc:PC :=
 (.reg [2,4,9,42,43,44,45] [I 45 (.bin .lss (.s 44) (.s 43))])
def ZQd:PC :=
 (.reg [2,4,9,11,42,43,44] [I 46 (.ixS 1 (.s 42) (.s 44)),I 47 (.ld false 1 (.s 46)),I 11 (.mv (.s 47))])
def ZQe:PC :=
 (.reg [2,4,9,11,42,43,44] [I 48 (.mv (.s 9)),I 49 (.mv (.s 4)),I 50 (.mv (.s 11)),I 51 (.slc 7 (.s 49) none (some (.s 50))),I 52 (C QK [(.s 51)]),I 53 (.bslice false 7 [ZT] [(0,(.s 52))]),I 54 (.app 7 80 (.s 48) (.s 53)),I 9 (.mv (.s 54))])
def ZQf:PC :=
 (.reg [2,4,9,42,43,44] [I 55 (.mv (.s 4)),I 56 (.mv (.s 11)),I 57 (.slc 7 (.s 55) (some (.s 56)) none),I 4 (.mv (.s 57))])
def ZQg:PC :=
 (.reg [2,4,9,42,43,44] [I 58 (.bin .add (.s 44) (V 1)),I 44 (.mv (.s 58))])
def ZQh:PC :=
 (.seq ZQc
 (.seq (.ite (.s 45)
 .skip
 (.exit 4))
 (.seq (.block 5
 (.seq ZQd
 (.seq ZQe
 ZQf)))
 ZQg)))
def ZQi:PC :=
 (.reg [2,4] [I 59 (.mv (.s 9)),I 4 (.mv (.s 59))])
def ZFM:PC :=
 (.seq (.seq ZQW
 (.ite (.s 31)
 .skip
 (.exit 2)))
 (.block 3
 (.seq ZQX
 (.seq (.seq ZQY
 (.ite (.s 39)
 (.seq ZQZ
 .ret)
 .skip))
 (.seq ZQa
 (.seq (.seq ZQb
 (.block 4
 (.loop ZQh)))
 ZQi))))))
def ZFN:PC :=
 (.reg [2,3] [I 60 (.mv (.s 4)),I 61 (C QK [(.s 60)]),J (.st 7 (.s 2) (.s 61)),I 3 (.mv (V 0))])
def ZLB:PF:=⟨false,
 (.seq ZUr
 (.seq (.seq ZUs
 (.ite (.s 14)
 (.seq ZUt
 .ret)
 .skip))
 (.seq ZUu
 (.seq (.seq ZUv
 (.block 0
 (.loop ZU0)))
 (.seq (.block 2
 (.loop ZFM))
 (.seq ZFN
 .ret)))))),
 [.c 2 true 7,.s 3]⟩
theorem Zbw:Zv Go.Proofs.Try.prog false Zbv Go.Proofs.Try.f53=some ZLB:=by kernel_rfl
def ZeI:List Hint:=[H [0,3,4],H [0,3,4,8],H [4,5],H [0,3,4,12],H [4,5],H [0,3,4,16],H [4,5],H [3,4,6],H [3,4,6,27],H [4,5],H [4,5]]
def ZX5:PC :=
 (.reg [0,3,4] [I 3 (.box (.s 1)),I 4 (.box (.v ZT)),I 5 (.mv (V 0))])
def ZX6:PC :=
 (.reg [0,3,4,8] [I 7 (.mv (.s 0)),I 8 (.eqs false 3 [] (.s 7) (.v .nilptr))])
def ZX7:PC :=
 (.reg [4,5] [I 9 (.build [(.int .u64 0),(.int .i64 0),(.int .i64 0),(.int .i64 0),(.int .i64 0),(.str []),.nils] []),J (.st 7 (.s 4) (.s 9)),I 5 (.mv (V 1))])
def ZX8:PC :=
 (.reg [0,3,4,12] [I 10 (.ld true 5 (.s 3)),I 11 (.build [(.int .u64 0),(.int .i64 0),(.int .i64 0),(.int .i64 0),(.int .i64 0)] []),I 12 (.eqs false 0 [(0,0),(1,0),(2,0),(3,0),(4,0)] (.s 10) (.s 11))])
def ZX9:PC :=
 (.reg [4,5] [I 13 (.build [(.int .u64 0),(.int .i64 0),(.int .i64 0),(.int .i64 0),(.int .i64 0),(.str []),.nils] []),J (.st 7 (.s 4) (.s 13)),I 5 (.mv (V 0))])
def ZYA:PC :=
 (.reg [0,3,4,16] [I 14 (.fadr 0 (.s 3)),I 15 (.ld false 1 (.s 14)),I 16 (.bin .eql (.s 15) (.v (.int .u64 0)))])
def ZYB:PC :=
 (.reg [4,5] [I 17 (.build [(.int .u64 0),(.int .i64 0),(.int .i64 0),(.int .i64 0),(.int .i64 0),(.str []),.nils] []),J (.st 7 (.s 4) (.s 17)),I 5 (.mv (V 2))])
def ZYC:PC :=
 (.reg [3,4,6] [I 18 (.mv (.s 0)),I 19 (.fadr 0 (.s 3)),I 20 (.ld false 1 (.s 19)),I 21 (.fadr 1 (.s 3)),I 22 (.ld false 1 (.s 21)),I 23 (.fadr 2 (.s 3)),I 24 (.ld true 3 (.s 23)),I 25 (C ZCz [(.s 18),(.s 20),(.s 22),(.s 24)]),I 6 (.mv (.s 25))])
def ZYD:PC :=
 (.reg [3,4,6,27] [I 26 (.mv (.s 6)),I 27 (.bin .neq (.s 26) (V 0))])
def ZYE:PC :=
 (.reg [4,5] [I 28 (.build [(.int .u64 0),(.int .i64 0),(.int .i64 0),(.int .i64 0),(.int .i64 0),(.str []),.nils] []),I 29 (.mv (.s 6)),J (.st 7 (.s 4) (.s 28)),I 5 (.mv (.s 29))])
def ZU1:PC :=
 (.reg [4,5] [I 30 (.fadr 0 (.s 3)),I 31 (.ld false 1 (.s 30)),I 32 (.fadr 1 (.s 3)),I 33 (.ld false 1 (.s 32)),I 34 (.fadr 2 (.s 3)),I 35 (.ld true 3 (.s 34)),I 36 (.build [(.int .u64 0),(.int .i64 0),(.int .i64 0),(.int .i64 0),(.int .i64 0),(.str []),.nils] [(0,1,(.s 31)),(1,1,(.s 33)),(2,3,(.s 35))]),J (.st 7 (.s 4) (.s 36)),I 5 (.mv (V 0))])
def ZPp:PF:=⟨false,
 (.seq ZX5
 (.seq (.seq ZX6
 (.ite (.s 8)
 (.seq ZX7
 .ret)
 .skip))
 (.seq (.seq ZX8
 (.ite (.s 12)
 (.seq ZX9
 .ret)
 .skip))
 (.seq (.seq ZYA
 (.ite (.s 16)
 (.seq ZYB
 .ret)
 .skip))
 (.seq (.seq ZYC
 (.seq ZYD
 (.ite (.s 27)
 (.seq ZYE
 .ret)
 .skip)))
 (.seq ZU1
 .ret)))))),
 [.c 4 true 7,.s 5]⟩
theorem ZeJ:Zv Go.Proofs.Try.prog false ZeI Go.Proofs.Try.f59=some ZPp:=by kernel_rfl
def ZU2:List Hint:=[H [0,2,3,4,6,10],H [0,2,3,4,6,10,12],H [0,2,3,4,6,10,12,24],H [10,11],H [0,2,3,4,6,10,13],H [0,2,3,4,6,10,13,46],H [10,11],H [0,2,3,4,6,10,60],H [10,11],H [0,2,3,4,6,10,67],H [10,11],H [0,3,4,10,14,15,16],H [0,3,4,10,14,15,16,79],H [10,11],H [0,4,10,14,16,18],H [0,4,10,14,16,18,91],H [10,11],H [0,10,14,16,18,19],H [0,10,14,16,18,19,100],H [10,11],H [0,10,14,16,18],H [0,10,14,16,18,111],H [10,11],H [10,14,16],H [10,11]]
def ZNL:PC :=
 (.reg [0,2,3,4,6,10] [I 6 (.box (.s 1)),I 10 (.box (.v ZT)),I 11 (.mv (V 0))])
def ZNM:PC :=
 (.reg [0,2,3,4,6,10,12] [I 20 (.mv (.s 0)),I 21 (.ld true 7 (.s 6)),I 22 (C Ja [(.s 20),(.s 21)]),I 12 (.mv (.s 22))])
def ZNN:PC :=
 (.reg [0,2,3,4,6,10,12,24] [I 23 (.mv (.s 12)),I 24 (.bin .neq (.s 23) (V 0))])
def ZNO:PC :=
 (.reg [10,11] [I 25 (.build [(.int .u64 0),(.int .i64 0),(.int .i64 0),(.int .i64 0),(.int .i64 0),(.str []),.nils] []),I 26 (.mv (.s 12)),J (.st 7 (.s 10) (.s 25)),I 11 (.mv (.s 26))])
def ZNP:PC :=
 (.reg [0,2,3,4,6,10,13] [I 27 (.ld true 7 (.s 6)),I 28 (C QT [(.s 27)]),I 13 (.mv (.s 28))])
def ZNQ:PC :=
 (.reg [0,2,3,4,6,10,13,46] [I 29 (.mv (.s 2)),I 30 (.bin .lss (.s 29) (V 0)),I 31 (.mv (.s 30)),G 32 31 false (.mv (.s 2)),G 33 31 false (.mv (.s 13)),G 34 31 false (.bin .gtr (.s 32) (.s 33)),I 35 (.pick (.s 31) (.v (.bool true)) (.s 34)),I 36 (.mv (.s 35)),G 37 36 false (.mv (.s 3)),G 38 36 false (.bin .lss (.s 37) (V 0)),I 39 (.pick (.s 36) (.v (.bool true)) (.s 38)),I 40 (.mv (.s 39)),G 41 40 false (.mv (.s 3)),G 42 40 false (.mv (.s 13)),G 43 40 false (.mv (.s 2)),G 44 40 false (.bin .sub (.s 42) (.s 43)),G 45 40 false (.bin .gtr (.s 41) (.s 44)),I 46 (.pick (.s 40) (.v (.bool true)) (.s 45))])
def ZNR:PC :=
 (.reg [10,11] [I 47 (.build [(.int .u64 0),(.int .i64 0),(.int .i64 0),(.int .i64 0),(.int .i64 0),(.str []),.nils] []),J (.st 7 (.s 10) (.s 47)),I 11 (.mv (V 3))])
def ZNS:PC :=
 (.reg [0,2,3,4,6,10,60] [I 48 (.mv (.s 13)),I 49 (.mv (.s 3)),I 50 (.bin .sub (.s 48) (.s 49)),I 51 (.mv (.s 4)),I 52 (.len 0 (.s 51)),I 53 (.mnx false (.s 52) (V 65536)),I 54 (.bin .sub (V 65536) (.s 53)),I 55 (.bin .gtr (.s 50) (.s 54)),I 56 (.mv (.s 55)),G 57 56 false (.mv (.s 4)),G 58 56 false (.len 0 (.s 57)),G 59 56 false (.bin .gtr (.s 58) (V 65536)),I 60 (.pick (.s 56) (.v (.bool true)) (.s 59))])
def ZNT:PC :=
 (.reg [10,11] [I 61 (.build [(.int .u64 0),(.int .i64 0),(.int .i64 0),(.int .i64 0),(.int .i64 0),(.str []),.nils] []),J (.st 7 (.s 10) (.s 61)),I 11 (.mv (V 5))])
def ZNU:PC :=
 (.reg [0,2,3,4,6,10,67] [I 62 (.mv (.s 3)),I 63 (.bin .eql (.s 62) (V 0)),I 64 (.mv (.s 63)),G 65 64 true (.mv (.s 4)),G 66 64 true (.bin .eql (.s 65) (.v (.str []))),I 67 (.pick (.s 64) (.s 66) (.v (.bool false)))])
def ZLC:PC :=
 (.reg [10,11] [I 68 (.ld true 7 (.s 6)),I 69 (C ZAT [(.s 68)]),J (.st 7 (.s 10) (.s 69)),I 11 (.mv (V 0))])
def ZLD:PC :=
 (.reg [0,3,4,10,14,15,16] [I 71 (.mv (.s 0)),I 72 (.ld true 7 (.s 6)),I 73 (.mv (.s 2)),I 74 (C ZAU [(.s 71),(.s 72),(.s 73)]),I 70 (.mv (.s 74)),I 75 (.ext (.s 70) 0),I 76 (.ext (.s 70) 1),I 77 (.ext (.s 70) 2),I 14 (.box (.v ZT)),I 15 (.box (.v ZT)),J (.st 7 (.s 14) (.s 75)),J (.st 7 (.s 15) (.s 76)),I 16 (.mv (.s 77))])
def ZLE:PC :=
 (.reg [0,3,4,10,14,15,16,79] [I 78 (.mv (.s 16)),I 79 (.bin .neq (.s 78) (V 0))])
def ZLF:PC :=
 (.reg [10,11] [I 80 (.build [(.int .u64 0),(.int .i64 0),(.int .i64 0),(.int .i64 0),(.int .i64 0),(.str []),.nils] []),I 81 (.mv (.s 16)),J (.st 7 (.s 10) (.s 80)),I 11 (.mv (.s 81))])
def ZLG:PC :=
 (.reg [0,4,10,14,16,18] [I 83 (.mv (.s 0)),I 84 (.ld true 7 (.s 15)),I 85 (.mv (.s 3)),I 86 (C ZAU [(.s 83),(.s 84),(.s 85)]),I 82 (.mv (.s 86)),I 87 (.ext (.s 82) 0),I 88 (.ext (.s 82) 1),I 89 (.ext (.s 82) 2),I 17 (.box (.v ZT)),I 18 (.box (.v ZT)),J (.st 7 (.s 17) (.s 87)),J (.st 7 (.s 18) (.s 88)),I 16 (.mv (.s 89))])
def ZLH:PC :=
 (.reg [0,4,10,14,16,18,91] [I 90 (.mv (.s 16)),I 91 (.bin .neq (.s 90) (V 0))])
def ZLI:PC :=
 (.reg [10,11] [I 92 (.build [(.int .u64 0),(.int .i64 0),(.int .i64 0),(.int .i64 0),(.int .i64 0),(.str []),.nils] []),I 93 (.mv (.s 16)),J (.st 7 (.s 10) (.s 92)),I 11 (.mv (.s 93))])
def ZLJ:PC :=
 (.reg [0,10,14,16,18,19] [I 95 (.mv (.s 4)),I 96 (C Xq [(.s 95)]),I 94 (.mv (.s 96)),I 97 (.ext (.s 94) 0),I 98 (.ext (.s 94) 1),I 19 (.box (.v ZT)),J (.st 7 (.s 19) (.s 97)),I 16 (.mv (.s 98))])
def ZLK:PC :=
 (.reg [0,10,14,16,18,19,100] [I 99 (.mv (.s 16)),I 100 (.bin .neq (.s 99) (V 0))])
def ZLL:PC :=
 (.reg [10,11] [I 101 (.build [(.int .u64 0),(.int .i64 0),(.int .i64 0),(.int .i64 0),(.int .i64 0),(.str []),.nils] []),I 102 (.mv (.s 16)),J (.st 7 (.s 10) (.s 101)),I 11 (.mv (.s 102))])
def ZLM:PC :=
 (.reg [0,10,14,16,18] [I 104 (.mv (.s 0)),I 105 (.ld true 7 (.s 14)),I 106 (.ld true 7 (.s 19)),I 107 (C J4 [(.s 104),(.s 105),(.s 106)]),I 103 (.mv (.s 107)),I 108 (.ext (.s 103) 0),I 109 (.ext (.s 103) 1),J (.st 7 (.s 14) (.s 108)),I 16 (.mv (.s 109))])
def ZLN:PC :=
 (.reg [0,10,14,16,18,111] [I 110 (.mv (.s 16)),I 111 (.bin .neq (.s 110) (V 0))])
def ZLO:PC :=
 (.reg [10,11] [I 112 (.build [(.int .u64 0),(.int .i64 0),(.int .i64 0),(.int .i64 0),(.int .i64 0),(.str []),.nils] []),I 113 (.mv (.s 16)),J (.st 7 (.s 10) (.s 112)),I 11 (.mv (.s 113))])
def ZLP:PC :=
 (.reg [10,14,16] [I 115 (.mv (.s 0)),I 116 (.ld true 7 (.s 14)),I 117 (.ld true 7 (.s 18)),I 118 (C J4 [(.s 115),(.s 116),(.s 117)]),I 114 (.mv (.s 118)),I 119 (.ext (.s 114) 0),I 120 (.ext (.s 114) 1),J (.st 7 (.s 14) (.s 119)),I 16 (.mv (.s 120))])
def ZLQ:PC :=
 (.reg [10,11] [I 121 (.ld true 7 (.s 14)),I 122 (C ZAT [(.s 121)]),I 123 (.mv (.s 16)),J (.st 7 (.s 10) (.s 122)),I 11 (.mv (.s 123))])
def ZHU:PF:=⟨false,
 (.seq ZNL
 (.seq (.seq ZNM
 (.seq ZNN
 (.ite (.s 24)
 (.seq ZNO
 .ret)
 .skip)))
 (.seq ZNP
 (.seq (.seq ZNQ
 (.ite (.s 46)
 (.seq ZNR
 .ret)
 .skip))
 (.seq (.seq ZNS
 (.ite (.s 60)
 (.seq ZNT
 .ret)
 .skip))
 (.seq (.seq ZNU
 (.ite (.s 67)
 (.seq ZLC
 .ret)
 .skip))
 (.seq ZLD
 (.seq (.seq ZLE
 (.ite (.s 79)
 (.seq ZLF
 .ret)
 .skip))
 (.seq ZLG
 (.seq (.seq ZLH
 (.ite (.s 91)
 (.seq ZLI
 .ret)
 .skip))
 (.seq ZLJ
 (.seq (.seq ZLK
 (.ite (.s 100)
 (.seq ZLL
 .ret)
 .skip))
 (.seq (.seq ZLM
 (.seq ZLN
 (.ite (.s 111)
 (.seq ZLO
 .ret)
 .skip)))
 (.seq ZLP
 (.seq ZLQ
 .ret))))))))))))))),
 [.c 10 true 7,.s 11]⟩
theorem ZU3:Zv Go.Proofs.Try.prog false ZU2 Go.Proofs.Try.f60=some ZHU:=by kernel_rfl
def Zbx:List Hint:=[H [0,3],H [0,3,7],H [4],H [0,3,10],H [4],H [3,5],H [3,5,15],H [4],H [19],H [4],H [4]]
def ZU4:PC :=
 (.reg [0,3] [I 3 (.box (.s 1)),I 4 (.mv (V 0))])
def ZU5:PC :=
 (.reg [0,3,7] [I 6 (.mv (.s 0)),I 7 (.eqs false 3 [] (.s 6) (.v .nilptr))])
def ZU6:PC :=
 (.reg [4] [I 4 (.mv (V 1))])
def ZU7:PC :=
 (.reg [0,3,10] [I 8 (.ld true 7 (.s 3)),I 9 (C QS [(.s 8)]),I 10 (.bin .eql (.s 9) (V 1))])
def ZU8:PC :=
 (.reg [4] [I 4 (.mv (V 0))])
def ZU9:PC :=
 (.reg [3,5] [I 11 (.mv (.s 0)),I 12 (.ld true 7 (.s 3)),I 13 (C ZBH [(.s 11),(.s 12),(.v (.bool false)),(V 0)]),I 5 (.mv (.s 13))])
def ZVA:PC :=
 (.reg [3,5,15] [I 14 (.mv (.s 5)),I 15 (.bin .neq (.s 14) (V 0))])
def ZVB:PC :=
 (.reg [4] [I 16 (.mv (.s 5)),I 4 (.mv (.s 16))])
def ZVC:PC :=
 (.reg [19] [I 17 (.ld true 7 (.s 3)),I 18 (C QT [(.s 17)]),I 19 (.bin .gtr (.s 18) (V 65536))])
def ZVD:PC :=
 (.reg [4] [I 4 (.mv (V 5))])
def ZQj:PC :=
 (.reg [4] [I 4 (.mv (V 0))])
def ZLR:PF:=⟨false,
 (.seq ZU4
 (.seq (.seq ZU5
 (.ite (.s 7)
 (.seq ZU6
 .ret)
 .skip))
 (.seq (.seq ZU7
 (.ite (.s 10)
 (.seq ZU8
 .ret)
 .skip))
 (.seq (.seq ZU9
 (.seq ZVA
 (.ite (.s 15)
 (.seq ZVB
 .ret)
 .skip)))
 (.seq (.seq ZVC
 (.ite (.s 19)
 (.seq ZVD
 .ret)
 .skip))
 (.seq ZQj
 .ret)))))),
 [.s 4]⟩
theorem Zby:Zv Go.Proofs.Try.prog false Zbx Go.Proofs.Try.f61=some ZLR:=by kernel_rfl
def ZYF:List Hint:=[H [1,2,3,4],H [1,2,3,4,15],H [2,6,7],H [7],H [5],H [3,8,9],H [3,8,9,33],H [5],H [3,35,36,37],H [3,35,36,37,38],H [3,11,35,36,37],H [3,12,35,36,37],H [3,12,35,36,37,45],H [5],H [3,35,36,37],H [5]]
def ZQk:PC :=
 (.reg [1,2,3,4] [I 4 (.box (.s 0)),I 5 (.mv (V 0))])
def ZQl:PC :=
 (.reg [1,2,3,4,15] [I 13 (.fadr 1 (.s 4)),I 14 (.ld false 1 (.s 13)),I 15 (.bin .eql (.s 14) (V 0))])
def ZQm:PC :=
 (.reg [2,6,7] [I 17 (.ld false 1 (.s 1)),I 18 (.ld true 7 (.s 4)),I 19 (C Xk [(.s 17),(.s 18)]),I 16 (.mv (.s 19)),I 20 (.ext (.s 16) 0),I 21 (.ext (.s 16) 1),I 6 (.mv (.s 20)),I 7 (.mv (.s 21))])
def ZQn:PC :=
 (.reg [7] [I 22 (.ld false 1 (.s 2)),I 23 (.mv (.s 6)),I 24 (.app 1 1 (.s 22) (.s 23)),J (.st 1 (.s 2) (.s 24))])
def ZQo:PC :=
 (.reg [5] [I 25 (.mv (.s 7)),I 5 (.mv (.s 25))])
def ZQp:PC :=
 (.reg [3,8,9] [I 27 (.ld false 1 (.s 1)),I 28 (.ld true 7 (.s 4)),I 29 (C Ju [(.s 27),(.s 28)]),I 26 (.mv (.s 29)),I 30 (.ext (.s 26) 0),I 31 (.ext (.s 26) 1),I 8 (.mv (.s 30)),I 9 (.mv (.s 31))])
def ZQq:PC :=
 (.reg [3,8,9,33] [I 32 (.mv (.s 9)),I 33 (.bin .neq (.s 32) (V 0))])
def ZQr:PC :=
 (.reg [5] [I 34 (.mv (.s 9)),I 5 (.mv (.s 34))])
def ZQs:PC :=
 (.reg [3,35,36,37] [I 35 (.mv (.s 8)),I 36 (.len 1 (.s 35)),I 37 (.mv (V 0))])
def ZQt:PC :=
 (.reg [3,35,36,37,38] [I 38 (.bin .lss (.s 37) (.s 36))])
def ZNV:PC :=
 (.reg [3,11,35,36,37] [I 39 (.ixS 7 (.s 35) (.s 37)),I 40 (.ld true 7 (.s 39)),I 11 (.box (.v ZT)),J (.st 7 (.s 11) (.s 40))])
def ZNW:PC :=
 (.reg [3,12,35,36,37] [I 41 (.ld false 1 (.s 3)),I 42 (.ld true 7 (.s 11)),I 43 (.call .norm (.s 41) [(.s 42)]),I 12 (.mv (.s 43))])
def ZNX:PC :=
 (.reg [3,12,35,36,37,45] [I 44 (.mv (.s 12)),I 45 (.bin .neq (.s 44) (V 0))])
def ZNY:PC :=
 (.reg [5] [I 46 (.mv (.s 12)),I 5 (.mv (.s 46))])
def ZNZ:PC :=
 (.reg [3,35,36,37] [I 47 (.bin .add (.s 37) (V 1)),I 37 (.mv (.s 47))])
def ZNa:PC :=
 (.seq ZQt
 (.seq (.ite (.s 38)
 .skip
 (.exit 0))
 (.seq (.block 1
 (.seq ZNV
 (.seq ZNW
 (.seq ZNX
 (.ite (.s 45)
 (.seq ZNY
 .ret)
 .skip)))))
 ZNZ)))
def ZNb:PC :=
 (.reg [5] [I 5 (.mv (V 0))])
def ZIp:PF:=⟨false,
 (.seq ZQk
 (.seq (.seq ZQl
 (.ite (.s 15)
 (.seq ZQm
 (.seq ZQn
 (.seq ZQo
 .ret)))
 .skip))
 (.seq ZQp
 (.seq (.seq ZQq
 (.ite (.s 33)
 (.seq ZQr
 .ret)
 .skip))
 (.seq (.seq ZQs
 (.block 0
 (.loop ZNa)))
 (.seq ZNb
 .ret)))))),
 [.s 5]⟩
theorem ZYG:Zv Go.Proofs.Try.prog false ZYF Go.Proofs.Try.f62=some ZIp:=by kernel_rfl
def ZeK:List Hint:=[H [0,3],H [0,3,10],H [4,5],H [6,7],H [4,5]]
def ZYH:PC :=
 (.reg [0,3] [I 3 (.box (.s 1)),I 4 (.mv (.v (.str []))),I 5 (.mv (V 0))])
def ZYI:PC :=
 (.reg [0,3,10] [I 8 (.fadr 0 (.s 3)),I 9 (.ld false 1 (.s 8)),I 10 (.bin .eql (.s 9) (.v (.int .u64 0)))])
def ZYJ:PC :=
 (.reg [4,5] [I 11 (.fadr 5 (.s 3)),I 12 (.ld false 1 (.s 11)),I 4 (.mv (.s 12)),I 5 (.mv (V 0))])
def ZYK:PC :=
 (.reg [6,7] [I 14 (.mv (.s 0)),I 15 (.fadr 0 (.s 3)),I 16 (.ld false 1 (.s 15)),I 17 (C Qi [(.s 14),(.s 16)]),I 13 (.mv (.s 17)),I 18 (.ext (.s 13) 0),I 19 (.ext (.s 13) 1),I 6 (.box (.v ZN)),J (.st 3 (.s 6) (.s 18)),I 7 (.mv (.s 19))])
def ZYL:PC :=
 (.reg [4,5] [I 20 (.fadr 1 (.s 6)),I 21 (.ld false 1 (.s 20)),I 22 (.mv (.s 7)),I 4 (.mv (.s 21)),I 5 (.mv (.s 22))])
def ZPq:PF:=⟨false,
 (.seq ZYH
 (.seq (.seq ZYI
 (.ite (.s 10)
 (.seq ZYJ
 .ret)
 .skip))
 (.seq ZYK
 (.seq ZYL
 .ret)))),
 [.s 4,.s 5]⟩
theorem ZeL:Zv Go.Proofs.Try.prog false ZeK Go.Proofs.Try.f63=some ZPq:=by kernel_rfl
def ZQu:List Hint:=[H [0,3],H [0,3,13],H [4,5],H [6,7],H [6,7,24],H [4,5],⟨[6,8],[0],[],[],[],[]⟩,H [6,8,27,28,29],H [6,8,27,28,29,30],H [6,8,10,27,28,29],H [6,8,27,28,29],H [6,8,27,28,29],H [8,47],H [4,5],H [4,5]]
def ZLS:PC :=
 (.reg [0,3] [I 3 (.box (.s 1)),I 4 (.mv (.v .nils)),I 5 (.mv (V 0))])
def ZLT:PC :=
 (.reg [0,3,13] [I 11 (.fadr 0 (.s 3)),I 12 (.ld false 1 (.s 11)),I 13 (.bin .eql (.s 12) (.v (.int .u64 0)))])
def ZLU:PC :=
 (.reg [4,5] [I 14 (.fadr 6 (.s 3)),I 15 (.ld false 1 (.s 14)),I 4 (.mv (.s 15)),I 5 (.mv (V 0))])
def ZLV:PC :=
 (.reg [6,7] [I 17 (.mv (.s 0)),I 18 (.fadr 0 (.s 3)),I 19 (.ld false 1 (.s 18)),I 20 (C Qi [(.s 17),(.s 19)]),I 16 (.mv (.s 20)),I 21 (.ext (.s 16) 0),I 22 (.ext (.s 16) 1),I 6 (.box (.v ZN)),J (.st 3 (.s 6) (.s 21)),I 7 (.mv (.s 22))])
def ZLW:PC :=
 (.reg [6,7,24] [I 23 (.mv (.s 7)),I 24 (.bin .neq (.s 23) (V 0))])
def ZLX:PC :=
 (.reg [4,5] [I 25 (.mv (.s 7)),I 4 (.mv (.v .nils)),I 5 (.mv (.s 25))])
def ZLY:PC :=
 (.reg [6,8] [I 8 (.onil 7)])
def ZLZ:PC :=
 (.reg [6,8,27,28,29] [I 26 (.fadr 2 (.s 6)),I 27 (.ld false 1 (.s 26)),I 28 (.len 1 (.s 27)),I 29 (.mv (V 0))])
def ZLa:PC :=
 (.reg [6,8,27,28,29,30] [I 30 (.bin .lss (.s 29) (.s 28))])
def ZLb:PC :=
 (.reg [6,8,10,27,28,29] [I 31 (.ixS 4 (.s 27) (.s 29)),I 32 (.ld true 4 (.s 31)),I 10 (.box (.v ZK)),J (.st 4 (.s 10) (.s 32))])
def ZJa:PC :=
 (.reg [6,8,27,28,29] [I 33 (.mv (.s 8)),I 34 (.fadr 0 (.s 10)),I 35 (.ld false 1 (.s 34)),I 36 (.fadr 0 (.s 6)),I 37 (.ld false 1 (.s 36)),I 38 (.bin .sub (.s 37) (V 1)),I 39 (.fadr 1 (.s 10)),I 40 (.ld true 3 (.s 39)),I 41 (.build [(.int .u64 0),(.int .i64 0),(.int .i64 0),(.int .i64 0),(.int .i64 0),(.str []),.nils] [(0,1,(.s 35)),(1,1,(.s 38)),(2,3,(.s 40))]),I 42 (.bslice false 7 [ZT] [(0,(.s 41))]),I 43 (.app 7 80 (.s 33) (.s 42)),I 8 (.mv (.s 43))])
def ZJb:PC :=
 (.reg [6,8,27,28,29] [I 44 (.bin .add (.s 29) (V 1)),I 29 (.mv (.s 44))])
def ZCa:PC :=
 (.seq ZLa
 (.seq (.ite (.s 30)
 .skip
 (.exit 0))
 (.seq (.block 1
 (.seq ZLb
 ZJa))
 ZJb)))
def ZJc:PC :=
 (.reg [8,47] [I 45 (.mv (.s 8)),I 46 (.len 1 (.s 45)),I 47 (.bin .eql (.s 46) (V 0))])
def ZJd:PC :=
 (.reg [4,5] [I 4 (.mv (.v .nils)),I 5 (.mv (V 23))])
def ZJe:PC :=
 (.reg [4,5] [I 48 (.mv (.s 8)),I 4 (.mv (.s 48)),I 5 (.mv (V 0))])
def ZFO:PF:=⟨false,
 (.seq ZLS
 (.seq (.seq ZLT
 (.ite (.s 13)
 (.seq ZLU
 .ret)
 .skip))
 (.seq ZLV
 (.seq (.seq ZLW
 (.ite (.s 24)
 (.seq ZLX
 .ret)
 .skip))
 (.seq ZLY
 (.seq (.seq ZLZ
 (.block 0
 (.loop ZCa)))
 (.seq (.seq ZJc
 (.ite (.s 47)
 (.seq ZJd
 .ret)
 .skip))
 (.seq ZJe
 .ret)))))))),
 [.s 4,.s 5]⟩
theorem ZQv:Zv Go.Proofs.Try.prog false ZQu Go.Proofs.Try.f64=some ZFO:=by kernel_rfl
def ZeM:List Hint:=[H [1],H [1,3],H [1,3,13],H [2],H [1,3,31],H [2],H [1,3,46],H [2],H [65],H [2],H [2]]
def ZYM:PC :=
 (.reg [1] [I 1 (.box (.s 0)),I 2 (.mv (V 0))])
def ZYN:PC :=
 (.reg [1,3] [I 4 (.fadr 2 (.s 1)),I 5 (.ld true 3 (.s 4)),I 6 (.build [(.int .i64 0),(.int .i64 0),(.int .i64 0)] []),I 7 (.eqs false 0 [(0,0),(1,0),(2,0)] (.s 5) (.s 6)),I 8 (.mv (.s 7)),G 9 8 true (.fadr 0 (.s 1)),G 10 8 true (.ld false 1 (.s 9)),G 11 8 true (.bin .eql (.s 10) (.v (.int .u64 0))),I 12 (.pick (.s 8) (.s 11) (.v (.bool false))),I 3 (.mv (.s 12))])
def ZYO:PC :=
 (.reg [1,3,13] [I 14 (.mv (.s 3)),I 15 (.mv (.s 14)),G 16 15 true (.fadr 1 (.s 1)),G 17 15 true (.ld false 1 (.s 16)),G 18 15 true (.bin .eql (.s 17) (V 0)),I 19 (.pick (.s 15) (.s 18) (.v (.bool false))),I 20 (.mv (.s 19)),G 21 20 true (.fadr 5 (.s 1)),G 22 20 true (.ld false 1 (.s 21)),G 23 20 true (.bin .eql (.s 22) (.v (.str []))),I 24 (.pick (.s 20) (.s 23) (.v (.bool false))),I 25 (.mv (.s 24)),G 26 25 true (.fadr 6 (.s 1)),G 27 25 true (.ld false 1 (.s 26)),G 28 25 true (.len 1 (.s 27)),G 29 25 true (.bin .eql (.s 28) (V 0)),I 30 (.pick (.s 25) (.s 29) (.v (.bool false))),I 13 (.mv (.s 30))])
def ZYP:PC :=
 (.reg [2] [I 2 (.mv (V 1))])
def ZYQ:PC :=
 (.reg [1,3,31] [I 32 (.fadr 0 (.s 1)),I 33 (.ld false 1 (.s 32)),I 34 (.bin .neq (.s 33) (.v (.int .u64 0))),I 35 (.mv (.s 34)),G 36 35 true (.fadr 5 (.s 1)),G 37 35 true (.ld false 1 (.s 36)),G 38 35 true (.bin .eql (.s 37) (.v (.str []))),I 39 (.pick (.s 35) (.s 38) (.v (.bool false))),I 40 (.mv (.s 39)),G 41 40 true (.fadr 6 (.s 1)),G 42 40 true (.ld false 1 (.s 41)),G 43 40 true (.len 1 (.s 42)),G 44 40 true (.bin .eql (.s 43) (V 0)),I 45 (.pick (.s 40) (.s 44) (.v (.bool false))),I 31 (.mv (.s 45))])
def ZYR:PC :=
 (.reg [2] [I 2 (.mv (V 2))])
def ZYS:PC :=
 (.reg [1,3,46] [I 47 (.mv (.s 3)),I 48 (.mv (.s 47)),G 49 48 true (.fadr 1 (.s 1)),G 50 48 true (.ld false 1 (.s 49)),G 51 48 true (.bin .eql (.s 50) (V 0)),I 52 (.pick (.s 48) (.s 51) (.v (.bool false))),I 53 (.mv (.s 52)),G 54 53 true (.fadr 6 (.s 1)),G 55 53 true (.ld false 1 (.s 54)),G 56 53 true (.len 1 (.s 55)),G 57 53 true (.bin .eql (.s 56) (V 0)),I 58 (.pick (.s 53) (.s 57) (.v (.bool false))),I 59 (.mv (.s 58)),G 60 59 true (.fadr 5 (.s 1)),G 61 59 true (.ld false 1 (.s 60)),G 62 59 true (.len 0 (.s 61)),G 63 59 true (.bin .leq (.s 62) (V 16)),I 64 (.pick (.s 59) (.s 63) (.v (.bool false))),I 46 (.mv (.s 64))])
def ZYT:PC :=
 (.reg [2] [I 2 (.mv (V 3))])
def ZYU:PC :=
 (.reg [65] [I 66 (.mv (.s 3)),I 67 (.mv (.s 66)),G 68 67 true (.fadr 5 (.s 1)),G 69 67 true (.ld false 1 (.s 68)),G 70 67 true (.bin .eql (.s 69) (.v (.str []))),I 71 (.pick (.s 67) (.s 70) (.v (.bool false))),I 72 (.mv (.s 71)),G 73 72 true (.fadr 1 (.s 1)),G 74 72 true (.ld false 1 (.s 73)),G 75 72 true (.bin .geq (.s 74) (V 1)),I 76 (.pick (.s 72) (.s 75) (.v (.bool false))),I 77 (.mv (.s 76)),G 78 77 true (.fadr 1 (.s 1)),G 79 77 true (.ld false 1 (.s 78)),G 80 77 true (.bin .leq (.s 79) (V 16)),I 81 (.pick (.s 77) (.s 80) (.v (.bool false))),I 82 (.mv (.s 81)),G 83 82 true (.fadr 6 (.s 1)),G 84 82 true (.ld false 1 (.s 83)),G 85 82 true (.len 1 (.s 84)),G 86 82 true (.bin .geq (.s 85) (V 2)),I 87 (.pick (.s 82) (.s 86) (.v (.bool false))),I 88 (.mv (.s 87)),G 89 88 true (.fadr 6 (.s 1)),G 90 88 true (.ld false 1 (.s 89)),G 91 88 true (.len 1 (.s 90)),G 92 88 true (.bin .leq (.s 91) (V 4)),I 93 (.pick (.s 88) (.s 92) (.v (.bool false))),I 65 (.mv (.s 93))])
def ZYV:PC :=
 (.reg [2] [I 2 (.mv (V 4))])
def ZVE:PC :=
 (.reg [2] [I 2 (.mv (V 0))])
def ZPr:PF:=⟨false,
 (.seq ZYM
 (.seq ZYN
 (.seq (.block 0
 (.seq ZYO
 (.ite (.s 13)
 (.seq ZYP
 .ret)
 (.seq ZYQ
 (.ite (.s 31)
 (.seq ZYR
 .ret)
 (.seq ZYS
 (.ite (.s 46)
 (.seq ZYT
 .ret)
 (.seq ZYU
 (.ite (.s 65)
 (.seq ZYV
 .ret)
 .skip)))))))))
 (.seq ZVE
 .ret)))),
 [.s 2]⟩
theorem ZeN:Zv Go.Proofs.Try.prog false ZeM Go.Proofs.Try.f65=some ZPr:=by kernel_rfl
def Zbz:List Hint:=[H [2,3],H [4]]
def ZVF:PC :=
 (.reg [2,3] [I 2 (.box (.s 0)),I 3 (.box (.s 1)),I 4 (.mv (.v .nilfunc))])
def ZVG:PC :=
 (.reg [4] [I 5 (.mkf (.func Ql) [] [(.s 2),(.s 3)]),I 4 (.mv (.s 5))])
def ZLc:PF:=⟨true,
 (.seq ZVF
 (.seq ZVG
 .ret)),
 [.s 4]⟩
theorem Zb0:Zv Go.Proofs.Try.prog true Zbz Go.Proofs.Try.f66=some ZLc:=by kernel_rfl
def ZHV:List Hint:=[H [0],H [0,7],H [2],H [0,3],H [3],H [3,4,5],H [3,4,5,25],H [3,4,5],H [3,4,5],H [2]]
def ZEe:PC :=
 (.reg [0] [I 2 (.mv (.v .nils))])
def ZEf:PC :=
 (.reg [0,7] [I 6 (.mv (.s 0)),I 7 (.eqs false 3 [] (.s 6) (.v .nilptr))])
def ZEg:PC :=
 (.reg [2] [I 2 (.mv (.v .nils))])
def ZEh:PC :=
 (.reg [0,3] [I 8 (.mv (.s 0)),I 9 (.nilck (.s 8)),I 10 (.fadr 0 (.s 9)),I 11 (.ld false 1 (.s 10)),I 12 (.len 1 (.s 11)),I 13 (.mkslice 1 8 (.int .i64 0) (.s 12) (.s 12)),I 3 (.mv (.s 13))])
def ZEi:PC :=
 (.reg [3] [I 14 (.mv (.s 3)),I 15 (.mv (.s 0)),I 16 (.nilck (.s 15)),I 17 (.fadr 0 (.s 16)),I 18 (.ld false 1 (.s 17)),I 19 (.cpy 1 (.s 14) (.s 18))])
def ZEj:PC :=
 (.reg [3,4,5] [I 20 (.mv (.s 3)),I 21 (.len 1 (.s 20)),I 22 (.bin .sub (.s 21) (V 1)),I 4 (.mv (V 0)),I 5 (.mv (.s 22))])
def ZEk:PC :=
 (.reg [3,4,5,25] [I 23 (.mv (.s 4)),I 24 (.mv (.s 5)),I 25 (.bin .lss (.s 23) (.s 24))])
def ZEl:PC :=
 (.reg [3,4,5] [I 30 (.mv (.s 3)),I 31 (.mv (.s 4)),I 32 (.mv (.s 3)),I 33 (.mv (.s 5)),I 34 (.mv (.s 3)),I 35 (.mv (.s 5)),I 36 (.ixS 1 (.s 34) (.s 35)),I 37 (.ld false 1 (.s 36)),I 38 (.mv (.s 3)),I 39 (.mv (.s 4)),I 40 (.ixS 1 (.s 38) (.s 39)),I 41 (.ld false 1 (.s 40)),I 42 (.ixS 1 (.s 30) (.s 31)),J (.st 1 (.s 42) (.s 37)),I 43 (.ixS 1 (.s 32) (.s 33)),J (.st 1 (.s 43) (.s 41))])
def ZEm:PC :=
 (.reg [3,4,5] [I 26 (.mv (.s 4)),I 27 (.bin .add (.s 26) (V 1)),I 28 (.mv (.s 5)),I 29 (.bin .sub (.s 28) (V 1)),I 4 (.mv (.s 27)),I 5 (.mv (.s 29))])
def ZEn:PC :=
 (.seq (.seq ZEk
 (.ite (.s 25)
 .skip
 (.exit 0)))
 (.seq (.block 1
 ZEl)
 ZEm))
def ZDa:PC :=
 (.reg [2] [I 44 (.mv (.s 3)),I 2 (.mv (.s 44))])
def ZAo:PF:=⟨false,
 (.seq ZEe
 (.seq (.seq ZEf
 (.ite (.s 7)
 (.seq ZEg
 .ret)
 .skip))
 (.seq ZEh
 (.seq ZEi
 (.seq (.seq ZEj
 (.block 0
 (.loop ZEn)))
 (.seq ZDa
 .ret)))))),
 [.s 2]⟩
theorem ZHW:Zv Go.Proofs.Try.prog false ZHV Go.Proofs.Try.f72=some ZAo:=by kernel_rfl
def ZCq:List Hint:=[H [0],H [2]]
def ZBJ:PC :=
 (.reg [0] [I 2 (.mv (.v .nils))])
def ZBK:PC :=
 (.reg [2] [I 3 (.mv (.s 0)),I 4 (C Yd [(.s 3),(.v (.int .u8 2))]),I 2 (.mv (.s 4))])
def XA:PF:=⟨false,
 (.seq ZBJ
 (.seq ZBK
 .ret)),
 [.s 2]⟩
theorem ZCr:Zv Go.Proofs.Try.prog false ZCq Go.Proofs.Try.f73=some XA:=by kernel_rfl
def ZVH:List Hint:=[H [0,3],H [0,3,5],H [0,3,5,80],H [0,3,5,95],H [0,5,6],H [0,5,6],H [5],⟨[0,3,5,7],[0],[],[],[],[]⟩,H [0,3,5,7,20,21,22],H [0,3,5,7,20,21,22,23],H [0,3,5,7,9,20,21,22],H [0,3,5,7,10,20,21,22],⟨[0,3,5,7,10,20,21,22],[2],[],[],[],[]⟩,H [0,3,5,7,10,20,21,22],H [0,3,5,7,10,20,21,22],H [0,3,5,7,20,21,22],H [0,3,5,7,20,21,22],H [5],H [4]]
def ZNc:PC :=
 (.reg [0,3] [I 3 (.box (.s 1)),I 4 (.mv (.v .nilptr))])
def ZNd:PC :=
 (.reg [0,3,5] [I 11 (.fadr 1 (.s 3)),I 12 (.ld false 1 (.s 11)),I 13 (.fadr 2 (.s 3)),I 14 (.ld true 3 (.s 13)),I 15 (.fadr 0 (.s 3)),I 16 (.ld false 1 (.s 15)),I 17 (.build [(.int .u64 0),(.int .i64 0),(.int .i64 0),(.int .i64 0),(.int .i64 0)] [(1,1,(.s 12)),(2,3,(.s 14)),(0,1,(.s 16))]),I 18 (.box (.s 17)),I 5 (.mv (.s 18))])
def ZNe:PC :=
 (.reg [0,3,5,80] [I 81 (.fadr 0 (.s 3)),I 82 (.ld false 1 (.s 81)),I 83 (.bin .neq (.s 82) (.v (.int .u64 0))),I 84 (.mv (.s 83)),G 85 84 false (.fadr 5 (.s 3)),G 86 84 false (.ld false 1 (.s 85)),G 87 84 false (.bin .eql (.s 86) (.v (.str []))),G 88 84 false (.mv (.s 87)),G 89 88 true (.fadr 6 (.s 3)),G 90 88 true (.ld false 1 (.s 89)),G 91 88 true (.len 1 (.s 90)),G 92 88 true (.bin .eql (.s 91) (V 0)),G 93 84 false (.pick (.s 88) (.s 92) (.v (.bool false))),I 94 (.pick (.s 84) (.v (.bool true)) (.s 93)),I 80 (.mv (.s 94))])
def ZNf:PC :=
 (.reg [0,3,5,95] [I 96 (.fadr 1 (.s 3)),I 97 (.ld false 1 (.s 96)),I 98 (.bin .eql (.s 97) (V 0)),I 95 (.mv (.s 98))])
def ZNg:PC :=
 (.reg [0,5,6] [I 99 (.fadr 5 (.s 3)),I 100 (.ld false 1 (.s 99)),I 101 (.build [(.int .i64 0),(.str []),.nils] [(1,1,(.s 100))]),I 6 (.box (.v ZN)),J (.st 3 (.s 6) (.s 101))])
def ZNh:PC :=
 (.reg [0,5,6] [I 103 (.mv (.s 5)),I 104 (.ld true 3 (.s 6)),I 105 (C Ys [(.s 104)]),I 102 (.mv (.s 105)),I 106 (.ext (.s 102) 0),I 107 (.ext (.s 102) 1),I 108 (.nilck (.s 103)),I 109 (.fadr 2 (.s 108)),J (.st 3 (.s 109) (.s 106))])
def ZNi:PC :=
 (.reg [5] [I 110 (.mv (.s 0)),I 111 (.mv (.s 5)),I 112 (.mkf (.func Ji) [] [(.s 6)]),I 113 (C Xt [(.s 110),(.s 111),(.s 112)])])
def ZNj:PC :=
 (.reg [0,3,5,7] [I 7 (.boxnil 1)])
def ZNk:PC :=
 (.reg [0,3,5,7,20,21,22] [I 19 (.fadr 6 (.s 3)),I 20 (.ld false 1 (.s 19)),I 21 (.len 1 (.s 20)),I 22 (.mv (V 0))])
def ZNl:PC :=
 (.reg [0,3,5,7,20,21,22,23] [I 23 (.bin .lss (.s 22) (.s 21))])
def ZLd:PC :=
 (.reg [0,3,5,7,9,20,21,22] [I 24 (.ixS 7 (.s 20) (.s 22)),I 25 (.ld true 7 (.s 24)),I 9 (.box (.v ZT)),J (.st 7 (.s 9) (.s 25))])
def ZLe:PC :=
 (.reg [0,3,5,7,10,20,21,22] [I 26 (.mv (.s 0)),I 27 (.ld true 7 (.s 9)),I 28 (C Qk [(.s 26),(.s 27)]),I 10 (.mv (.s 28))])
def ZLf:PC :=
 (.reg [0,3,5,7,10,20,21,22] [I 29 (.ld false 1 (.s 7)),I 30 (.mv (.s 10)),I 31 (.bslice true 1 [.nilptr] [(0,(.s 30))]),I 32 (.app 1 8 (.s 29) (.s 31)),J (.st 1 (.s 7) (.s 32))])
def ZC2:PC :=
 (.reg [0,3,5,7,10,20,21,22] [I 33 (.mv (.s 5)),I 34 (.nilck (.s 33)),I 35 (.fadr 2 (.s 34)),I 36 (.fadr 0 (.s 35)),I 37 (.ld false 1 (.s 36)),I 38 (.mv (.s 10)),I 39 (.nilck (.s 38)),I 40 (.fadr 2 (.s 39)),I 41 (.fadr 0 (.s 40)),I 42 (.ld false 1 (.s 41)),I 43 (.bin .add (.s 37) (.s 42)),I 44 (.nilck (.s 33)),I 45 (.fadr 2 (.s 44)),I 46 (.fadr 0 (.s 45)),J (.st 1 (.s 46) (.s 43))])
def ZC3:PC :=
 (.reg [0,3,5,7,10,20,21,22] [I 47 (.mv (.s 5)),I 48 (.nilck (.s 47)),I 49 (.fadr 2 (.s 48)),I 50 (.fadr 1 (.s 49)),I 51 (.ld false 1 (.s 50)),I 52 (.mv (.s 10)),I 53 (.nilck (.s 52)),I 54 (.fadr 2 (.s 53)),I 55 (.fadr 1 (.s 54)),I 56 (.ld false 1 (.s 55)),I 57 (.bin .add (.s 51) (.s 56)),I 58 (.nilck (.s 47)),I 59 (.fadr 2 (.s 58)),I 60 (.fadr 1 (.s 59)),J (.st 1 (.s 60) (.s 57))])
def ZC4:PC :=
 (.reg [0,3,5,7,20,21,22] [I 61 (.mv (.s 5)),I 62 (.nilck (.s 61)),I 63 (.fadr 2 (.s 62)),I 64 (.fadr 2 (.s 63)),I 65 (.ld false 1 (.s 64)),I 66 (.mv (.s 10)),I 67 (.nilck (.s 66)),I 68 (.fadr 2 (.s 67)),I 69 (.fadr 2 (.s 68)),I 70 (.ld false 1 (.s 69)),I 71 (.bin .add (.s 65) (.s 70)),I 72 (.nilck (.s 61)),I 73 (.fadr 2 (.s 72)),I 74 (.fadr 2 (.s 73)),J (.st 1 (.s 74) (.s 71))])
def ZLg:PC :=
 (.reg [0,3,5,7,20,21,22] [I 75 (.bin .add (.s 22) (V 1)),I 22 (.mv (.s 75))])
def ZLh:PC :=
 (.seq ZNl
 (.seq (.ite (.s 23)
 .skip
 (.exit 1))
 (.seq (.block 2
 (.seq ZLd
 (.seq ZLe
 (.seq ZLf
 (.seq ZC2
 (.seq ZC3
 ZC4))))))
 ZLg)))
def ZLi:PC :=
 (.reg [5] [I 76 (.mv (.s 0)),I 77 (.mv (.s 5)),I 78 (.mkf (.func JE) [] [(.s 3),(.s 7)]),I 79 (C Xt [(.s 76),(.s 77),(.s 78)])])
def ZLj:PC :=
 (.reg [4] [I 114 (.mv (.s 5)),I 4 (.mv (.s 114))])
def ZHX:PF:=⟨true,
 (.seq ZNc
 (.seq ZNd
 (.seq (.block 0
 (.seq ZNe
 (.ite (.s 80)
 .skip
 (.seq ZNf
 (.ite (.s 95)
 (.seq ZNg
 (.seq ZNh
 ZNi))
 (.seq ZNj
 (.seq (.seq ZNk
 (.block 1
 (.loop ZLh)))
 ZLi)))))))
 (.seq ZLj
 .ret)))),
 [.s 4]⟩
theorem ZVI:Zv Go.Proofs.Try.prog true ZVH Go.Proofs.Try.f75=some ZHX:=by kernel_rfl
def ZIe:List Hint:=[H [1],H [1,3,4],H [1,3,15],H [0,1,2],H [1,3,4,5],⟨[0,1,2],[],[],[],[(6,(.hide [(.s 1)])),(10,(.plain (.s 1)))],[]⟩]
def ZF9:PC :=
 (.reg [1] [I 0 (.mv (.v .nilptr)),I 1 (.box (.v ZR)),I 2 (.mv (.v (.bool false)))])
def ZGA:PC :=
 (.reg [1,3,4] [I 7 (C ZCy [(V 8),(.v (.int .u64 4))]),I 6 (.mv (.s 7)),I 8 (.ext (.s 6) 0),I 9 (.ext (.s 6) 1),I 3 (.mv (.s 8)),I 4 (.mv (.s 9))])
def ZGB:PC :=
 (.reg [1,3,15] [I 10 (.mv (.s 3)),I 11 (.eqs false 3 [] (.s 10) (.v .nilptr)),I 12 (.mv (.s 11)),G 13 12 false (.mv (.s 4)),G 14 12 false (.bin .neq (.s 13) (V 0)),I 15 (.pick (.s 12) (.v (.bool true)) (.s 14))])
def ZGC:PC :=
 (.reg [0,1,2] [I 16 (.build [(.int .u64 0),(.int .i64 0),(.int .i64 0),(.int .i64 0),(.int .i64 0)] []),I 0 (.mv (.v .nilptr)),J (.st 5 (.s 1) (.s 16)),I 2 (.mv (.v (.bool false)))])
def ZGD:PC :=
 (.reg [1,3,4,5] [I 18 (.mv (.s 3)),I 19 (C ZBk [(.s 18),(.v (.str [97,98,99,100,101,102,103,104,105,106,107,108,109,110,111,112,113]))]),I 17 (.mv (.s 19)),I 20 (.ext (.s 17) 0),I 21 (.ext (.s 17) 1),I 5 (.box (.v ZR)),J (.st 5 (.s 5) (.s 20)),I 4 (.mv (.s 21))])
def ZGE:PC :=
 (.reg [0,1,2] [I 22 (.mv (.s 3)),I 23 (.ld true 5 (.s 5)),I 24 (.mv (.s 4)),I 25 (.bin .eql (.s 24) (V 0)),I 26 (.mv (.s 25)),G 27 26 true (.fadr 0 (.s 5)),G 28 26 true (.w (.hide [(.s 1)]) (.ld false 1 (.s 27))),G 29 26 true (.bin .eql (.s 28) (.v (.int .u64 65538))),I 30 (.pick (.s 26) (.s 29) (.v (.bool false))),I 0 (.mv (.s 22)),J (.w (.plain (.s 1)) (.st 5 (.s 1) (.s 23))),I 2 (.mv (.s 30))])
def ZA8:PF:=⟨true,
 (.seq ZF9
 (.seq ZGA
 (.seq (.seq ZGB
 (.ite (.s 15)
 (.seq ZGC
 .ret)
 .skip))
 (.seq ZGD
 (.seq ZGE
 .ret))))),
 [.s 0,.c 1 true 5,.s 2]⟩
theorem ZIf:Zv Go.Proofs.Try.prog true ZIe Go.Proofs.Try.f84=some ZA8:=by kernel_rfl
def ZYW:List Hint:=[H [0,2,3,5,8],H [8,9]]
def ZQw:PC :=
 (.reg [0,2,3,5,8] [I 5 (.box (.s 1)),I 8 (.box (.v (.agg [(.int .u64 0),(.int .i64 0),(.int .i64 0),(.int .i64 0),(.int .i64 0),.nils,.nils]))),I 9 (.mv (V 0))])
def ZQx:PC :=
 (.reg [8,9] [I 10 (.mv (.s 0)),I 11 (.ld true 5 (.s 5)),I 12 (.mv (.s 2)),I 13 (.mv (.s 3)),I 14 (C Yq [(.s 10),(.s 11),(.s 12),(V 0),(.s 13)]),I 15 (.ext (.s 14) 0),I 16 (.ext (.s 14) 1),J (.st 7 (.s 8) (.s 15)),I 9 (.mv (.s 16))])
def ZIq:PF:=⟨false,
 (.seq ZQw
 (.seq ZQx
 .ret)),
 [.c 8 true 7,.s 9]⟩
theorem ZYX:Zv Go.Proofs.Try.prog false ZYW Go.Proofs.Try.f85=some ZIq:=by kernel_rfl
def ZYY:List Hint:=[H [0,1,2,6],H [0,2,6,8,9],H [0,2,6,8,9,24],H [6,7],H [0,2,6,8,10],H [0,2,6,8,10,11],H [0,6,8,10,11,29,30,31],H [0,6,8,10,11,29,30,31,32],H [0,6,8,10,11,13,29,30,31],H [0,6,8,10,11,14,15,29,30,31],H [0,6,8,10,11,14,15,29,30,31,43],H [6,7],H [0,6,8,10,11,29,30,31,46,47,48],H [0,6,8,10,11,29,30,31,46,47,48,49],H [0,6,8,10,11,17,29,30,31,46,47,48],H [0,6,8,10,11,17,29,30,31,46,47,48,55],H [0,6,8,10,11,17,29,30,31,46,47,48],H [0,6,8,10,11,29,30,31,46,47,48],H [0,6,8,10,11,29,30,31,46,47,48],H [0,6,8,10,11,29,30,31],H [6,9,10],H [6,9,10,76],H [6,7],H [6,7]]
def ZQy:PC :=
 (.reg [0,1,2,6] [I 6 (.box (.v (.agg [(.int .u64 0),(.int .i64 0),(.int .i64 0),(.int .i64 0),(.int .i64 0),.nils,.nils]))),I 7 (.mv (V 0))])
def ZQz:PC :=
 (.reg [0,2,6,8,9] [I 19 (.mv (.s 1)),I 20 (.call .norm (.s 19) []),I 18 (.mv (.s 20)),I 21 (.ext (.s 18) 0),I 22 (.ext (.s 18) 1),I 8 (.box (.v ZT)),J (.st 7 (.s 8) (.s 21)),I 9 (.mv (.s 22))])
def ZQ0:PC :=
 (.reg [0,2,6,8,9,24] [I 23 (.mv (.s 9)),I 24 (.bin .neq (.s 23) (V 0))])
def ZQ1:PC :=
 (.reg [6,7] [I 25 (.build [(.int .u64 0),(.int .i64 0),(.int .i64 0),(.int .i64 0),(.int .i64 0),.nils,.nils] []),I 26 (.mv (.s 9)),J (.st 7 (.s 6) (.s 25)),I 7 (.mv (.s 26))])
def ZQ2:PC :=
 (.reg [0,2,6,8,10] [I 27 (.build [(.int .u64 0),(.int .i64 0),(.int .i64 0),(.int .i64 0),(.int .i64 0),.nils,.nils] []),I 10 (.box (.v (.agg [(.int .u64 0),(.int .i64 0),(.int .i64 0),(.int .i64 0),(.int .i64 0),.nils,.nils]))),J (.st 7 (.s 10) (.s 27))])
def ZQ3:PC :=
 (.reg [0,2,6,8,10,11] [I 28 (.mkmap),I 11 (.mv (.s 28))])
def ZQ4:PC :=
 (.reg [0,6,8,10,11,29,30,31] [I 29 (.mv (.s 2)),I 30 (.len 1 (.s 29)),I 31 (.mv (V 0))])
def ZQ5:PC :=
 (.reg [0,6,8,10,11,29,30,31,32] [I 32 (.bin .lss (.s 31) (.s 30))])
def ZQ6:PC :=
 (.reg [0,6,8,10,11,13,29,30,31] [I 33 (.ixS 5 (.s 29) (.s 31)),I 34 (.ld true 5 (.s 33)),I 13 (.box (.v ZR)),J (.st 5 (.s 13) (.s 34))])
def ZQ7:PC :=
 (.reg [0,6,8,10,11,14,15,29,30,31] [I 36 (.mv (.s 0)),I 37 (.ld true 5 (.s 13)),I 38 (.ld true 7 (.s 8)),I 39 (C ZBn [(.s 36),(.s 37),(.s 38)]),I 35 (.mv (.s 39)),I 40 (.ext (.s 35) 0),I 41 (.ext (.s 35) 1),I 14 (.mv (.s 40)),I 15 (.mv (.s 41))])
def ZNm:PC :=
 (.reg [0,6,8,10,11,14,15,29,30,31,43] [I 42 (.mv (.s 15)),I 43 (.bin .neq (.s 42) (V 0))])
def ZNn:PC :=
 (.reg [6,7] [I 44 (.build [(.int .u64 0),(.int .i64 0),(.int .i64 0),(.int .i64 0),(.int .i64 0),.nils,.nils] []),I 45 (.mv (.s 15)),J (.st 7 (.s 6) (.s 44)),I 7 (.mv (.s 45))])
def ZNo:PC :=
 (.reg [0,6,8,10,11,29,30,31,46,47,48] [I 46 (.mv (.s 14)),I 47 (.len 1 (.s 46)),I 48 (.mv (V 0))])
def ZNp:PC :=
 (.reg [0,6,8,10,11,29,30,31,46,47,48,49] [I 49 (.bin .lss (.s 48) (.s 47))])
def ZNq:PC :=
 (.reg [0,6,8,10,11,17,29,30,31,46,47,48] [I 50 (.ixS 1 (.s 46) (.s 48)),I 51 (.ld false 1 (.s 50)),I 17 (.mv (.s 51))])
def ZNr:PC :=
 (.reg [0,6,8,10,11,17,29,30,31,46,47,48,55] [I 52 (.mv (.s 11)),I 53 (.mv (.s 17)),I 54 (.look 0 (.bool false) false (.s 52) (.s 53)),I 55 (.un .not (.s 54))])
def ZNs:PC :=
 (.reg [0,6,8,10,11,17,29,30,31,46,47,48] [I 56 (.mv (.s 11)),I 57 (.mv (.s 17)),J (.mupd 0 (.s 56) (.s 57) (.v (.bool true)))])
def ZNt:PC :=
 (.reg [0,6,8,10,11,29,30,31,46,47,48] [I 58 (.fadr 6 (.s 10)),I 59 (.ld false 1 (.s 58)),I 60 (.mv (.s 17)),I 61 (.bslice false 1 [(.int .u64 0)] [(0,(.s 60))]),I 62 (.app 1 8 (.s 59) (.s 61)),I 63 (.fadr 6 (.s 10)),J (.st 1 (.s 63) (.s 62))])
def ZNu:PC :=
 (.reg [0,6,8,10,11,29,30,31,46,47,48] [I 64 (.bin .add (.s 48) (V 1)),I 48 (.mv (.s 64))])
def p_edit_change_19:PC :=
 (.seq ZNp
 (.seq (.ite (.s 49)
 .skip
 (.exit 2))
 (.seq (.block 3
 (.seq ZNq
 (.seq ZNr
 (.ite (.s 55)
 (.seq ZNs
 ZNt)
 .skip))))
 ZNu)))
def ZNv:PC :=
 (.reg [0,6,8,10,11,29,30,31] [I 65 (.bin .add (.s 31) (V 1)),I 31 (.mv (.s 65))])
def p_edit_change_21:PC :=
 (.seq ZQ5
 (.seq (.ite (.s 32)
 .skip
 (.exit 0))
 (.seq (.block 1
 (.seq ZQ6
 (.seq ZQ7
 (.seq (.seq ZNm
 (.ite (.s 43)
 (.seq ZNn
 .ret)
 .skip))
 (.seq ZNo
 (.block 2
 (.loop p_edit_change_19)))))))
 ZNv)))
def ZNw:PC :=
 (.reg [6,9,10] [I 67 (.mv (.s 0)),I 68 (.ld true 7 (.s 8)),I 69 (C Y2 [(.s 67),(.s 68)]),I 66 (.mv (.s 69)),I 70 (.ext (.s 66) 0),I 71 (.ext (.s 66) 1),I 72 (.ext (.s 66) 2),I 73 (.fadr 0 (.s 10)),J (.st 5 (.s 73) (.s 70)),I 74 (.fadr 5 (.s 10)),J (.st 1 (.s 74) (.s 71)),I 9 (.mv (.s 72))])
def ZNx:PC :=
 (.reg [6,9,10,76] [I 75 (.mv (.s 9)),I 76 (.bin .neq (.s 75) (V 0))])
def ZNy:PC :=
 (.reg [6,7] [I 77 (.build [(.int .u64 0),(.int .i64 0),(.int .i64 0),(.int .i64 0),(.int .i64 0),.nils,.nils] []),I 78 (.mv (.s 9)),J (.st 7 (.s 6) (.s 77)),I 7 (.mv (.s 78))])
def ZNz:PC :=
 (.reg [6,7] [I 79 (.ld true 7 (.s 10)),J (.st 7 (.s 6) (.s 79)),I 7 (.mv (V 0))])
def ZIr:PF:=⟨false,
 (.seq ZQy
 (.seq ZQz
 (.seq (.seq ZQ0
 (.ite (.s 24)
 (.seq ZQ1
 .ret)
 .skip))
 (.seq ZQ2
 (.seq ZQ3
 (.seq (.seq ZQ4
 (.block 0
 (.loop p_edit_change_21)))
 (.seq (.seq ZNw
 (.seq ZNx
 (.ite (.s 76)
 (.seq ZNy
 .ret)
 .skip)))
 (.seq ZNz
 .ret)))))))),
 [.c 6 true 7,.s 7]⟩
theorem ZYZ:Zv Go.Proofs.Try.prog false ZYY Go.Proofs.Try.f86=some ZIr:=by kernel_rfl
def ZN0:List Hint:=[H [0,1,2,3,4,5],H [5,6]]
def ZJf:PC :=
 (.reg [0,1,2,3,4,5] [I 5 (.box (.v ZT)),I 6 (.mv (V 0))])
def ZJg:PC :=
 (.reg [5,6] [I 7 (.ld false 1 (.s 0)),I 8 (.ld true 5 (.s 1)),I 9 (.ld false 1 (.s 2)),I 10 (.ld false 1 (.s 3)),I 11 (.ld false 1 (.s 4)),I 12 (C ZGa [(.s 7),(.s 8),(.s 9),(.s 10),(.s 11)]),I 13 (.ext (.s 12) 0),I 14 (.ext (.s 12) 1),J (.st 7 (.s 5) (.s 13)),I 6 (.mv (.s 14))])
def ZDb:PF:=⟨false,
 (.seq ZJf
 (.seq ZJg
 .ret)),
 [.c 5 true 7,.s 6]⟩
theorem ZN1:Zv Go.Proofs.Try.prog false ZN0 Go.Proofs.Try.f87=some ZDb:=by kernel_rfl
def ZeO:List Hint:=[H [0,2,3,4,6,10],H [0,2,3,4,10,12,13],H [0,2,3,4,10,12,13,21],H [10,11],H [10,11]]
def ZYa:PC :=
 (.reg [0,2,3,4,6,10] [I 6 (.box (.s 1)),I 10 (.box (.v ZT)),I 11 (.mv (V 0))])
def ZYb:PC :=
 (.reg [0,2,3,4,10,12,13] [I 15 (.mv (.s 0)),I 16 (.ld true 5 (.s 6)),I 17 (C Jc [(.s 15),(.s 16)]),I 14 (.mv (.s 17)),I 18 (.ext (.s 14) 0),I 19 (.ext (.s 14) 1),I 12 (.box (.v ZT)),J (.st 7 (.s 12) (.s 18)),I 13 (.mv (.s 19))])
def ZYc:PC :=
 (.reg [0,2,3,4,10,12,13,21] [I 20 (.mv (.s 13)),I 21 (.bin .neq (.s 20) (V 0))])
def ZYd:PC :=
 (.reg [10,11] [I 22 (.build [(.int .u64 0),(.int .i64 0),(.int .i64 0),(.int .i64 0),(.int .i64 0),(.str []),.nils] []),I 23 (.mv (.s 13)),J (.st 7 (.s 10) (.s 22)),I 11 (.mv (.s 23))])
def ZYe:PC :=
 (.reg [10,11] [I 24 (.mv (.s 0)),I 25 (.ld true 7 (.s 12)),I 26 (.mv (.s 2)),I 27 (.mv (.s 3)),I 28 (.mv (.s 4)),I 29 (C Xr [(.s 24),(.s 25),(.s 26),(.s 27),(.s 28)]),I 30 (.ext (.s 29) 0),I 31 (.ext (.s 29) 1),J (.st 7 (.s 10) (.s 30)),I 11 (.mv (.s 31))])
def ZPs:PF:=⟨false,
 (.seq ZYa
 (.seq ZYb
 (.seq (.seq ZYc
 (.ite (.s 21)
 (.seq ZYd
 .ret)
 .skip))
 (.seq ZYe
 .ret)))),
 [.c 10 true 7,.s 11]⟩
theorem ZeP:Zv Go.Proofs.Try.prog false ZeO Go.Proofs.Try.f88=some ZPs:=by kernel_rfl
def ZQ8:List Hint:=[H [0,1,2,3],H [0,2,3,5,6],H [0,2,3,5,6,15],H [3,4],H [0,3,5,6,7],H [0,3,5,6,7,25],H [3,4],H [3,4]]
def ZLk:PC :=
 (.reg [0,1,2,3] [I 3 (.box (.v ZT)),I 4 (.mv (V 0))])
def ZLl:PC :=
 (.reg [0,2,3,5,6] [I 9 (.ld false 1 (.s 0)),I 10 (.ld true 5 (.s 1)),I 11 (C Jc [(.s 9),(.s 10)]),I 8 (.mv (.s 11)),I 12 (.ext (.s 8) 0),I 13 (.ext (.s 8) 1),I 5 (.box (.v ZT)),J (.st 7 (.s 5) (.s 12)),I 6 (.mv (.s 13))])
def ZLm:PC :=
 (.reg [0,2,3,5,6,15] [I 14 (.mv (.s 6)),I 15 (.bin .neq (.s 14) (V 0))])
def ZLn:PC :=
 (.reg [3,4] [I 16 (.build [(.int .u64 0),(.int .i64 0),(.int .i64 0),(.int .i64 0),(.int .i64 0),(.str []),.nils] []),I 17 (.mv (.s 6)),J (.st 7 (.s 3) (.s 16)),I 4 (.mv (.s 17))])
def ZLo:PC :=
 (.reg [0,3,5,6,7] [I 19 (.ld false 1 (.s 0)),I 20 (.ld true 5 (.s 2)),I 21 (C Jc [(.s 19),(.s 20)]),I 18 (.mv (.s 21)),I 22 (.ext (.s 18) 0),I 23 (.ext (.s 18) 1),I 7 (.box (.v ZT)),J (.st 7 (.s 7) (.s 22)),I 6 (.mv (.s 23))])
def ZLp:PC :=
 (.reg [0,3,5,6,7,25] [I 24 (.mv (.s 6)),I 25 (.bin .neq (.s 24) (V 0))])
def ZLq:PC :=
 (.reg [3,4] [I 26 (.build [(.int .u64 0),(.int .i64 0),(.int .i64 0),(.int .i64 0),(.int .i64 0),(.str []),.nils] []),I 27 (.mv (.s 6)),J (.st 7 (.s 3) (.s 26)),I 4 (.mv (.s 27))])
def ZLr:PC :=
 (.reg [3,4] [I 28 (.ld false 1 (.s 0)),I 29 (.ld true 7 (.s 5)),I 30 (.ld true 7 (.s 7)),I 31 (C ZDC [(.s 28),(.s 29),(.s 30)]),I 32 (.ext (.s 31) 0),I 33 (.ext (.s 31) 1),J (.st 7 (.s 3) (.s 32)),I 4 (.mv (.s 33))])
def ZFP:PF:=⟨false,
 (.seq ZLk
 (.seq ZLl
 (.seq (.seq ZLm
 (.ite (.s 15)
 (.seq ZLn
 .ret)
 .skip))
 (.seq ZLo
 (.seq (.seq ZLp
 (.ite (.s 25)
 (.seq ZLq
 .ret)
 .skip))
 (.seq ZLr
 .ret)))))),
 [.c 3 true 7,.s 4]⟩
theorem ZQ9:Zv Go.Proofs.Try.prog false ZQ8 Go.Proofs.Try.f89=some ZFP:=by kernel_rfl
def ZYf:List Hint:=[H [0,4,5,6],H [0,4,5,6,8],H [0,4,5,6,8,16],H [6,7],H [6,9,10],H [6,7]]
def ZRA:PC :=
 (.reg [0,4,5,6] [I 4 (.box (.s 1)),I 5 (.box (.s 2)),I 6 (.box (.v ZT)),I 7 (.mv (V 0))])
def ZRB:PC :=
 (.reg [0,4,5,6,8] [I 11 (.mv (.s 0)),I 12 (.ld true 7 (.s 4)),I 13 (.ld true 7 (.s 5)),I 14 (C ZGb [(.s 11),(.s 12),(.s 13),(.v (.bool true))]),I 8 (.mv (.s 14))])
def ZRC:PC :=
 (.reg [0,4,5,6,8,16] [I 15 (.mv (.s 8)),I 16 (.bin .neq (.s 15) (V 0))])
def ZRD:PC :=
 (.reg [6,7] [I 17 (.build [(.int .u64 0),(.int .i64 0),(.int .i64 0),(.int .i64 0),(.int .i64 0),(.str []),.nils] []),I 18 (.mv (.s 8)),J (.st 7 (.s 6) (.s 17)),I 7 (.mv (.s 18))])
def ZRE:PC :=
 (.reg [6,9,10] [I 20 (.mv (.s 0)),I 21 (.ld true 7 (.s 4)),I 22 (.ld true 7 (.s 5)),I 23 (C J4 [(.s 20),(.s 21),(.s 22)]),I 19 (.mv (.s 23)),I 24 (.ext (.s 19) 0),I 25 (.ext (.s 19) 1),I 9 (.box (.v ZT)),J (.st 7 (.s 9) (.s 24)),I 10 (.mv (.s 25))])
def ZRF:PC :=
 (.reg [6,7] [I 26 (.ld true 7 (.s 9)),I 27 (C ZAT [(.s 26)]),I 28 (.mv (.s 10)),J (.st 7 (.s 6) (.s 27)),I 7 (.mv (.s 28))])
def ZIs:PF:=⟨false,
 (.seq ZRA
 (.seq (.seq ZRB
 (.seq ZRC
 (.ite (.s 16)
 (.seq ZRD
 .ret)
 .skip)))
 (.seq ZRE
 (.seq ZRF
 .ret)))),
 [.c 6 true 7,.s 7]⟩
theorem ZYg:Zv Go.Proofs.Try.prog false ZYf Go.Proofs.Try.f90=some ZIs:=by kernel_rfl
def ZVJ:List Hint:=[H [0,1],H [0,1,21],H [4,5],⟨[0,6],[],[],[],[(1,(.here 1)),(5,(.here 5)),(3,(.here 3))],[3,1,5]⟩,H [0,6,31,32],H [0,6,31,32,33],H [0,6,7,31,32],H [0,6,7,31,32],H [0,6,31,32],H [0,6,31,32],H [4,5]]
def ZN2:PC :=
 (.reg [0,1] [I 4 (.mv (.v .nilptr)),I 5 (.mv (V 0))])
def ZN3:PC :=
 (.reg [0,1,21] [I 8 (.mv (.s 0)),I 9 (.bin .lss (.s 8) (V 1)),I 10 (.mv (.s 9)),G 11 10 false (.mv (.s 0)),G 12 10 false (.bin .gtr (.s 11) (V 16384)),I 13 (.pick (.s 10) (.v (.bool true)) (.s 12)),I 14 (.mv (.s 13)),G 15 14 false (.mv (.s 1)),G 16 14 false (.bin .lss (.s 15) (.v (.int .u64 1))),I 17 (.pick (.s 14) (.v (.bool true)) (.s 16)),I 18 (.mv (.s 17)),G 19 18 false (.mv (.s 1)),G 20 18 false (.bin .gtr (.s 19) (.v (.int .u64 4294967295))),I 21 (.pick (.s 18) (.v (.bool true)) (.s 20))])
def ZN4:PC :=
 (.reg [4,5] [I 4 (.mv (.v .nilptr)),I 5 (.mv (V 3))])
def ZN5:PC :=
 (.regH [3,1,5] [0,6] [I 22 (.mv (.s 0)),I 23 (.w (.here 1) (.mkslice 1 8 (.int .i64 0) (.s 22) (.s 22))),I 24 (.mv (.s 0)),I 25 (.w (.here 3) (.mkslice 1 1 (.int .u8 0) (.s 24) (.s 24))),I 26 (.mv (.s 0)),I 27 (.w (.here 5) (.mkslice 1 8 (.int .u64 0) (.s 26) (.s 26))),I 28 (.mv (.s 1)),I 29 (.build [.nils,.nils,.nils,(.int .u64 0)] [(0,1,(.s 23)),(1,1,(.s 25)),(2,1,(.s 27)),(3,1,(.s 28))]),I 30 (.box (.s 29)),I 6 (.mv (.s 30))])
def ZN6:PC :=
 (.reg [0,6,31,32] [I 31 (.mv (.s 0)),I 32 (.mv (V 0))])
def ZN7:PC :=
 (.reg [0,6,31,32,33] [I 33 (.bin .lss (.s 32) (.s 31))])
def ZN8:PC :=
 (.reg [0,6,7,31,32] [I 34 (.mv (.s 32)),I 7 (.mv (.s 34))])
def ZN9:PC :=
 (.reg [0,6,7,31,32] [I 35 (.mv (.s 6)),I 36 (.nilck (.s 35)),I 37 (.fadr 0 (.s 36)),I 38 (.ld false 1 (.s 37)),I 39 (.mv (.s 7)),I 40 (.mv (.s 0)),I 41 (.bin .sub (.s 40) (V 1)),I 42 (.mv (.s 7)),I 43 (.bin .sub (.s 41) (.s 42)),I 44 (.ixS 1 (.s 38) (.s 39)),J (.st 1 (.s 44) (.s 43))])
def ZOA:PC :=
 (.reg [0,6,31,32] [I 45 (.mv (.s 6)),I 46 (.nilck (.s 45)),I 47 (.fadr 2 (.s 46)),I 48 (.ld false 1 (.s 47)),I 49 (.mv (.s 7)),I 50 (.ixS 1 (.s 48) (.s 49)),J (.st 1 (.s 50) (.v (.int .u64 1)))])
def ZOB:PC :=
 (.reg [0,6,31,32] [I 51 (.bin .add (.s 32) (V 1)),I 32 (.mv (.s 51))])
def ZLs:PC :=
 (.seq ZN7
 (.seq (.ite (.s 33)
 .skip
 (.exit 0))
 (.seq (.block 1
 (.seq ZN8
 (.seq ZN9
 ZOA)))
 ZOB)))
def ZLt:PC :=
 (.reg [4,5] [I 52 (.mv (.s 6)),I 4 (.mv (.s 52)),I 5 (.mv (V 0))])
def ZHY:PF:=⟨true,
 (.seq ZN2
 (.seq (.seq ZN3
 (.ite (.s 21)
 (.seq ZN4
 .ret)
 .skip))
 (.seq ZN5
 (.seq (.seq ZN6
 (.block 0
 (.loop ZLs)))
 (.seq ZLt
 .ret))))),
 [.s 4,.s 5]⟩
theorem ZVK:Zv Go.Proofs.Try.prog true ZVJ Go.Proofs.Try.f91=some ZHY:=by kernel_rfl
def ZVL:List Hint:=[H [0],⟨[0,3],[0],[],[],[],[]⟩,H [0,3,8,9,10],H [0,3,8,9,10,11],H [0,3,5,8,9,10],H [0,3,5,8,9,10],H [0,3,8,9,10],H [0,3,8,9,10],H [2]]
def ZOC:PC :=
 (.reg [0] [I 2 (.mv (.v .nils))])
def ZOD:PC :=
 (.reg [0,3] [I 3 (.onil 1)])
def ZOE:PC :=
 (.reg [0,3,8,9,10] [I 6 (.mv (.s 0)),I 7 (.len 0 (.s 6)),I 8 (C ZAf [(.s 7),(V 16)]),I 9 (.len 1 (.s 8)),I 10 (.mv (V 0))])
def ZOF:PC :=
 (.reg [0,3,8,9,10,11] [I 11 (.bin .lss (.s 10) (.s 9))])
def ZOG:PC :=
 (.reg [0,3,5,8,9,10] [I 12 (.ixS 1 (.s 8) (.s 10)),I 13 (.ld false 1 (.s 12)),I 5 (.mv (.s 13))])
def ZOH:PC :=
 (.reg [0,3,5,8,9,10] [I 14 (.mv (.s 3)),I 15 (.mv (.s 0)),I 16 (.mv (.s 5)),I 17 (.slcS (.s 15) none (some (.s 16))),I 18 (.bslice false 1 [(.str [])] [(0,(.s 17))]),I 19 (.app 1 16 (.s 14) (.s 18)),I 3 (.mv (.s 19))])
def ZOI:PC :=
 (.reg [0,3,8,9,10] [I 20 (.mv (.s 0)),I 21 (.mv (.s 5)),I 22 (.slcS (.s 20) (some (.s 21)) none),I 0 (.mv (.s 22))])
def ZOJ:PC :=
 (.reg [0,3,8,9,10] [I 23 (.bin .add (.s 10) (V 1)),I 10 (.mv (.s 23))])
def ZOK:PC :=
 (.seq ZOF
 (.seq (.ite (.s 11)
 .skip
 (.exit 0))
 (.seq (.block 1
 (.seq ZOG
 (.seq ZOH
 ZOI)))
 ZOJ)))
def ZOL:PC :=
 (.reg [2] [I 24 (.mv (.s 3)),I 2 (.mv (.s 24))])
def ZHZ:PF:=⟨false,
 (.seq ZOC
 (.seq ZOD
 (.seq (.seq ZOE
 (.block 0
 (.loop ZOK)))
 (.seq ZOL
 .ret)))),
 [.s 2]⟩
theorem ZVM:Zv Go.Proofs.Try.prog false ZVL Go.Proofs.Try.f93=some ZHZ:=by kernel_rfl
def Zb1:List Hint:=[H [0,1],H [0,1,11],H [4,5],H [0,1,13],H [4,5],H [4,5]]
def ZVN:PC :=
 (.reg [0,1] [I 4 (.mv (.v .nils)),I 5 (.mv (V 0))])
def ZVO:PC :=
 (.reg [0,1,11] [I 6 (.mv (.s 0)),I 7 (.bin .lss (.s 6) (V 0)),I 8 (.mv (.s 7)),G 9 8 false (.mv (.s 1)),G 10 8 false (.bin .lss (.s 9) (V 1)),I 11 (.pick (.s 8) (.v (.bool true)) (.s 10))])
def ZVP:PC :=
 (.reg [4,5] [I 4 (.mv (.v .nils)),I 5 (.mv (V 2))])
def ZVQ:PC :=
 (.reg [0,1,13] [I 12 (.mv (.s 0)),I 13 (.bin .gtr (.s 12) (V 65536))])
def ZVR:PC :=
 (.reg [4,5] [I 4 (.mv (.v .nils)),I 5 (.mv (V 5))])
def ZVS:PC :=
 (.reg [4,5] [I 14 (.mv (.s 0)),I 15 (.mv (.s 1)),I 16 (C ZAf [(.s 14),(.s 15)]),I 4 (.mv (.s 16)),I 5 (.mv (V 0))])
def ZLu:PF:=⟨false,
 (.seq ZVN
 (.seq (.seq ZVO
 (.ite (.s 11)
 (.seq ZVP
 .ret)
 .skip))
 (.seq (.seq ZVQ
 (.ite (.s 13)
 (.seq ZVR
 .ret)
 .skip))
 (.seq ZVS
 .ret)))),
 [.s 4,.s 5]⟩
theorem Zb2:Zv Go.Proofs.Try.prog false Zb1 Go.Proofs.Try.f94=some ZLu:=by kernel_rfl
def Zb3:List Hint:=[H [0,2],H [0,2,3],H [2],H [0,2,8],H [2],⟨[2],[],[],[],[(7,.app0),(5,.imm)],[]⟩]
def ZVT:PC :=
 (.reg [0,2] [I 2 (.box (.v ZT))])
def ZVU:PC :=
 (.reg [0,2,3] [I 4 (.mv (.s 0)),I 5 (.len 1 (.s 4)),I 6 (.bin .eql (.s 5) (V 0)),I 3 (.mv (.s 6))])
def ZVV:PC :=
 (.reg [2] [I 7 (.build [(.int .u64 0),(.int .i64 0),(.int .i64 0),(.int .i64 0),(.int .i64 0),(.str []),.nils] []),J (.st 7 (.s 2) (.s 7))])
def ZVW:PC :=
 (.reg [0,2,8] [I 9 (.mv (.s 0)),I 10 (.len 1 (.s 9)),I 11 (.bin .eql (.s 10) (V 1)),I 8 (.mv (.s 11))])
def ZVX:PC :=
 (.reg [2] [I 12 (.mv (.s 0)),I 13 (.ixS 7 (.s 12) (V 0)),I 14 (.ld true 7 (.s 13)),J (.st 7 (.s 2) (.s 14))])
def ZVY:PC :=
 (.reg [2] [I 15 (.mv (.s 0)),I 16 (.ixS 7 (.s 15) (V 0)),I 17 (.fadr 1 (.s 16)),I 18 (.ld false 1 (.s 17)),I 19 (.bin .add (.s 18) (V 1)),I 20 (.w .imm (.bslice false 7 [] [])),I 21 (.mv (.s 0)),I 22 (.w .app0 (.app 7 80 (.s 20) (.s 21))),I 23 (.build [(.int .u64 0),(.int .i64 0),(.int .i64 0),(.int .i64 0),(.int .i64 0),(.str []),.nils] [(1,1,(.s 19)),(6,1,(.s 22))]),J (.st 7 (.s 2) (.s 23))])
def ZLv:PF:=⟨false,
 (.seq ZVT
 (.seq (.block 0
 (.seq ZVU
 (.ite (.s 3)
 (.seq ZVV
 .ret)
 (.seq ZVW
 (.ite (.s 8)
 (.seq ZVX
 .ret)
 .skip)))))
 (.seq ZVY
 .ret))),
 [.c 2 true 7]⟩
theorem Zb4:Zv Go.Proofs.Try.prog false Zb3 Go.Proofs.Try.f95=some ZLv:=by kernel_rfl
def ZeQ:List Hint:=[H [0,1,2,7],H [2,7,9,10],H [2,7,9,10,19],H [8],H [2,7,9,10,11],H [38],H [8],H [8]]
def ZYh:PC :=
 (.reg [0,1,2,7] [I 7 (.box (.s 3)),I 8 (.mv (V 0))])
def ZYi:PC :=
 (.reg [2,7,9,10] [I 13 (.mv (.s 0)),I 14 (.mv (.s 1)),I 15 (C Qi [(.s 13),(.s 14)]),I 12 (.mv (.s 15)),I 16 (.ext (.s 12) 0),I 17 (.ext (.s 12) 1),I 9 (.box (.v ZN)),J (.st 3 (.s 9) (.s 16)),I 10 (.mv (.s 17))])
def ZYj:PC :=
 (.reg [2,7,9,10,19] [I 18 (.mv (.s 10)),I 19 (.bin .neq (.s 18) (V 0))])
def ZYk:PC :=
 (.reg [8] [I 20 (.mv (.s 10)),I 8 (.mv (.s 20))])
def ZYl:PC :=
 (.reg [2,7,9,10,11] [I 22 (.ld true 3 (.s 9)),I 23 (C Ys [(.s 22)]),I 21 (.mv (.s 23)),I 24 (.ext (.s 21) 0),I 25 (.ext (.s 21) 1),I 11 (.box (.v ZM)),J (.st 3 (.s 11) (.s 24)),I 10 (.mv (.s 25))])
def ZYm:PC :=
 (.reg [38] [I 26 (.mv (.s 10)),I 27 (.bin .neq (.s 26) (V 0)),I 28 (.mv (.s 27)),G 29 28 false (.fadr 0 (.s 9)),G 30 28 false (.ld false 1 (.s 29)),G 31 28 false (.mv (.s 2)),G 32 28 false (.bin .neq (.s 30) (.s 31)),I 33 (.pick (.s 28) (.v (.bool true)) (.s 32)),I 34 (.mv (.s 33)),G 35 34 false (.ld true 3 (.s 11)),G 36 34 false (.ld true 3 (.s 7)),G 37 34 false (.eqs true 0 [(0,0),(1,0),(2,0)] (.s 35) (.s 36)),I 38 (.pick (.s 34) (.v (.bool true)) (.s 37))])
def ZYn:PC :=
 (.reg [8] [I 8 (.mv (V 23))])
def ZYo:PC :=
 (.reg [8] [I 8 (.mv (V 0))])
def ZPt:PF:=⟨false,
 (.seq ZYh
 (.seq ZYi
 (.seq (.seq ZYj
 (.ite (.s 19)
 (.seq ZYk
 .ret)
 .skip))
 (.seq ZYl
 (.seq (.seq ZYm
 (.ite (.s 38)
 (.seq ZYn
 .ret)
 .skip))
 (.seq ZYo
 .ret)))))),
 [.s 8]⟩
theorem ZeR:Zv Go.Proofs.Try.prog false ZeQ Go.Proofs.Try.f96=some ZPt:=by kernel_rfl
def Zb5:List Hint:=[H [1],H [1,3],H [3,14,15,16],H [3,14,15,16,17],H [3,5,14,15,16],H [3,14,15,16],H [3,14,15,16],H [2]]
def ZVZ:PC :=
 (.reg [1] [I 1 (.box (.s 0)),I 2 (.mv (V 0))])
def ZVa:PC :=
 (.reg [1,3] [I 6 (.fadr 2 (.s 1)),I 7 (.fadr 0 (.s 6)),I 8 (.ld false 1 (.s 7)),I 9 (.fadr 5 (.s 1)),I 10 (.ld false 1 (.s 9)),I 11 (.len 0 (.s 10)),I 12 (.bin .add (.s 8) (.s 11)),I 3 (.mv (.s 12))])
def ZVb:PC :=
 (.reg [3,14,15,16] [I 13 (.fadr 6 (.s 1)),I 14 (.ld false 1 (.s 13)),I 15 (.len 1 (.s 14)),I 16 (.mv (V 0))])
def ZVc:PC :=
 (.reg [3,14,15,16,17] [I 17 (.bin .lss (.s 16) (.s 15))])
def ZVd:PC :=
 (.reg [3,5,14,15,16] [I 18 (.ixS 7 (.s 14) (.s 16)),I 19 (.ld true 7 (.s 18)),I 5 (.box (.v ZT)),J (.st 7 (.s 5) (.s 19))])
def ZVe:PC :=
 (.reg [3,14,15,16] [I 20 (.mv (.s 3)),I 21 (.ld true 7 (.s 5)),I 22 (C QT [(.s 21)]),I 23 (.bin .add (.s 20) (.s 22)),I 3 (.mv (.s 23))])
def ZVf:PC :=
 (.reg [3,14,15,16] [I 24 (.bin .add (.s 16) (V 1)),I 16 (.mv (.s 24))])
def ZVg:PC :=
 (.seq ZVc
 (.seq (.ite (.s 17)
 .skip
 (.exit 0))
 (.seq (.block 1
 (.seq ZVd
 ZVe))
 ZVf)))
def ZVh:PC :=
 (.reg [2] [I 25 (.mv (.s 3)),I 2 (.mv (.s 25))])
def ZLw:PF:=⟨false,
 (.seq ZVZ
 (.seq ZVa
 (.seq (.seq ZVb
 (.block 0
 (.loop ZVg)))
 (.seq ZVh
 .ret)))),
 [.s 2]⟩
theorem Zb6:Zv Go.Proofs.Try.prog false Zb5 Go.Proofs.Try.f97=some ZLw:=by kernel_rfl
def Zfz:List Hint:=[H [1,2],H [1,2,9],H [1,2],H [2],H [1,2,3],H [1,2,3,17,18,19],H [1,2,3,17,18,19,20],H [1,2,3,4,5,17,18,19],H [1,2,3,17,18,19],H [1,2,3,17,18,19],H [1,2],H [2]]
def Zb7:PC :=
 (.reg [1,2] [I 1 (.box (.s 0)),I 2 (.box (.v ZT))])
def Zb8:PC :=
 (.reg [1,2,9] [I 6 (.fadr 6 (.s 1)),I 7 (.ld false 1 (.s 6)),I 8 (.len 1 (.s 7)),I 9 (.bin .eql (.s 8) (V 0))])
def Zb9:PC :=
 (.reg [1,2] [I 10 (.fadr 6 (.s 1)),J (.st 1 (.s 10) (.v .nils))])
def ZcA:PC :=
 (.reg [2] [I 11 (.ld true 7 (.s 1)),J (.st 7 (.s 2) (.s 11))])
def ZcB:PC :=
 (.reg [1,2,3] [I 12 (.fadr 6 (.s 1)),I 13 (.ld false 1 (.s 12)),I 14 (.len 1 (.s 13)),I 15 (.mkslice 7 80 ZT (.s 14) (.s 14)),I 3 (.mv (.s 15))])
def ZcC:PC :=
 (.reg [1,2,3,17,18,19] [I 16 (.fadr 6 (.s 1)),I 17 (.ld false 1 (.s 16)),I 18 (.len 1 (.s 17)),I 19 (.mv (V 0))])
def ZcD:PC :=
 (.reg [1,2,3,17,18,19,20] [I 20 (.bin .lss (.s 19) (.s 18))])
def ZcE:PC :=
 (.reg [1,2,3,4,5,17,18,19] [I 21 (.mv (.s 19)),I 22 (.ixS 7 (.s 17) (.s 19)),I 23 (.ld true 7 (.s 22)),I 5 (.box (.v ZT)),I 4 (.mv (.s 21)),J (.st 7 (.s 5) (.s 23))])
def ZcF:PC :=
 (.reg [1,2,3,17,18,19] [I 24 (.mv (.s 3)),I 25 (.mv (.s 4)),I 26 (.ld true 7 (.s 5)),I 27 (C ZAT [(.s 26)]),I 28 (.ixS 7 (.s 24) (.s 25)),J (.st 7 (.s 28) (.s 27))])
def ZcG:PC :=
 (.reg [1,2,3,17,18,19] [I 29 (.bin .add (.s 19) (V 1)),I 19 (.mv (.s 29))])
def ZYp:PC :=
 (.seq ZcD
 (.seq (.ite (.s 20)
 .skip
 (.exit 0))
 (.seq (.block 1
 (.seq ZcE
 ZcF))
 ZcG)))
def ZYq:PC :=
 (.reg [1,2] [I 30 (.mv (.s 3)),I 31 (.fadr 6 (.s 1)),J (.st 1 (.s 31) (.s 30))])
def ZYr:PC :=
 (.reg [2] [I 32 (.ld true 7 (.s 1)),J (.st 7 (.s 2) (.s 32))])
def ZVi:PF:=⟨false,
 (.seq Zb7
 (.seq (.seq Zb8
 (.ite (.s 9)
 (.seq Zb9
 (.seq ZcA
 .ret))
 .skip))
 (.seq ZcB
 (.seq (.seq ZcC
 (.block 0
 (.loop ZYp)))
 (.seq ZYq
 (.seq ZYr
 .ret)))))),
 [.c 2 true 7]⟩
theorem Zf0:Zv Go.Proofs.Try.prog false Zfz Go.Proofs.Try.f98=some ZVi:=by kernel_rfl
def Zf1:List Hint:=[H [0,2,4,6,7],H [0,2,4,6,7,18],⟨[6,7,8],[],[],[],[(1,(.hide [(.s 6)])),(2,(.plain (.s 6)))],[]⟩,H [0,2,4,6,7,24],H [6,7,8],H [0,2,4,6,7,29],H [2,6,7,9,10],H [2,6,7,9,10,37],H [6,7,8],H [6,7,10,11,12],H [6,7,8],H [0,2,6,7,8,13],H [0,2,6,7,8,13,60],H [6,7,8],H [0,2,6,7,13,14],H [0,2,6,7,13,14,77],H [0,2,6,7,13,14],H [0,2,6,7,13,14],H [0,2,6,7,13,14,88],⟨[6,7,8],[],[(3,.pure)],[],[],[]⟩,H [0,6,7,8,13,14,15,16],H [0,6,7,8,13,14,15,16,109],H [6,7,8],⟨[0,6,7,8,13,14,16],[],[(4,.pure)],[],[],[]⟩,H [0,6,7,8,13,14,16,124],H [6,7,8],⟨[6,7,8],[],[(6,.pure)],[],[],[]⟩,H [6,7,8,140],H [6,7,8],⟨[6,7,8],[],[],[],[(1,(.hide [(.s 6)])),(2,(.plain (.s 6)))],[]⟩]
def ZcH:PC :=
 (.reg [0,2,4,6,7] [I 4 (.box (.s 1)),I 6 (.box (.v ZT)),I 7 (.box (.v ZT)),I 8 (.mv (V 0))])
def ZcI:PC :=
 (.reg [0,2,4,6,7,18] [I 17 (.mv (.s 2)),I 18 (.bin .eql (.s 17) (V 0))])
def ZcJ:PC :=
 (.reg [6,7,8] [I 19 (.build [(.int .u64 0),(.int .i64 0),(.int .i64 0),(.int .i64 0),(.int .i64 0),(.str []),.nils] []),I 20 (.w (.hide [(.s 6)]) (.ld true 7 (.s 4))),J (.w (.plain (.s 6)) (.st 7 (.s 6) (.s 19))),J (.st 7 (.s 7) (.s 20)),I 8 (.mv (V 0))])
def ZcK:PC :=
 (.reg [0,2,4,6,7,24] [I 21 (.mv (.s 2)),I 22 (.ld true 7 (.s 4)),I 23 (C QT [(.s 22)]),I 24 (.bin .eql (.s 21) (.s 23))])
def ZcL:PC :=
 (.reg [6,7,8] [I 25 (.ld true 7 (.s 4)),I 26 (.build [(.int .u64 0),(.int .i64 0),(.int .i64 0),(.int .i64 0),(.int .i64 0),(.str []),.nils] []),J (.st 7 (.s 6) (.s 25)),J (.st 7 (.s 7) (.s 26)),I 8 (.mv (V 0))])
def ZcM:PC :=
 (.reg [0,2,4,6,7,29] [I 27 (.fadr 1 (.s 4)),I 28 (.ld false 1 (.s 27)),I 29 (.bin .eql (.s 28) (V 0))])
def ZcN:PC :=
 (.reg [2,6,7,9,10] [I 31 (.mv (.s 0)),I 32 (.ld true 7 (.s 4)),I 33 (C Xk [(.s 31),(.s 32)]),I 30 (.mv (.s 33)),I 34 (.ext (.s 30) 0),I 35 (.ext (.s 30) 1),I 9 (.mv (.s 34)),I 10 (.mv (.s 35))])
def ZcO:PC :=
 (.reg [2,6,7,9,10,37] [I 36 (.mv (.s 10)),I 37 (.bin .neq (.s 36) (V 0))])
def ZcP:PC :=
 (.reg [6,7,8] [I 38 (.build [(.int .u64 0),(.int .i64 0),(.int .i64 0),(.int .i64 0),(.int .i64 0),(.str []),.nils] []),I 39 (.build [(.int .u64 0),(.int .i64 0),(.int .i64 0),(.int .i64 0),(.int .i64 0),(.str []),.nils] []),I 40 (.mv (.s 10)),J (.st 7 (.s 6) (.s 38)),J (.st 7 (.s 7) (.s 39)),I 8 (.mv (.s 40))])
def ZcQ:PC :=
 (.reg [6,7,10,11,12] [I 42 (.mv (.s 9)),I 43 (.mv (.s 2)),I 44 (C ZGc [(.s 42),(.s 43)]),I 41 (.mv (.s 44)),I 45 (.ext (.s 41) 0),I 46 (.ext (.s 41) 1),I 47 (.ext (.s 41) 2),I 11 (.mv (.s 45)),I 12 (.mv (.s 46)),I 10 (.mv (.s 47))])
def ZYs:PC :=
 (.reg [6,7,8] [I 48 (.mv (.s 11)),I 49 (.build [(.int .u64 0),(.int .i64 0),(.int .i64 0),(.int .i64 0),(.int .i64 0),(.str []),.nils] [(5,1,(.s 48))]),I 50 (.mv (.s 12)),I 51 (.build [(.int .u64 0),(.int .i64 0),(.int .i64 0),(.int .i64 0),(.int .i64 0),(.str []),.nils] [(5,1,(.s 50))]),I 52 (.mv (.s 10)),J (.st 7 (.s 6) (.s 49)),J (.st 7 (.s 7) (.s 51)),I 8 (.mv (.s 52))])
def ZYt:PC :=
 (.reg [0,2,6,7,8,13] [I 54 (.mv (.s 0)),I 55 (.ld true 7 (.s 4)),I 56 (C Ju [(.s 54),(.s 55)]),I 53 (.mv (.s 56)),I 57 (.ext (.s 53) 0),I 58 (.ext (.s 53) 1),I 13 (.mv (.s 57)),I 8 (.mv (.s 58))])
def ZYu:PC :=
 (.reg [0,2,6,7,8,13,60] [I 59 (.mv (.s 8)),I 60 (.bin .neq (.s 59) (V 0))])
def ZYv:PC :=
 (.reg [6,7,8] [I 61 (.build [(.int .u64 0),(.int .i64 0),(.int .i64 0),(.int .i64 0),(.int .i64 0),(.str []),.nils] []),I 62 (.build [(.int .u64 0),(.int .i64 0),(.int .i64 0),(.int .i64 0),(.int .i64 0),(.str []),.nils] []),I 63 (.mv (.s 8)),J (.st 7 (.s 6) (.s 61)),J (.st 7 (.s 7) (.s 62)),I 8 (.mv (.s 63))])
def ZYw:PC :=
 (.reg [0,2,6,7,13,14] [I 14 (.mv (V 0))])
def ZYx:PC :=
 (.reg [0,2,6,7,13,14,77] [I 64 (.mv (.s 14)),I 65 (.bin .add (.s 64) (V 1)),I 66 (.mv (.s 13)),I 67 (.len 1 (.s 66)),I 68 (.bin .lss (.s 65) (.s 67)),I 69 (.mv (.s 68)),G 70 69 true (.mv (.s 2)),G 71 69 true (.mv (.s 13)),G 72 69 true (.mv (.s 14)),G 73 69 true (.ixS 7 (.s 71) (.s 72)),G 74 69 true (.ld true 7 (.s 73)),G 75 69 true (C QT [(.s 74)]),G 76 69 true (.bin .geq (.s 70) (.s 75)),I 77 (.pick (.s 69) (.s 76) (.v (.bool false)))])
def ZYy:PC :=
 (.reg [0,2,6,7,13,14] [I 78 (.mv (.s 2)),I 79 (.mv (.s 13)),I 80 (.mv (.s 14)),I 81 (.ixS 7 (.s 79) (.s 80)),I 82 (.ld true 7 (.s 81)),I 83 (C QT [(.s 82)]),I 84 (.bin .sub (.s 78) (.s 83)),I 2 (.mv (.s 84))])
def ZYz:PC :=
 (.reg [0,2,6,7,13,14] [I 85 (.mv (.s 14)),I 86 (.bin .add (.s 85) (V 1)),I 14 (.mv (.s 86))])
def ZIt:PC :=
 (.seq (.seq ZYx
 (.ite (.s 77)
 .skip
 (.exit 0)))
 (.block 1
 (.seq ZYy
 ZYz)))
def ZY0:PC :=
 (.reg [0,2,6,7,13,14,88] [I 87 (.mv (.s 2)),I 88 (.bin .eql (.s 87) (V 0))])
def ZY1:PC :=
 (.reg [6,7,8] [I 89 (.mv (.s 13)),I 90 (.mv (.s 14)),I 91 (.slc 7 (.s 89) none (some (.s 90))),I 92 (.call .pure (.v (.func (.func QK) [] [])) [(.s 91)]),I 93 (.mv (.s 13)),I 94 (.mv (.s 14)),I 95 (.slc 7 (.s 93) (some (.s 94)) none),I 96 (C QK [(.s 95)]),J (.st 7 (.s 6) (.s 92)),J (.st 7 (.s 7) (.s 96)),I 8 (.mv (V 0))])
def ZY2:PC :=
 (.reg [0,6,7,8,13,14,15,16] [I 98 (.mv (.s 0)),I 99 (.mv (.s 13)),I 100 (.mv (.s 14)),I 101 (.ixS 7 (.s 99) (.s 100)),I 102 (.ld true 7 (.s 101)),I 103 (.mv (.s 2)),I 104 (C ZAU [(.s 98),(.s 102),(.s 103)]),I 97 (.mv (.s 104)),I 105 (.ext (.s 97) 0),I 106 (.ext (.s 97) 1),I 107 (.ext (.s 97) 2),I 15 (.box (.v ZT)),I 16 (.box (.v ZT)),J (.st 7 (.s 15) (.s 105)),J (.st 7 (.s 16) (.s 106)),I 8 (.mv (.s 107))])
def ZY3:PC :=
 (.reg [0,6,7,8,13,14,15,16,109] [I 108 (.mv (.s 8)),I 109 (.bin .neq (.s 108) (V 0))])
def ZY4:PC :=
 (.reg [6,7,8] [I 110 (.build [(.int .u64 0),(.int .i64 0),(.int .i64 0),(.int .i64 0),(.int .i64 0),(.str []),.nils] []),I 111 (.build [(.int .u64 0),(.int .i64 0),(.int .i64 0),(.int .i64 0),(.int .i64 0),(.str []),.nils] []),I 112 (.mv (.s 8)),J (.st 7 (.s 6) (.s 110)),J (.st 7 (.s 7) (.s 111)),I 8 (.mv (.s 112))])
def ZY5:PC :=
 (.reg [0,6,7,8,13,14,16] [I 114 (.mv (.s 0)),I 115 (.mv (.s 13)),I 116 (.mv (.s 14)),I 117 (.slc 7 (.s 115) none (some (.s 116))),I 118 (.call .pure (.v (.func (.func QK) [] [])) [(.s 117)]),I 119 (.ld true 7 (.s 15)),I 120 (C J4 [(.s 114),(.s 118),(.s 119)]),I 113 (.mv (.s 120)),I 121 (.ext (.s 113) 0),I 122 (.ext (.s 113) 1),J (.st 7 (.s 6) (.s 121)),I 8 (.mv (.s 122))])
def ZY6:PC :=
 (.reg [0,6,7,8,13,14,16,124] [I 123 (.mv (.s 8)),I 124 (.bin .neq (.s 123) (V 0))])
def ZY7:PC :=
 (.reg [6,7,8] [I 125 (.build [(.int .u64 0),(.int .i64 0),(.int .i64 0),(.int .i64 0),(.int .i64 0),(.str []),.nils] []),I 126 (.build [(.int .u64 0),(.int .i64 0),(.int .i64 0),(.int .i64 0),(.int .i64 0),(.str []),.nils] []),I 127 (.mv (.s 8)),J (.st 7 (.s 6) (.s 125)),J (.st 7 (.s 7) (.s 126)),I 8 (.mv (.s 127))])
def ZY8:PC :=
 (.reg [6,7,8] [I 129 (.mv (.s 0)),I 130 (.ld true 7 (.s 16)),I 131 (.mv (.s 13)),I 132 (.mv (.s 14)),I 133 (.bin .add (.s 132) (V 1)),I 134 (.slc 7 (.s 131) (some (.s 133)) none),I 135 (.call .pure (.v (.func (.func QK) [] [])) [(.s 134)]),I 136 (C J4 [(.s 129),(.s 130),(.s 135)]),I 128 (.mv (.s 136)),I 137 (.ext (.s 128) 0),I 138 (.ext (.s 128) 1),J (.st 7 (.s 7) (.s 137)),I 8 (.mv (.s 138))])
def ZY9:PC :=
 (.reg [6,7,8,140] [I 139 (.mv (.s 8)),I 140 (.bin .neq (.s 139) (V 0))])
def ZZA:PC :=
 (.reg [6,7,8] [I 141 (.build [(.int .u64 0),(.int .i64 0),(.int .i64 0),(.int .i64 0),(.int .i64 0),(.str []),.nils] []),I 142 (.build [(.int .u64 0),(.int .i64 0),(.int .i64 0),(.int .i64 0),(.int .i64 0),(.str []),.nils] []),I 143 (.mv (.s 8)),J (.st 7 (.s 6) (.s 141)),J (.st 7 (.s 7) (.s 142)),I 8 (.mv (.s 143))])
def ZZB:PC :=
 (.reg [6,7,8] [I 144 (.ld true 7 (.s 6)),I 145 (.w (.hide [(.s 6)]) (.ld true 7 (.s 7))),J (.w (.plain (.s 6)) (.st 7 (.s 6) (.s 144))),J (.st 7 (.s 7) (.s 145)),I 8 (.mv (V 0))])
def ZVj:PF:=⟨false,
 (.seq ZcH
 (.seq (.seq ZcI
 (.ite (.s 18)
 (.seq ZcJ
 .ret)
 .skip))
 (.seq (.seq ZcK
 (.ite (.s 24)
 (.seq ZcL
 .ret)
 .skip))
 (.seq (.seq ZcM
 (.ite (.s 29)
 (.seq ZcN
 (.seq (.seq ZcO
 (.ite (.s 37)
 (.seq ZcP
 .ret)
 .skip))
 (.seq ZcQ
 (.seq ZYs
 .ret))))
 .skip))
 (.seq ZYt
 (.seq (.seq ZYu
 (.ite (.s 60)
 (.seq ZYv
 .ret)
 .skip))
 (.seq ZYw
 (.seq (.block 0
 (.loop ZIt))
 (.seq (.seq ZY0
 (.ite (.s 88)
 (.seq ZY1
 .ret)
 .skip))
 (.seq ZY2
 (.seq (.seq ZY3
 (.ite (.s 109)
 (.seq ZY4
 .ret)
 .skip))
 (.seq (.seq ZY5
 (.seq ZY6
 (.ite (.s 124)
 (.seq ZY7
 .ret)
 .skip)))
 (.seq (.seq ZY8
 (.seq ZY9
 (.ite (.s 140)
 (.seq ZZA
 .ret)
 .skip)))
 (.seq ZZB
 .ret)))))))))))))),
 [.c 6 true 7,.c 7 true 7,.s 8]⟩
theorem Zf2:Zv Go.Proofs.Try.prog false Zf1 Go.Proofs.Try.f99=some ZVj:=by kernel_rfl
def ZZC:List Hint:=[H [0,4,5,6],H [0,4,5,6,12],H [6,7],H [0,4,5,6,16],H [6,7],H [6,8,9],H [6,8,9,26],H [6,7],H [6,7]]
def ZRG:PC :=
 (.reg [0,4,5,6] [I 4 (.box (.s 1)),I 5 (.box (.s 2)),I 6 (.box (.v ZT)),I 7 (.mv (V 0))])
def ZRH:PC :=
 (.reg [0,4,5,6,12] [I 10 (.ld true 7 (.s 4)),I 11 (C QS [(.s 10)]),I 12 (.bin .eql (.s 11) (V 1))])
def ZRI:PC :=
 (.reg [6,7] [I 13 (.ld true 7 (.s 5)),J (.st 7 (.s 6) (.s 13)),I 7 (.mv (V 0))])
def ZRJ:PC :=
 (.reg [0,4,5,6,16] [I 14 (.ld true 7 (.s 5)),I 15 (C QS [(.s 14)]),I 16 (.bin .eql (.s 15) (V 1))])
def ZRK:PC :=
 (.reg [6,7] [I 17 (.ld true 7 (.s 4)),J (.st 7 (.s 6) (.s 17)),I 7 (.mv (V 0))])
def ZRL:PC :=
 (.reg [6,8,9] [I 19 (.mv (.s 0)),I 20 (.ld true 7 (.s 4)),I 21 (.ld true 7 (.s 5)),I 22 (C Xu [(.s 19),(.s 20),(.s 21)]),I 18 (.mv (.s 22)),I 23 (.ext (.s 18) 0),I 24 (.ext (.s 18) 1),I 8 (.mv (.s 23)),I 9 (.mv (.s 24))])
def ZRM:PC :=
 (.reg [6,8,9,26] [I 25 (.mv (.s 9)),I 26 (.bin .neq (.s 25) (V 0))])
def ZRN:PC :=
 (.reg [6,7] [I 27 (.build [(.int .u64 0),(.int .i64 0),(.int .i64 0),(.int .i64 0),(.int .i64 0),(.str []),.nils] []),I 28 (.mv (.s 9)),J (.st 7 (.s 6) (.s 27)),I 7 (.mv (.s 28))])
def ZRO:PC :=
 (.reg [6,7] [I 29 (.mv (.s 8)),I 30 (C QK [(.s 29)]),J (.st 7 (.s 6) (.s 30)),I 7 (.mv (V 0))])
def ZIu:PF:=⟨false,
 (.seq ZRG
 (.seq (.seq ZRH
 (.ite (.s 12)
 (.seq ZRI
 .ret)
 .skip))
 (.seq (.seq ZRJ
 (.ite (.s 16)
 (.seq ZRK
 .ret)
 .skip))
 (.seq ZRL
 (.seq (.seq ZRM
 (.ite (.s 26)
 (.seq ZRN
 .ret)
 .skip))
 (.seq ZRO
 .ret)))))),
 [.c 6 true 7,.s 7]⟩
theorem ZZD:Zv Go.Proofs.Try.prog false ZZC Go.Proofs.Try.f100=some ZIu:=by kernel_rfl
def ZcR:List Hint:=[H [0,2,3,5],H [0,2,3,5,9],H [0,2,5,9,30],H [8],H [0,2,5,32],H [0,2,5,10],H [0,2,5,10,42],H [8],H [0,5,54],H [8],H [0,5,56,57,58],H [0,5,56,57,58,59],H [0,5,12,56,57,58],H [0,5,13,56,57,58],H [0,5,13,56,57,58,69],H [8],H [0,5,56,57,58],H [8]]
def ZVk:PC :=
 (.reg [0,2,3,5] [I 5 (.box (.s 1)),I 8 (.mv (V 0))])
def ZVl:PC :=
 (.reg [0,2,3,5,9] [I 14 (.ld true 7 (.s 5)),I 15 (C QS [(.s 14)]),I 9 (.mv (.s 15))])
def ZVm:PC :=
 (.reg [0,2,5,9,30] [I 16 (.mv (.s 9)),I 17 (.bin .eql (.s 16) (V 0)),I 18 (.mv (.s 17)),G 19 18 false (.mv (.s 9)),G 20 18 false (.bin .eql (.s 19) (V 1)),I 21 (.pick (.s 18) (.v (.bool true)) (.s 20)),I 22 (.mv (.s 21)),G 23 22 false (.mv (.s 2)),G 24 22 false (.mv (.s 23)),G 25 24 true (.fadr 1 (.s 5)),G 26 24 true (.ld false 1 (.s 25)),G 27 24 true (.mv (.s 3)),G 28 24 true (.bin .neq (.s 26) (.s 27)),G 29 22 false (.pick (.s 24) (.s 28) (.v (.bool false))),I 30 (.pick (.s 22) (.v (.bool true)) (.s 29))])
def ZVn:PC :=
 (.reg [8] [I 8 (.mv (V 23))])
def ZVo:PC :=
 (.reg [0,2,5,32] [I 31 (.mv (.s 9)),I 32 (.bin .eql (.s 31) (V 2))])
def ZVp:PC :=
 (.reg [0,2,5,10] [I 33 (.mv (.s 0)),I 34 (.fadr 0 (.s 5)),I 35 (.ld false 1 (.s 34)),I 36 (.fadr 1 (.s 5)),I 37 (.ld false 1 (.s 36)),I 38 (.fadr 2 (.s 5)),I 39 (.ld true 3 (.s 38)),I 40 (C ZCz [(.s 33),(.s 35),(.s 37),(.s 39)]),I 10 (.mv (.s 40))])
def ZVq:PC :=
 (.reg [0,2,5,10,42] [I 41 (.mv (.s 10)),I 42 (.bin .neq (.s 41) (V 0))])
def ZVr:PC :=
 (.reg [8] [I 43 (.mv (.s 10)),I 8 (.mv (.s 43))])
def ZVs:PC :=
 (.reg [0,5,54] [I 44 (.mv (.s 2)),I 45 (.mv (.s 44)),G 46 45 true (.fadr 1 (.s 5)),G 47 45 true (.ld false 1 (.s 46)),G 48 45 true (.bin .eql (.s 47) (V 0)),I 49 (.pick (.s 45) (.s 48) (.v (.bool false))),I 50 (.mv (.s 49)),G 51 50 true (.ld true 7 (.s 5)),G 52 50 true (C QT [(.s 51)]),G 53 50 true (.bin .lss (.s 52) (V 8)),I 54 (.pick (.s 50) (.s 53) (.v (.bool false)))])
def ZVt:PC :=
 (.reg [8] [I 8 (.mv (V 23))])
def ZRP:PC :=
 (.reg [0,5,56,57,58] [I 55 (.fadr 6 (.s 5)),I 56 (.ld false 1 (.s 55)),I 57 (.len 1 (.s 56)),I 58 (.mv (V 0))])
def ZRQ:PC :=
 (.reg [0,5,56,57,58,59] [I 59 (.bin .lss (.s 58) (.s 57))])
def ZRR:PC :=
 (.reg [0,5,12,56,57,58] [I 60 (.ixS 7 (.s 56) (.s 58)),I 61 (.ld true 7 (.s 60)),I 12 (.box (.v ZT)),J (.st 7 (.s 12) (.s 61))])
def ZRS:PC :=
 (.reg [0,5,13,56,57,58] [I 62 (.mv (.s 0)),I 63 (.ld true 7 (.s 12)),I 64 (.fadr 1 (.s 5)),I 65 (.ld false 1 (.s 64)),I 66 (.bin .sub (.s 65) (V 1)),I 67 (C ZBH [(.s 62),(.s 63),(.v (.bool true)),(.s 66)]),I 13 (.mv (.s 67))])
def ZRT:PC :=
 (.reg [0,5,13,56,57,58,69] [I 68 (.mv (.s 13)),I 69 (.bin .neq (.s 68) (V 0))])
def ZRU:PC :=
 (.reg [8] [I 70 (.mv (.s 13)),I 8 (.mv (.s 70))])
def ZRV:PC :=
 (.reg [0,5,56,57,58] [I 71 (.bin .add (.s 58) (V 1)),I 58 (.mv (.s 71))])
def ZFQ:PC :=
 (.seq ZRQ
 (.seq (.ite (.s 59)
 .skip
 (.exit 0))
 (.seq (.block 1
 (.seq ZRR
 (.seq ZRS
 (.seq ZRT
 (.ite (.s 69)
 (.seq ZRU
 .ret)
 .skip)))))
 ZRV)))
def ZRW:PC :=
 (.reg [8] [I 8 (.mv (V 0))])
def ZLx:PF:=⟨false,
 (.seq ZVk
 (.seq ZVl
 (.seq (.seq ZVm
 (.ite (.s 30)
 (.seq ZVn
 .ret)
 .skip))
 (.seq (.seq ZVo
 (.ite (.s 32)
 (.seq ZVp
 (.seq ZVq
 (.ite (.s 42)
 (.seq ZVr
 .ret)
 .skip)))
 .skip))
 (.seq (.seq ZVs
 (.ite (.s 54)
 (.seq ZVt
 .ret)
 .skip))
 (.seq (.seq ZRP
 (.block 0
 (.loop ZFQ)))
 (.seq ZRW
 .ret))))))),
 [.s 8]⟩
theorem ZcS:Zv Go.Proofs.Try.prog false ZcR Go.Proofs.Try.f101=some ZLx:=by kernel_rfl
def ZVu:List Hint:=[H [1,2,3],H [1,2,3,4],H [2,4],H [2,4,8],H []]
def ZOM:PC :=
 (.reg [1,2,3] [I 3 (.box (.s 0))])
def ZON:PC :=
 (.reg [1,2,3,4] [I 4 (.box (.v .nilfunc))])
def ZOO:PC :=
 (.reg [2,4] [I 5 (.mkf (.func J8) [] [(.s 1),(.s 3),(.s 4)]),J (.st 1 (.s 4) (.s 5))])
def ZOP:PC :=
 (.reg [2,4,8] [I 6 (.fadr 0 (.s 2)),I 7 (.ld false 1 (.s 6)),I 8 (.bin .neq (.s 7) (.v (.int .u64 0)))])
def ZOQ:PC :=
 (.reg [] [I 9 (.ld false 1 (.s 4)),I 10 (.fadr 0 (.s 2)),I 11 (.ld false 1 (.s 10)),I 12 (.call .norm (.s 9) [(.s 11)])])
def ZHa:PF:=⟨false,
 (.seq ZOM
 (.seq ZON
 (.seq ZOO
 (.seq ZOP
 (.ite (.s 8)
 ZOQ
 .skip))))),
 []⟩
theorem ZVv:Zv Go.Proofs.Try.prog false ZVu Go.Proofs.Try.f102=some ZHa:=by kernel_rfl
def ZOR:List Hint:=[H [0,1,2,3],H [0,2,3,6,7],H [3,6,26],H [5],H [3,28,29,30],H [3,28,29,30,31],H [3,9,28,29,30],H [3,28,29,30,38],H [5],H [3,28,29,30],H [5]]
def ZJh:PC :=
 (.reg [0,1,2,3] [I 5 (.mv (.v (.bool false)))])
def ZJi:PC :=
 (.reg [0,2,3,6,7] [I 11 (.ld false 1 (.s 1)),I 12 (.mv (.s 0)),I 13 (C Qi [(.s 11),(.s 12)]),I 10 (.mv (.s 13)),I 14 (.ext (.s 10) 0),I 15 (.ext (.s 10) 1),I 6 (.box (.v ZN)),J (.st 3 (.s 6) (.s 14)),I 7 (.mv (.s 15))])
def ZJj:PC :=
 (.reg [3,6,26] [I 16 (.ld false 1 (.s 2)),I 17 (.mv (.s 0)),I 18 (.ld true 3 (.s 6)),I 19 (.mv (.s 7)),I 20 (.build [(.int .i64 0),(.str []),.nils,(.int .i64 0)] [(0,3,(.s 18)),(3,1,(.s 19))]),I 21 (.call .norm (.s 16) [(.s 17),(.s 20)]),I 22 (.un .not (.s 21)),I 23 (.mv (.s 22)),G 24 23 false (.mv (.s 7)),G 25 23 false (.bin .neq (.s 24) (V 0)),I 26 (.pick (.s 23) (.v (.bool true)) (.s 25))])
def ZJk:PC :=
 (.reg [5] [I 5 (.mv (.v (.bool false)))])
def ZJl:PC :=
 (.reg [3,28,29,30] [I 27 (.fadr 2 (.s 6)),I 28 (.ld false 1 (.s 27)),I 29 (.len 1 (.s 28)),I 30 (.mv (V 0))])
def ZJm:PC :=
 (.reg [3,28,29,30,31] [I 31 (.bin .lss (.s 30) (.s 29))])
def ZJn:PC :=
 (.reg [3,9,28,29,30] [I 32 (.ixS 4 (.s 28) (.s 30)),I 33 (.ld true 4 (.s 32)),I 9 (.box (.v ZK)),J (.st 4 (.s 9) (.s 33))])
def ZJo:PC :=
 (.reg [3,28,29,30,38] [I 34 (.ld false 1 (.s 3)),I 35 (.fadr 0 (.s 9)),I 36 (.ld false 1 (.s 35)),I 37 (.call .norm (.s 34) [(.s 36)]),I 38 (.un .not (.s 37))])
def ZJp:PC :=
 (.reg [5] [I 5 (.mv (.v (.bool false)))])
def ZJq:PC :=
 (.reg [3,28,29,30] [I 39 (.bin .add (.s 30) (V 1)),I 30 (.mv (.s 39))])
def ZIg:PC :=
 (.seq ZJm
 (.seq (.ite (.s 31)
 .skip
 (.exit 0))
 (.seq (.block 1
 (.seq ZJn
 (.seq ZJo
 (.ite (.s 38)
 (.seq ZJp
 .ret)
 .skip))))
 ZJq)))
def ZIh:PC :=
 (.reg [5] [I 5 (.mv (.v (.bool true)))])
def ZDc:PF:=⟨false,
 (.seq ZJh
 (.seq ZJi
 (.seq (.seq ZJj
 (.ite (.s 26)
 (.seq ZJk
 .ret)
 .skip))
 (.seq (.seq ZJl
 (.block 0
 (.loop ZIg)))
 (.seq ZIh
 .ret))))),
 [.s 5]⟩
theorem ZOS:Zv Go.Proofs.Try.prog false ZOR Go.Proofs.Try.f103=some ZDc:=by kernel_rfl
def ZGF:List Hint:=[H [0,1],⟨[0,1,5],[0],[],[],[],[]⟩,H [0,1,5,9],H [4],H [1,5,14,15,16],H [1,5,14,15,16,17],H [1,5,6,7,14,15,16],H [1,5,6,14,15,16,23],H [1,5,14,15,16],H [1,5,14,15,16],H [4]]
def ZDd:PC :=
 (.reg [0,1] [I 4 (.mv (.v .nils))])
def ZDe:PC :=
 (.reg [0,1,5] [I 5 (.onil 1)])
def ZDf:PC :=
 (.reg [0,1,5,9] [I 8 (.mv (.s 0)),I 9 (.eqs false 3 [] (.s 8) (.v .nilptr))])
def ZDg:PC :=
 (.reg [4] [I 10 (.mv (.s 5)),I 4 (.mv (.s 10))])
def ZDh:PC :=
 (.reg [1,5,14,15,16] [I 11 (.mv (.s 0)),I 12 (.nilck (.s 11)),I 13 (.fadr 1 (.s 12)),I 14 (.ld false 1 (.s 13)),I 15 (.len 1 (.s 14)),I 16 (.mv (V 0))])
def ZDi:PC :=
 (.reg [1,5,14,15,16,17] [I 17 (.bin .lss (.s 16) (.s 15))])
def ZDj:PC :=
 (.reg [1,5,6,7,14,15,16] [I 18 (.mv (.s 16)),I 19 (.ixS 1 (.s 14) (.s 16)),I 20 (.ld false 1 (.s 19)),I 6 (.mv (.s 18)),I 7 (.mv (.s 20))])
def ZDk:PC :=
 (.reg [1,5,6,14,15,16,23] [I 21 (.mv (.s 7)),I 22 (.mv (.s 1)),I 23 (.bin .eql (.s 21) (.s 22))])
def ZDl:PC :=
 (.reg [1,5,14,15,16] [I 24 (.mv (.s 5)),I 25 (.mv (.s 6)),I 26 (.bslice false 1 [(.int .i64 0)] [(0,(.s 25))]),I 27 (.app 1 8 (.s 24) (.s 26)),I 5 (.mv (.s 27))])
def ZDm:PC :=
 (.reg [1,5,14,15,16] [I 28 (.bin .add (.s 16) (V 1)),I 16 (.mv (.s 28))])
def ZDJ:PC :=
 (.seq ZDi
 (.seq (.ite (.s 17)
 .skip
 (.exit 0))
 (.seq (.block 1
 (.seq ZDj
 (.seq ZDk
 (.ite (.s 23)
 ZDl
 .skip))))
 ZDm)))
def ZDK:PC :=
 (.reg [4] [I 29 (.mv (.s 5)),I 4 (.mv (.s 29))])
def ZAI:PF:=⟨false,
 (.seq ZDd
 (.seq ZDe
 (.seq (.seq ZDf
 (.ite (.s 9)
 (.seq ZDg
 .ret)
 .skip))
 (.seq (.seq ZDh
 (.block 0
 (.loop ZDJ)))
 (.seq ZDK
 .ret))))),
 [.s 4]⟩
theorem ZGG:Zv Go.Proofs.Try.prog false ZGF Go.Proofs.Try.f107=some ZAI:=by kernel_rfl
def ZVw:List Hint:=[H [1,2],H [1,2,4],H [1,2,4,8],H [2,3],H [2,3]]
def ZOT:PC :=
 (.reg [1,2] [I 1 (.box (.s 0)),I 2 (.box (.v ZM)),I 3 (.mv (V 0))])
def ZOU:PC :=
 (.reg [1,2,4] [I 5 (.ld true 3 (.s 1)),I 6 (C ZBI [(.s 5)]),I 4 (.mv (.s 6))])
def ZOV:PC :=
 (.reg [1,2,4,8] [I 7 (.mv (.s 4)),I 8 (.bin .neq (.s 7) (V 0))])
def ZOW:PC :=
 (.reg [2,3] [I 9 (.build [(.int .i64 0),(.int .i64 0),(.int .i64 0)] []),I 10 (.mv (.s 4)),J (.st 3 (.s 2) (.s 9)),I 3 (.mv (.s 10))])
def ZOX:PC :=
 (.reg [2,3] [I 11 (.ld true 3 (.s 1)),I 12 (C ZBo [(.s 11)]),J (.st 3 (.s 2) (.s 12)),I 3 (.mv (V 0))])
def ZHb:PF:=⟨false,
 (.seq ZOT
 (.seq (.seq ZOU
 (.seq ZOV
 (.ite (.s 8)
 (.seq ZOW
 .ret)
 .skip)))
 (.seq ZOX
 .ret))),
 [.c 2 true 3,.s 3]⟩
theorem ZVx:Zv Go.Proofs.Try.prog false ZVw Go.Proofs.Try.f109=some ZHb:=by kernel_rfl
def ZVy:List Hint:=[H [3,4,5],⟨[],[6],[],[],[(0,(.only (.s 3))),(7,(.grow (.s 3)))],[]⟩]
def ZOY:PC :=
 (.reg [3,4,5] [I 3 (.box (.s 0)),I 4 (.box (.s 1)),I 5 (.box (.s 2))])
def ZOZ:PC :=
 (.reg [] [I 6 (.w (.only (.s 3)) (.ld false 1 (.s 3))),I 7 (.ld false 1 (.s 3)),I 8 (.nilck (.s 7)),I 9 (.fadr 1 (.s 8)),I 10 (.ld false 1 (.s 9)),I 11 (.mkf (.func Y4) [] [(.s 3),(.s 5),(.s 4)]),I 12 (.bslice true 1 [.nilfunc] [(0,(.s 11))]),I 13 (.w (.grow (.s 3)) (.app 1 8 (.s 10) (.s 12))),I 14 (.nilck (.s 6)),I 15 (.fadr 1 (.s 14)),J (.st 1 (.s 15) (.s 13))])
def ZHc:PF:=⟨true,
 (.seq ZOY
 ZOZ),
 []⟩
theorem ZVz:Zv Go.Proofs.Try.prog true ZVy Go.Proofs.Try.f110=some ZHc:=by kernel_rfl
def ZOa:List Hint:=[H [0,1],H [1]]
def ZJr:PC :=
 (.reg [0,1] [I 1 (.box (.v ZN))])
def ZJs:PC :=
 (.reg [1] [I 2 (.ld true 3 (.s 0)),J (.st 3 (.s 1) (.s 2))])
def ZDn:PF:=⟨false,
 (.seq ZJr
 (.seq ZJs
 .ret)),
 [.c 1 true 3]⟩
theorem ZOb:Zv Go.Proofs.Try.prog false ZOa Go.Proofs.Try.f111=some ZDn:=by kernel_rfl
def ZOc:List Hint:=[H [0,1,2],H [1,2,3],H [2,3,9,10,11],H [2,3,9,10,11,12],H [2,3,5,9,10,11],⟨[2,3,9,10,11],[],[],[],[(11,.imm)],[]⟩,H [2,3,9,10,11],H [2]]
def ZJt:PC :=
 (.reg [0,1,2] [I 2 (.box (.v ZN))])
def ZJu:PC :=
 (.reg [1,2,3] [I 6 (.fadr 1 (.s 0)),I 7 (.ld false 1 (.s 6)),I 8 (.build [(.int .i64 0),(.str []),.nils] [(0,1,(.s 7))]),I 3 (.box (.v ZN)),J (.st 3 (.s 3) (.s 8))])
def ZJv:PC :=
 (.reg [2,3,9,10,11] [I 9 (.ld false 1 (.s 1)),I 10 (.len 1 (.s 9)),I 11 (.mv (V 0))])
def ZJw:PC :=
 (.reg [2,3,9,10,11,12] [I 12 (.bin .lss (.s 11) (.s 10))])
def ZJx:PC :=
 (.reg [2,3,5,9,10,11] [I 13 (.ixS 1 (.s 9) (.s 11)),I 14 (.ld false 1 (.s 13)),I 5 (.mv (.s 14))])
def ZJy:PC :=
 (.reg [2,3,9,10,11] [I 15 (.fadr 2 (.s 3)),I 16 (.ld false 1 (.s 15)),I 17 (.mv (.s 5)),I 18 (.nilck (.s 17)),I 19 (.fadr 0 (.s 18)),I 20 (.ld false 1 (.s 19)),I 21 (.mv (.s 5)),I 22 (.nilck (.s 21)),I 23 (.fadr 2 (.s 22)),I 24 (.ld true 3 (.s 23)),I 25 (.build [(.int .u64 0),(.int .i64 0),(.int .i64 0),(.int .i64 0)] [(0,1,(.s 20)),(1,3,(.s 24))]),I 26 (.w .imm (.bslice false 4 [ZK] [(0,(.s 25))])),I 27 (.app 4 32 (.s 16) (.s 26)),I 28 (.fadr 2 (.s 3)),J (.st 1 (.s 28) (.s 27))])
def ZJz:PC :=
 (.reg [2,3,9,10,11] [I 29 (.bin .add (.s 11) (V 1)),I 11 (.mv (.s 29))])
def ZJ0:PC :=
 (.seq ZJw
 (.seq (.ite (.s 12)
 .skip
 (.exit 0))
 (.seq (.block 1
 (.seq ZJx
 ZJy))
 ZJz)))
def ZJ1:PC :=
 (.reg [2] [I 30 (.ld true 3 (.s 3)),J (.st 3 (.s 2) (.s 30))])
def ZDo:PF:=⟨false,
 (.seq ZJt
 (.seq ZJu
 (.seq (.seq ZJv
 (.block 0
 (.loop ZJ0)))
 (.seq ZJ1
 .ret)))),
 [.c 2 true 3]⟩
theorem ZOd:Zv Go.Proofs.Try.prog false ZOc Go.Proofs.Try.f112=some ZDo:=by kernel_rfl
def ZV0:List Hint:=[H [0,4,5],H [0,4,5,9],H [0,4,5,9,24],H [6,7],H [0,4,5,10],H [0,4,5,10,30],H [6,7],H [0,4,5,11],H [0,4,11,34,35,36],H [0,4,11,34,35,36,37],H [0,4,11,13,34,35,36],H [0,4,11,14,34,35,36],H [0,4,11,14,34,35,36,45],H [6,7],H [0,4,11,34,35,36],⟨[0,4,11,15],[0],[],[],[],[]⟩,H [0,4,11,15,50],H [6,7],H [15,16],H [15,16,58],H [6,7],H [6,7]]
def ZOe:PC :=
 (.reg [0,4,5] [I 4 (.box (.s 1)),I 5 (.box (.s 2)),I 6 (.mv (.v .nils)),I 7 (.mv (V 0))])
def ZOf:PC :=
 (.reg [0,4,5,9] [I 18 (.mv (.s 0)),I 19 (.ld true 5 (.s 4)),I 20 (C Jc [(.s 18),(.s 19)]),I 17 (.mv (.s 20)),I 21 (.ext (.s 17) 0),I 22 (.ext (.s 17) 1),I 8 (.box (.v ZT)),J (.st 7 (.s 8) (.s 21)),I 9 (.mv (.s 22))])
def ZOg:PC :=
 (.reg [0,4,5,9,24] [I 23 (.mv (.s 9)),I 24 (.bin .neq (.s 23) (V 0))])
def ZOh:PC :=
 (.reg [6,7] [I 25 (.mv (.s 9)),I 6 (.mv (.v .nils)),I 7 (.mv (.s 25))])
def ZOi:PC :=
 (.reg [0,4,5,10] [I 26 (.mv (.s 0)),I 27 (.ld true 7 (.s 5)),I 28 (C Ja [(.s 26),(.s 27)]),I 10 (.mv (.s 28))])
def ZOj:PC :=
 (.reg [0,4,5,10,30] [I 29 (.mv (.s 10)),I 30 (.bin .neq (.s 29) (V 0))])
def ZOk:PC :=
 (.reg [6,7] [I 31 (.mv (.s 10)),I 6 (.mv (.v .nils)),I 7 (.mv (.s 31))])
def ZOl:PC :=
 (.reg [0,4,5,11] [I 32 (.mkmap),I 11 (.box (.v .nilmap)),J (.st 1 (.s 11) (.s 32))])
def ZOm:PC :=
 (.reg [0,4,11,34,35,36] [I 33 (.ld true 7 (.s 5)),I 34 (C ZGd [(.s 33)]),I 35 (.len 1 (.s 34)),I 36 (.mv (V 0))])
def ZOn:PC :=
 (.reg [0,4,11,34,35,36,37] [I 37 (.bin .lss (.s 36) (.s 35))])
def ZLy:PC :=
 (.reg [0,4,11,13,34,35,36] [I 38 (.ixS 1 (.s 34) (.s 36)),I 39 (.ld false 1 (.s 38)),I 13 (.mv (.s 39))])
def ZLz:PC :=
 (.reg [0,4,11,14,34,35,36] [I 40 (.mv (.s 0)),I 41 (.mv (.s 13)),I 42 (.ld false 1 (.s 11)),I 43 (C JJ [(.s 40),(.s 41),(.s 42),(.v (.func (.func J9) [] []))]),I 14 (.mv (.s 43))])
def ZL0:PC :=
 (.reg [0,4,11,14,34,35,36,45] [I 44 (.mv (.s 14)),I 45 (.bin .neq (.s 44) (V 0))])
def ZL1:PC :=
 (.reg [6,7] [I 46 (.mv (.s 14)),I 6 (.mv (.v .nils)),I 7 (.mv (.s 46))])
def ZL2:PC :=
 (.reg [0,4,11,34,35,36] [I 47 (.bin .add (.s 36) (V 1)),I 36 (.mv (.s 47))])
def ZL3:PC :=
 (.seq ZOn
 (.seq (.ite (.s 37)
 .skip
 (.exit 0))
 (.seq (.block 1
 (.seq ZLy
 (.seq ZLz
 (.seq ZL0
 (.ite (.s 45)
 (.seq ZL1
 .ret)
 .skip)))))
 ZL2)))
def ZL4:PC :=
 (.reg [0,4,11,15] [I 15 (.boxnil 1)])
def ZL5:PC :=
 (.reg [0,4,11,15,50] [I 48 (.fadr 0 (.s 4)),I 49 (.ld false 1 (.s 48)),I 50 (.bin .eql (.s 49) (.v (.int .u64 0)))])
def ZL6:PC :=
 (.reg [6,7] [I 6 (.mv (.v .nils)),I 7 (.mv (V 0))])
def ZL7:PC :=
 (.reg [15,16] [I 51 (.mv (.s 0)),I 52 (.fadr 0 (.s 4)),I 53 (.ld false 1 (.s 52)),I 54 (.mkmap),I 55 (.mkf (.func YA) [] [(.s 11),(.s 15)]),I 56 (C JJ [(.s 51),(.s 53),(.s 54),(.s 55)]),I 16 (.mv (.s 56))])
def ZL8:PC :=
 (.reg [15,16,58] [I 57 (.mv (.s 16)),I 58 (.bin .neq (.s 57) (V 0))])
def ZL9:PC :=
 (.reg [6,7] [I 59 (.mv (.s 16)),I 6 (.mv (.v .nils)),I 7 (.mv (.s 59))])
def ZMA:PC :=
 (.reg [6,7] [I 60 (.ld false 1 (.s 15)),I 6 (.mv (.s 60)),I 7 (.mv (V 0))])
def ZHd:PF:=⟨false,
 (.seq ZOe
 (.seq (.seq ZOf
 (.seq ZOg
 (.ite (.s 24)
 (.seq ZOh
 .ret)
 .skip)))
 (.seq (.seq ZOi
 (.seq ZOj
 (.ite (.s 30)
 (.seq ZOk
 .ret)
 .skip)))
 (.seq ZOl
 (.seq (.seq ZOm
 (.block 0
 (.loop ZL3)))
 (.seq ZL4
 (.seq (.seq ZL5
 (.ite (.s 50)
 (.seq ZL6
 .ret)
 .skip))
 (.seq ZL7
 (.seq (.seq ZL8
 (.ite (.s 58)
 (.seq ZL9
 .ret)
 .skip))
 (.seq ZMA
 .ret)))))))))),
 [.s 6,.s 7]⟩
theorem ZV1:Zv Go.Proofs.Try.prog false ZV0 Go.Proofs.Try.f118=some ZHd:=by kernel_rfl
def ZeS:List Hint:=[H [0,3,5,6],H [0,3,5,6,14,15,16],H [0,3,5,6,14,15,16,17],H [0,3,5,6,10,14,15,16],H [0,3,5,6,11,14,15,16],H [0,3,5,6,11,14,15,16,24],H [8],H [0,3,5,6,14,15,16],H [5,6,38],H [8],⟨[44],[],[(1,.pure)],[],[],[]⟩,H [8],H [8]]
def ZZE:PC :=
 (.reg [0,3,5,6] [I 5 (.box (.s 1)),I 6 (.box (.s 2)),I 8 (.mv (V 0))])
def ZZF:PC :=
 (.reg [0,3,5,6,14,15,16] [I 12 (.ld true 7 (.s 5)),I 13 (.ld true 7 (.s 6)),I 14 (.bslice false 7 [ZT,ZT] [(0,(.s 12)),(1,(.s 13))]),I 15 (.len 1 (.s 14)),I 16 (.mv (V 0))])
def ZZG:PC :=
 (.reg [0,3,5,6,14,15,16,17] [I 17 (.bin .lss (.s 16) (.s 15))])
def ZZH:PC :=
 (.reg [0,3,5,6,10,14,15,16] [I 18 (.ixS 7 (.s 14) (.s 16)),I 19 (.ld true 7 (.s 18)),I 10 (.box (.v ZT)),J (.st 7 (.s 10) (.s 19))])
def ZZI:PC :=
 (.reg [0,3,5,6,11,14,15,16] [I 20 (.mv (.s 0)),I 21 (.ld true 7 (.s 10)),I 22 (C Ja [(.s 20),(.s 21)]),I 11 (.mv (.s 22))])
def ZZJ:PC :=
 (.reg [0,3,5,6,11,14,15,16,24] [I 23 (.mv (.s 11)),I 24 (.bin .neq (.s 23) (V 0))])
def ZZK:PC :=
 (.reg [8] [I 25 (.mv (.s 11)),I 8 (.mv (.s 25))])
def ZZL:PC :=
 (.reg [0,3,5,6,14,15,16] [I 26 (.bin .add (.s 16) (V 1)),I 16 (.mv (.s 26))])
def ZZM:PC :=
 (.seq ZZG
 (.seq (.ite (.s 17)
 .skip
 (.exit 0))
 (.seq (.block 1
 (.seq ZZH
 (.seq ZZI
 (.seq ZZJ
 (.ite (.s 24)
 (.seq ZZK
 .ret)
 .skip)))))
 ZZL)))
def ZZN:PC :=
 (.reg [5,6,38] [I 27 (.mv (.s 3)),I 28 (.un .not (.s 27)),I 29 (.mv (.s 28)),G 30 29 true (.ld true 7 (.s 5)),G 31 29 true (C QS [(.s 30)]),G 32 29 true (.bin .eql (.s 31) (V 1)),G 33 29 true (.mv (.s 32)),G 34 33 false (.ld true 7 (.s 6)),G 35 33 false (C QS [(.s 34)]),G 36 33 false (.bin .eql (.s 35) (V 1)),G 37 29 true (.pick (.s 33) (.v (.bool true)) (.s 36)),I 38 (.pick (.s 29) (.s 37) (.v (.bool false)))])
def ZV2:PC :=
 (.reg [8] [I 8 (.mv (V 2))])
def ZV3:PC :=
 (.reg [44] [I 39 (.ld true 7 (.s 5)),I 40 (.call .pure (.v (.func (.func QT) [] [])) [(.s 39)]),I 41 (.ld true 7 (.s 6)),I 42 (C QT [(.s 41)]),I 43 (.bin .add (.s 40) (.s 42)),I 44 (.bin .gtr (.s 43) (V 65536))])
def ZV4:PC :=
 (.reg [8] [I 8 (.mv (V 5))])
def ZV5:PC :=
 (.reg [8] [I 8 (.mv (V 0))])
def ZPu:PF:=⟨false,
 (.seq ZZE
 (.seq (.seq ZZF
 (.block 0
 (.loop ZZM)))
 (.seq (.seq ZZN
 (.ite (.s 38)
 (.seq ZV2
 .ret)
 .skip))
 (.seq (.seq ZV3
 (.ite (.s 44)
 (.seq ZV4
 .ret)
 .skip))
 (.seq ZV5
 .ret))))),
 [.s 8]⟩
theorem ZeT:Zv Go.Proofs.Try.prog false ZeS Go.Proofs.Try.f119=some ZPu:=by kernel_rfl
def ZZO:List Hint:=[H [0,1],H [0,1,19],H [4,5],H [4,5]]
def ZRX:PC :=
 (.reg [0,1] [I 4 (.mv (.v (.int .u64 0))),I 5 (.mv (V 0))])
def ZRY:PC :=
 (.reg [0,1,19] [I 6 (.mv (.s 0)),I 7 (.bin .lss (.s 6) (V 0)),I 8 (.mv (.s 7)),G 9 8 false (.mv (.s 0)),G 10 8 false (.bin .geq (.s 9) (V 16384)),I 11 (.pick (.s 8) (.v (.bool true)) (.s 10)),I 12 (.mv (.s 11)),G 13 12 false (.mv (.s 1)),G 14 12 false (.bin .lss (.s 13) (.v (.int .u64 1))),I 15 (.pick (.s 12) (.v (.bool true)) (.s 14)),I 16 (.mv (.s 15)),G 17 16 false (.mv (.s 1)),G 18 16 false (.bin .gtr (.s 17) (.v (.int .u64 4294967295))),I 19 (.pick (.s 16) (.v (.bool true)) (.s 18))])
def ZRZ:PC :=
 (.reg [4,5] [I 4 (.mv (.v (.int .u64 0))),I 5 (.mv (V 3))])
def ZRa:PC :=
 (.reg [4,5] [I 20 (.mv (.s 1)),I 21 (.bin .shl (.s 20) (.v (.int .u64 16))),I 22 (.mv (.s 0)),I 23 (.cint .u64 (.s 22)),I 24 (.bin .or (.s 21) (.s 23)),I 4 (.mv (.s 24)),I 5 (.mv (V 0))])
def ZIv:PF:=⟨false,
 (.seq ZRX
 (.seq (.seq ZRY
 (.ite (.s 19)
 (.seq ZRZ
 .ret)
 .skip))
 (.seq ZRa
 .ret))),
 [.s 4,.s 5]⟩
theorem ZZP:Zv Go.Proofs.Try.prog false ZZO Go.Proofs.Try.f120=some ZIv:=by kernel_rfl
def ZZQ:List Hint:=[H [1,2],H [1,2,10],H [4],H [1,2,5],H [2,5,17],H [2,5],H [5,6],H [5,6,7],H [6,7,23,24],H [6,7,23,24,25],H [6,7,8,23,24],H [6,7,23,24],H [6,7,23,24],H [4]]
def ZRb:PC :=
 (.reg [1,2] [I 2 (.box (.s 0)),I 4 (.mv (.v .nils))])
def ZRc:PC :=
 (.reg [1,2,10] [I 9 (.ld false 1 (.s 2)),I 10 (.bin .eql (.s 9) (V 0))])
def ZRd:PC :=
 (.reg [4] [I 4 (.mv (.v .nils))])
def ZRe:PC :=
 (.reg [1,2,5] [I 11 (.ld false 1 (.s 2)),I 12 (.mv (.s 1)),I 13 (.bin .quo (.s 11) (.s 12)),I 5 (.box (V 0)),J (.st 1 (.s 5) (.s 13))])
def ZRf:PC :=
 (.reg [2,5,17] [I 14 (.ld false 1 (.s 2)),I 15 (.mv (.s 1)),I 16 (.bin .rem (.s 14) (.s 15)),I 17 (.bin .gtr (.s 16) (V 0))])
def ZRg:PC :=
 (.reg [2,5] [I 18 (.ld false 1 (.s 5)),I 19 (.bin .add (.s 18) (V 1)),J (.st 1 (.s 5) (.s 19))])
def ZRh:PC :=
 (.reg [5,6] [I 20 (.mkf (.func Jv) [] [(.s 2),(.s 5)]),I 6 (.mv (.s 20))])
def ZRi:PC :=
 (.reg [5,6,7] [I 21 (.ld false 1 (.s 5)),I 22 (.mkslice 1 8 (.int .i64 0) (.s 21) (.s 21)),I 7 (.mv (.s 22))])
def ZRj:PC :=
 (.reg [6,7,23,24] [I 23 (.ld false 1 (.s 5)),I 24 (.mv (V 0))])
def ZRk:PC :=
 (.reg [6,7,23,24,25] [I 25 (.bin .lss (.s 24) (.s 23))])
def ZOo:PC :=
 (.reg [6,7,8,23,24] [I 26 (.mv (.s 24)),I 8 (.mv (.s 26))])
def ZOp:PC :=
 (.reg [6,7,23,24] [I 27 (.mv (.s 7)),I 28 (.mv (.s 8)),I 29 (.mv (.s 6)),I 30 (.mv (.s 8)),I 31 (.call .norm (.s 29) [(.s 30)]),I 32 (.ixS 1 (.s 27) (.s 28)),J (.st 1 (.s 32) (.s 31))])
def ZOq:PC :=
 (.reg [6,7,23,24] [I 33 (.bin .add (.s 24) (V 1)),I 24 (.mv (.s 33))])
def ZDp:PC :=
 (.seq ZRk
 (.seq (.ite (.s 25)
 .skip
 (.exit 0))
 (.seq (.block 1
 (.seq ZOo
 ZOp))
 ZOq)))
def ZOr:PC :=
 (.reg [4] [I 34 (.mv (.s 7)),I 4 (.mv (.s 34))])
def ZIw:PF:=⟨false,
 (.seq ZRb
 (.seq (.seq ZRc
 (.ite (.s 10)
 (.seq ZRd
 .ret)
 .skip))
 (.seq ZRe
 (.seq (.seq ZRf
 (.ite (.s 17)
 ZRg
 .skip))
 (.seq ZRh
 (.seq ZRi
 (.seq (.seq ZRj
 (.block 0
 (.loop ZDp)))
 (.seq ZOr
 .ret)))))))),
 [.s 4]⟩
theorem ZZR:Zv Go.Proofs.Try.prog false ZZQ Go.Proofs.Try.f121=some ZIw:=by kernel_rfl
def ZeU:List Hint:=[H [0,1],H [0,1,9],H [4,5,6],H [0,1,17],H [4,5,6],H [4,5,6]]
def ZZS:PC :=
 (.reg [0,1] [I 4 (.mv (.v (.str []))),I 5 (.mv (.v (.str []))),I 6 (.mv (V 0))])
def ZZT:PC :=
 (.reg [0,1,9] [I 7 (.mv (.s 0)),I 8 (C Xv [(.s 7)]),I 9 (.un .not (.s 8))])
def ZZU:PC :=
 (.reg [4,5,6] [I 4 (.mv (.v (.str []))),I 5 (.mv (.v (.str []))),I 6 (.mv (V 2))])
def ZZV:PC :=
 (.reg [0,1,17] [I 10 (.mv (.s 1)),I 11 (.bin .lss (.s 10) (V 0)),I 12 (.mv (.s 11)),G 13 12 false (.mv (.s 1)),G 14 12 false (.mv (.s 0)),G 15 12 false (.len 0 (.s 14)),G 16 12 false (.bin .gtr (.s 13) (.s 15)),I 17 (.pick (.s 12) (.v (.bool true)) (.s 16))])
def ZZW:PC :=
 (.reg [4,5,6] [I 4 (.mv (.v (.str []))),I 5 (.mv (.v (.str []))),I 6 (.mv (V 3))])
def ZZX:PC :=
 (.reg [4,5,6] [I 18 (.mv (.s 0)),I 19 (.mv (.s 1)),I 20 (.slcS (.s 18) none (some (.s 19))),I 21 (.mv (.s 0)),I 22 (.mv (.s 1)),I 23 (.slcS (.s 21) (some (.s 22)) none),I 4 (.mv (.s 20)),I 5 (.mv (.s 23)),I 6 (.mv (V 0))])
def ZPv:PF:=⟨false,
 (.seq ZZS
 (.seq (.seq ZZT
 (.ite (.s 9)
 (.seq ZZU
 .ret)
 .skip))
 (.seq (.seq ZZV
 (.ite (.s 17)
 (.seq ZZW
 .ret)
 .skip))
 (.seq ZZX
 .ret)))),
 [.s 4,.s 5,.s 6]⟩
theorem ZeV:Zv Go.Proofs.Try.prog false ZeU Go.Proofs.Try.f122=some ZPv:=by kernel_rfl
def ZcT:List Hint:=[H [0,4,5],H [0,4,5,22],H [6,7],H [0,4,5,8,9],H [0,4,5,8,9],H [0,4,5,8,9,33],H [0,4,5,8,9,10],H [0,4,5,8,9,10,41],H [6,7],H [0,4,5,8,9,47],H [0,4,5,8,9,10],H [0,4,5,8,9,10,55],H [6,7],H [0,4,5,8,9,57],H [6,7],H [0,4,5,8,9,78],H [6,7],H [0,4,5,8,9,87],H [0,5,8,11],H [8,11,12,13],H [8,11,12,13,107],H [6,7],H [6,7],H [9,10,14],H [9,10,14,127],H [6,7],⟨[6,7],[],[],[],[(4,.blind),(2,.app0),(0,.imm)],[]⟩]
def ZV6:PC :=
 (.reg [0,4,5] [I 4 (.box (.s 1)),I 5 (.box (.s 2)),I 6 (.mv (.v .nils)),I 7 (.mv (V 0))])
def ZV7:PC :=
 (.reg [0,4,5,22] [I 15 (.fadr 1 (.s 4)),I 16 (.ld false 1 (.s 15)),I 17 (.bin .eql (.s 16) (V 0)),I 18 (.mv (.s 17)),G 19 18 true (.fadr 1 (.s 5)),G 20 18 true (.ld false 1 (.s 19)),G 21 18 true (.bin .eql (.s 20) (V 0)),I 22 (.pick (.s 18) (.s 21) (.v (.bool false)))])
def ZV8:PC :=
 (.reg [6,7] [I 23 (.mv (.s 0)),I 24 (.ld true 7 (.s 4)),I 25 (.ld true 7 (.s 5)),I 26 (C ZDE [(.s 23),(.s 24),(.s 25)]),I 27 (.ext (.s 26) 0),I 28 (.ext (.s 26) 1),I 6 (.mv (.s 27)),I 7 (.mv (.s 28))])
def ZV9:PC :=
 (.reg [0,4,5,8,9] [I 8 (.mv (.v .nils)),I 9 (.mv (.v .nils))])
def ZWA:PC :=
 (.reg [0,4,5,8,9] [I 10 (.mv (V 0))])
def ZWB:PC :=
 (.reg [0,4,5,8,9,33] [I 29 (.fadr 1 (.s 4)),I 30 (.ld false 1 (.s 29)),I 31 (.fadr 1 (.s 5)),I 32 (.ld false 1 (.s 31)),I 33 (.bin .geq (.s 30) (.s 32))])
def ZWC:PC :=
 (.reg [0,4,5,8,9,10] [I 35 (.mv (.s 0)),I 36 (.ld true 7 (.s 4)),I 37 (C Ju [(.s 35),(.s 36)]),I 34 (.mv (.s 37)),I 38 (.ext (.s 34) 0),I 39 (.ext (.s 34) 1),I 8 (.mv (.s 38)),I 10 (.mv (.s 39))])
def ZWD:PC :=
 (.reg [0,4,5,8,9,10,41] [I 40 (.mv (.s 10)),I 41 (.bin .neq (.s 40) (V 0))])
def ZWE:PC :=
 (.reg [6,7] [I 42 (.mv (.s 10)),I 6 (.mv (.v .nils)),I 7 (.mv (.s 42))])
def ZWF:PC :=
 (.reg [0,4,5,8,9,47] [I 43 (.fadr 1 (.s 5)),I 44 (.ld false 1 (.s 43)),I 45 (.fadr 1 (.s 4)),I 46 (.ld false 1 (.s 45)),I 47 (.bin .geq (.s 44) (.s 46))])
def ZRl:PC :=
 (.reg [0,4,5,8,9,10] [I 49 (.mv (.s 0)),I 50 (.ld true 7 (.s 5)),I 51 (C Ju [(.s 49),(.s 50)]),I 48 (.mv (.s 51)),I 52 (.ext (.s 48) 0),I 53 (.ext (.s 48) 1),I 9 (.mv (.s 52)),I 10 (.mv (.s 53))])
def ZRm:PC :=
 (.reg [0,4,5,8,9,10,55] [I 54 (.mv (.s 10)),I 55 (.bin .neq (.s 54) (V 0))])
def ZRn:PC :=
 (.reg [6,7] [I 56 (.mv (.s 10)),I 6 (.mv (.v .nils)),I 7 (.mv (.s 56))])
def ZRo:PC :=
 (.reg [0,4,5,8,9,57] [I 58 (.fadr 1 (.s 4)),I 59 (.ld false 1 (.s 58)),I 60 (.fadr 1 (.s 5)),I 61 (.ld false 1 (.s 60)),I 62 (.bin .eql (.s 59) (.s 61)),I 63 (.mv (.s 62)),G 64 63 true (.mv (.s 8)),G 65 63 true (.len 1 (.s 64)),G 66 63 true (.mv (.s 9)),G 67 63 true (.len 1 (.s 66)),G 68 63 true (.bin .add (.s 65) (.s 67)),G 69 63 true (.bin .leq (.s 68) (V 4)),I 70 (.pick (.s 63) (.s 69) (.v (.bool false))),I 57 (.mv (.s 70))])
def ZRp:PC :=
 (.reg [6,7] [I 71 (.bslice false 7 [] []),I 72 (.mv (.s 8)),I 73 (.app 7 80 (.s 71) (.s 72)),I 74 (.mv (.s 9)),I 75 (.app 7 80 (.s 73) (.s 74)),I 76 (C QK [(.s 75)]),I 77 (.bslice false 7 [ZT] [(0,(.s 76))]),I 6 (.mv (.s 77)),I 7 (.mv (V 0))])
def ZRq:PC :=
 (.reg [0,4,5,8,9,78] [I 79 (.fadr 1 (.s 4)),I 80 (.ld false 1 (.s 79)),I 81 (.fadr 1 (.s 5)),I 82 (.ld false 1 (.s 81)),I 83 (.bin .eql (.s 80) (.s 82)),I 78 (.mv (.s 83))])
def ZRr:PC :=
 (.reg [6,7] [I 84 (.ld true 7 (.s 4)),I 85 (.ld true 7 (.s 5)),I 86 (.bslice false 7 [ZT,ZT] [(0,(.s 84)),(1,(.s 85))]),I 6 (.mv (.s 86)),I 7 (.mv (V 0))])
def ZRs:PC :=
 (.reg [0,4,5,8,9,87] [I 88 (.fadr 1 (.s 4)),I 89 (.ld false 1 (.s 88)),I 90 (.fadr 1 (.s 5)),I 91 (.ld false 1 (.s 90)),I 92 (.bin .gtr (.s 89) (.s 91)),I 87 (.mv (.s 92))])
def ZRt:PC :=
 (.reg [0,5,8,11] [I 93 (.mv (.s 8)),I 94 (.len 1 (.s 93)),I 95 (.bin .sub (.s 94) (V 1)),I 11 (.mv (.s 95))])
def ZRu:PC :=
 (.reg [8,11,12,13] [I 97 (.mv (.s 0)),I 98 (.mv (.s 8)),I 99 (.mv (.s 11)),I 100 (.ixS 7 (.s 98) (.s 99)),I 101 (.ld true 7 (.s 100)),I 102 (.ld true 7 (.s 5)),I 103 (C Xu [(.s 97),(.s 101),(.s 102)]),I 96 (.mv (.s 103)),I 104 (.ext (.s 96) 0),I 105 (.ext (.s 96) 1),I 12 (.mv (.s 104)),I 13 (.mv (.s 105))])
def ZRv:PC :=
 (.reg [8,11,12,13,107] [I 106 (.mv (.s 13)),I 107 (.bin .neq (.s 106) (V 0))])
def ZRw:PC :=
 (.reg [6,7] [I 108 (.mv (.s 13)),I 6 (.mv (.v .nils)),I 7 (.mv (.s 108))])
def ZRx:PC :=
 (.reg [6,7] [I 109 (.bslice false 7 [] []),I 110 (.mv (.s 8)),I 111 (.mv (.s 11)),I 112 (.slc 7 (.s 110) none (some (.s 111))),I 113 (.app 7 80 (.s 109) (.s 112)),I 114 (.mv (.s 12)),I 115 (.app 7 80 (.s 113) (.s 114)),I 116 (C ZC0 [(.s 115)]),I 6 (.mv (.s 116)),I 7 (.mv (V 0))])
def ZRy:PC :=
 (.reg [9,10,14] [I 118 (.mv (.s 0)),I 119 (.ld true 7 (.s 4)),I 120 (.mv (.s 9)),I 121 (.ixS 7 (.s 120) (V 0)),I 122 (.ld true 7 (.s 121)),I 123 (C Xu [(.s 118),(.s 119),(.s 122)]),I 117 (.mv (.s 123)),I 124 (.ext (.s 117) 0),I 125 (.ext (.s 117) 1),I 14 (.mv (.s 124)),I 10 (.mv (.s 125))])
def ZRz:PC :=
 (.reg [9,10,14,127] [I 126 (.mv (.s 10)),I 127 (.bin .neq (.s 126) (V 0))])
def ZR0:PC :=
 (.reg [6,7] [I 128 (.mv (.s 10)),I 6 (.mv (.v .nils)),I 7 (.mv (.s 128))])
def ZR1:PC :=
 (.reg [6,7] [I 129 (.w .imm (.bslice false 7 [] [])),I 130 (.mv (.s 14)),I 131 (.w .app0 (.app 7 80 (.s 129) (.s 130))),I 132 (.mv (.s 9)),I 133 (.w .blind (.slc 7 (.s 132) (some (V 1)) none)),I 134 (.app 7 80 (.s 131) (.s 133)),I 135 (C ZC0 [(.s 134)]),I 6 (.mv (.s 135)),I 7 (.mv (V 0))])
def ZMB:PF:=⟨false,
 (.seq ZV6
 (.seq (.seq ZV7
 (.ite (.s 22)
 (.seq ZV8
 .ret)
 .skip))
 (.seq ZV9
 (.seq ZWA
 (.seq (.seq ZWB
 (.ite (.s 33)
 (.seq ZWC
 (.seq ZWD
 (.ite (.s 41)
 (.seq ZWE
 .ret)
 .skip)))
 .skip))
 (.seq (.seq ZWF
 (.ite (.s 47)
 (.seq ZRl
 (.seq ZRm
 (.ite (.s 55)
 (.seq ZRn
 .ret)
 .skip)))
 .skip))
 (.seq (.block 0
 (.seq ZRo
 (.ite (.s 57)
 (.seq ZRp
 .ret)
 (.seq ZRq
 (.ite (.s 78)
 (.seq ZRr
 .ret)
 (.seq ZRs
 (.ite (.s 87)
 (.seq ZRt
 (.seq ZRu
 (.seq (.seq ZRv
 (.ite (.s 107)
 (.seq ZRw
 .ret)
 .skip))
 (.seq ZRx
 .ret))))
 .skip)))))))
 (.seq ZRy
 (.seq (.seq ZRz
 (.ite (.s 127)
 (.seq ZR0
 .ret)
 .skip))
 (.seq ZR1
 .ret)))))))))),
 [.s 6,.s 7]⟩
theorem ZcU:Zv Go.Proofs.Try.prog false ZcT Go.Proofs.Try.f123=some ZMB:=by kernel_rfl
def ZcV:List Hint:=[H [1],H [1,5],H [2],H [9],H [2],H [2]]
def ZWG:PC :=
 (.reg [1] [I 1 (.box (.s 0)),I 2 (.mv (V 0))])
def ZWH:PC :=
 (.reg [1,5] [I 3 (.ld true 3 (.s 1)),I 4 (C ZAg [(.s 3)]),I 5 (.un .not (.s 4))])
def ZWI:PC :=
 (.reg [2] [I 2 (.mv (V 23))])
def ZWJ:PC :=
 (.reg [9] [I 6 (.ld true 3 (.s 1)),I 7 (C ZBo [(.s 6)]),I 8 (.fld false 0 1 (.s 7)),I 9 (.bin .gtr (.s 8) (V 65536))])
def ZWK:PC :=
 (.reg [2] [I 2 (.mv (V 5))])
def ZWL:PC :=
 (.reg [2] [I 2 (.mv (V 0))])
def ZMC:PF:=⟨false,
 (.seq ZWG
 (.seq (.seq ZWH
 (.ite (.s 5)
 (.seq ZWI
 .ret)
 .skip))
 (.seq (.seq ZWJ
 (.ite (.s 9)
 (.seq ZWK
 .ret)
 .skip))
 (.seq ZWL
 .ret)))),
 [.s 2]⟩
theorem ZcW:Zv Go.Proofs.Try.prog false ZcV Go.Proofs.Try.f128=some ZMC:=by kernel_rfl
def Zf3:List Hint:=[H [1,2],H [1,2,8],H [2],⟨[1,2,3],[0],[],[],[],[]⟩,H [2,3,13,14,15],H [2,3,13,14,15,16],H [2,3,5,13,14,15],H [2,3,13,14,15],H [2,3,13,14,15],H [2]]
def ZcX:PC :=
 (.reg [1,2] [I 1 (.box (.s 0)),I 2 (.box (.v ZM))])
def ZcY:PC :=
 (.reg [1,2,8] [I 6 (.fadr 0 (.s 1)),I 7 (.ld false 1 (.s 6)),I 8 (.bin .eql (.s 7) (V 0))])
def ZcZ:PC :=
 (.reg [2] [I 9 (.fadr 1 (.s 1)),I 10 (.ld false 1 (.s 9)),I 11 (C ZEP [(.s 10)]),J (.st 3 (.s 2) (.s 11))])
def Zca:PC :=
 (.reg [1,2,3] [I 3 (.onil 3)])
def Zcb:PC :=
 (.reg [2,3,13,14,15] [I 12 (.fadr 2 (.s 1)),I 13 (.ld false 1 (.s 12)),I 14 (.len 1 (.s 13)),I 15 (.mv (V 0))])
def Zcc:PC :=
 (.reg [2,3,13,14,15,16] [I 16 (.bin .lss (.s 15) (.s 14))])
def Zcd:PC :=
 (.reg [2,3,5,13,14,15] [I 17 (.ixS 4 (.s 13) (.s 15)),I 18 (.ld true 4 (.s 17)),I 5 (.box (.v ZK)),J (.st 4 (.s 5) (.s 18))])
def Zce:PC :=
 (.reg [2,3,13,14,15] [I 19 (.mv (.s 3)),I 20 (.fadr 1 (.s 5)),I 21 (.ld true 3 (.s 20)),I 22 (.bslice false 3 [ZM] [(0,(.s 21))]),I 23 (.app 3 24 (.s 19) (.s 22)),I 3 (.mv (.s 23))])
def Zcf:PC :=
 (.reg [2,3,13,14,15] [I 24 (.bin .add (.s 15) (V 1)),I 15 (.mv (.s 24))])
def Zcg:PC :=
 (.seq Zcc
 (.seq (.ite (.s 16)
 .skip
 (.exit 0))
 (.seq (.block 1
 (.seq Zcd
 Zce))
 Zcf)))
def ZZY:PC :=
 (.reg [2] [I 25 (.mv (.s 3)),I 26 (C ZDF [(.s 25)]),J (.st 3 (.s 2) (.s 26))])
def ZWM:PF:=⟨false,
 (.seq ZcX
 (.seq (.seq ZcY
 (.ite (.s 8)
 (.seq ZcZ
 .ret)
 .skip))
 (.seq Zca
 (.seq (.seq Zcb
 (.block 0
 (.loop Zcg)))
 (.seq ZZY
 .ret))))),
 [.c 2 true 3]⟩
theorem Zf4:Zv Go.Proofs.Try.prog false Zf3 Go.Proofs.Try.f129=some ZWM:=by kernel_rfl
def ZOs:List Hint:=[H [0,1,2],⟨[2,5,6],[],[(5,.pure)],[],[],[]⟩,H [2,5,6,18],H [5,6],H [3,4]]
def ZJ2:PC :=
 (.reg [0,1,2] [I 3 (.mv (.v (.int .u64 0))),I 4 (.mv (V 0))])
def ZJ3:PC :=
 (.reg [2,5,6] [I 8 (.ld false 1 (.s 0)),I 9 (.nilck (.s 8)),I 10 (.fadr 0 (.s 9)),I 11 (.ld false 1 (.s 10)),I 12 (.ld false 1 (.s 1)),I 13 (.call .pure (.s 12) []),I 14 (C JU [(.s 11),(.s 13)]),I 7 (.mv (.s 14)),I 15 (.ext (.s 7) 0),I 16 (.ext (.s 7) 1),I 5 (.mv (.s 15)),I 6 (.mv (.s 16))])
def ZJ4:PC :=
 (.reg [2,5,6,18] [I 17 (.mv (.s 6)),I 18 (.bin .eql (.s 17) (V 0))])
def ZJ5:PC :=
 (.reg [5,6] [I 19 (.ld false 1 (.s 2)),I 20 (.mv (.s 5)),I 21 (.nilck (.s 19)),I 22 (.fadr 0 (.s 21)),J (.st 1 (.s 22) (.s 20))])
def ZJ6:PC :=
 (.reg [3,4] [I 23 (.mv (.s 5)),I 24 (.mv (.s 6)),I 3 (.mv (.s 23)),I 4 (.mv (.s 24))])
def ZDq:PF:=⟨false,
 (.seq ZJ2
 (.seq ZJ3
 (.seq (.seq ZJ4
 (.ite (.s 18)
 ZJ5
 .skip))
 (.seq ZJ6
 .ret)))),
 [.s 3,.s 4]⟩
theorem ZOt:Zv Go.Proofs.Try.prog false ZOs Go.Proofs.Try.f130=some ZDq:=by kernel_rfl
def ZIi:List Hint:=[H [0,3],H [0,3,16],H [4,5],H [0,3,6],H [0,3,6,20],H [4,5],H [0,3,23,24,25],H [0,3,23,24,25,26],H [0,3,8,23,24,25],H [0,3,8,9,10,23,24,25],H [0,3,8,9,23,24,25,40],H [4,5],H [0,3,8,9,11,12,23,24,25],H [0,3,23,24,25,61],H [4,5],H [0,3,23,24,25],H [0,3,13,14],H [0,3,13,14,72],H [4,5],H [0,3,13],H [0,13],H [13],H [4,5]]
def ZGH:PC :=
 (.reg [0,3] [I 3 (.box (.s 1)),I 4 (.mv (.v (.int .u64 0))),I 5 (.mv (V 0))])
def ZGI:PC :=
 (.reg [0,3,16] [I 15 (.mv (.s 0)),I 16 (.eqs false 3 [] (.s 15) (.v .nilptr))])
def ZGJ:PC :=
 (.reg [4,5] [I 4 (.mv (.v (.int .u64 0))),I 5 (.mv (V 1))])
def ZGK:PC :=
 (.reg [0,3,6] [I 17 (.ld true 3 (.s 3)),I 18 (C ZBI [(.s 17)]),I 6 (.mv (.s 18))])
def ZGL:PC :=
 (.reg [0,3,6,20] [I 19 (.mv (.s 6)),I 20 (.bin .neq (.s 19) (V 0))])
def ZGM:PC :=
 (.reg [4,5] [I 21 (.mv (.s 6)),I 4 (.mv (.v (.int .u64 0))),I 5 (.mv (.s 21))])
def ZGN:PC :=
 (.reg [0,3,23,24,25] [I 22 (.fadr 2 (.s 3)),I 23 (.ld false 1 (.s 22)),I 24 (.len 1 (.s 23)),I 25 (.mv (V 0))])
def ZGO:PC :=
 (.reg [0,3,23,24,25,26] [I 26 (.bin .lss (.s 25) (.s 24))])
def ZGP:PC :=
 (.reg [0,3,8,23,24,25] [I 27 (.ixS 4 (.s 23) (.s 25)),I 28 (.ld true 4 (.s 27)),I 8 (.box (.v ZK)),J (.st 4 (.s 8) (.s 28))])
def ZGQ:PC :=
 (.reg [0,3,8,9,10,23,24,25] [I 30 (.mv (.s 0)),I 31 (.nilck (.s 30)),I 32 (.fadr 2 (.s 31)),I 33 (.ld false 1 (.s 32)),I 34 (.fadr 0 (.s 8)),I 35 (.ld false 1 (.s 34)),I 36 (.look 0 ZN true (.s 33) (.s 35)),I 29 (.mv (.s 36)),I 37 (.ext (.s 29) 0),I 38 (.ext (.s 29) 1),I 9 (.box (.v ZN)),J (.st 3 (.s 9) (.s 37)),I 10 (.mv (.s 38))])
def ZEo:PC :=
 (.reg [0,3,8,9,23,24,25,40] [I 39 (.mv (.s 10)),I 40 (.un .not (.s 39))])
def ZEp:PC :=
 (.reg [4,5] [I 4 (.mv (.v (.int .u64 0))),I 5 (.mv (V 10))])
def ZEq:PC :=
 (.reg [0,3,8,9,11,12,23,24,25] [I 42 (.ld true 3 (.s 9)),I 43 (C Ys [(.s 42)]),I 41 (.mv (.s 43)),I 44 (.ext (.s 41) 0),I 45 (.ext (.s 41) 1),I 11 (.box (.v ZM)),J (.st 3 (.s 11) (.s 44)),I 12 (.mv (.s 45))])
def ZEr:PC :=
 (.reg [0,3,23,24,25,61] [I 46 (.mv (.s 12)),I 47 (.bin .neq (.s 46) (V 0)),I 48 (.mv (.s 47)),G 49 48 false (.fadr 0 (.s 9)),G 50 48 false (.ld false 1 (.s 49)),G 51 48 false (.fadr 0 (.s 3)),G 52 48 false (.ld false 1 (.s 51)),G 53 48 false (.bin .sub (.s 52) (V 1)),G 54 48 false (.bin .neq (.s 50) (.s 53)),I 55 (.pick (.s 48) (.v (.bool true)) (.s 54)),I 56 (.mv (.s 55)),G 57 56 false (.ld true 3 (.s 11)),G 58 56 false (.fadr 1 (.s 8)),G 59 56 false (.ld true 3 (.s 58)),G 60 56 false (.eqs true 0 [(0,0),(1,0),(2,0)] (.s 57) (.s 59)),I 61 (.pick (.s 56) (.v (.bool true)) (.s 60))])
def ZEs:PC :=
 (.reg [4,5] [I 4 (.mv (.v (.int .u64 0))),I 5 (.mv (V 23))])
def ZEt:PC :=
 (.reg [0,3,23,24,25] [I 62 (.bin .add (.s 25) (V 1)),I 25 (.mv (.s 62))])
def ZEu:PC :=
 (.seq ZGO
 (.seq (.ite (.s 26)
 .skip
 (.exit 0))
 (.seq (.block 1
 (.seq ZGP
 (.seq ZGQ
 (.seq (.seq ZEo
 (.ite (.s 40)
 (.seq ZEp
 .ret)
 .skip))
 (.seq ZEq
 (.seq ZEr
 (.ite (.s 61)
 (.seq ZEs
 .ret)
 .skip)))))))
 ZEt)))
def ZEv:PC :=
 (.reg [0,3,13,14] [I 64 (.mv (.s 0)),I 65 (.nilck (.s 64)),I 66 (.fadr 1 (.s 65)),I 67 (.ld false 1 (.s 66)),I 68 (C Yt [(.s 67)]),I 63 (.mv (.s 68)),I 69 (.ext (.s 63) 0),I 70 (.ext (.s 63) 1),I 13 (.mv (.s 69)),I 14 (.mv (.s 70))])
def ZEw:PC :=
 (.reg [0,3,13,14,72] [I 71 (.mv (.s 14)),I 72 (.bin .neq (.s 71) (V 0))])
def ZEx:PC :=
 (.reg [4,5] [I 73 (.mv (.s 14)),I 4 (.mv (.v (.int .u64 0))),I 5 (.mv (.s 73))])
def Xw:PC :=
 (.reg [0,3,13] [I 74 (.fadr 2 (.s 3)),I 75 (.ld false 1 (.s 74)),I 76 (C Z5 [(.s 75)]),I 77 (.fadr 2 (.s 3)),J (.st 1 (.s 77) (.s 76))])
def Xx:PC :=
 (.reg [0,13] [I 78 (.mv (.s 0)),I 79 (.nilck (.s 78)),I 80 (.fadr 2 (.s 79)),I 81 (.ld false 1 (.s 80)),I 82 (.mv (.s 13)),I 83 (.ld true 3 (.s 3)),J (.mupd 0 (.s 81) (.s 82) (.s 83))])
def Xy:PC :=
 (.reg [13] [I 84 (.mv (.s 0)),I 85 (.nilck (.s 84)),I 86 (.fadr 3 (.s 85)),I 87 (.ld false 1 (.s 86)),I 88 (.bin .add (.s 87) (V 1)),I 89 (.nilck (.s 84)),I 90 (.fadr 3 (.s 89)),J (.st 1 (.s 90) (.s 88))])
def Xz:PC :=
 (.reg [4,5] [I 91 (.mv (.s 13)),I 4 (.mv (.s 91)),I 5 (.mv (V 0))])
def ZA9:PF:=⟨false,
 (.seq ZGH
 (.seq (.seq ZGI
 (.ite (.s 16)
 (.seq ZGJ
 .ret)
 .skip))
 (.seq (.seq ZGK
 (.seq ZGL
 (.ite (.s 20)
 (.seq ZGM
 .ret)
 .skip)))
 (.seq (.seq ZGN
 (.block 0
 (.loop ZEu)))
 (.seq ZEv
 (.seq (.seq ZEw
 (.ite (.s 72)
 (.seq ZEx
 .ret)
 .skip))
 (.seq Xw
 (.seq Xx
 (.seq Xy
 (.seq Xz
 .ret)))))))))),
 [.s 4,.s 5]⟩
theorem ZIj:Zv Go.Proofs.Try.prog false ZIi Go.Proofs.Try.f131=some ZA9:=by kernel_rfl
def ZOu:List Hint:=[H [0],H [2]]
def ZJ7:PC :=
 (.reg [0] [I 2 (.mv (.v (.bool false)))])
def ZJ8:PC :=
 (.reg [2] [I 3 (.mv (.s 0)),I 4 (.bin .lss (.s 3) (.v (.int .u8 128))),I 5 (.mv (.s 4)),G 6 5 false (.mv (.s 0)),G 7 5 false (.bin .gtr (.s 6) (.v (.int .u8 191))),I 8 (.pick (.s 5) (.v (.bool true)) (.s 7)),I 2 (.mv (.s 8))])
def ZDr:PF:=⟨false,
 (.seq ZJ7
 (.seq ZJ8
 .ret)),
 [.s 2]⟩
theorem ZOv:Zv Go.Proofs.Try.prog false ZOu Go.Proofs.Try.f135=some ZDr:=by kernel_rfl
def ZR2:List Hint:=[H [0,1],H [0,1,5],H [0,1,5,8,9],H [0,1,5,8,9,10],H [0,1,5,6,8,9],H [0,1,5,8,9,16],H [0,1,5,8,9],H [0,1,5,8,9],H [4]]
def ZMD:PC :=
 (.reg [0,1] [I 4 (.mv (V 0))])
def ZME:PC :=
 (.reg [0,1,5] [I 5 (.mv (V 0))])
def ZMF:PC :=
 (.reg [0,1,5,8,9] [I 7 (.mv (.s 0)),I 8 (.len 0 (.s 7)),I 9 (.mv (V 0))])
def ZMG:PC :=
 (.reg [0,1,5,8,9,10] [I 10 (.bin .lss (.s 9) (.s 8))])
def ZMH:PC :=
 (.reg [0,1,5,6,8,9] [I 11 (.mv (.s 9)),I 6 (.mv (.s 11))])
def ZMI:PC :=
 (.reg [0,1,5,8,9,16] [I 12 (.mv (.s 1)),I 13 (.mv (.s 0)),I 14 (.mv (.s 6)),I 15 (.ixStr (.s 13) (.s 14)),I 16 (.call .norm (.s 12) [(.s 15)])])
def ZMJ:PC :=
 (.reg [0,1,5,8,9] [I 17 (.mv (.s 5)),I 18 (.bin .add (.s 17) (V 1)),I 5 (.mv (.s 18))])
def ZMK:PC :=
 (.reg [0,1,5,8,9] [I 19 (.bin .add (.s 9) (V 1)),I 9 (.mv (.s 19))])
def ZML:PC :=
 (.seq ZMG
 (.seq (.ite (.s 10)
 .skip
 (.exit 0))
 (.seq (.block 1
 (.seq ZMH
 (.seq ZMI
 (.ite (.s 16)
 ZMJ
 .skip))))
 ZMK)))
def ZMM:PC :=
 (.reg [4] [I 20 (.mv (.s 5)),I 4 (.mv (.s 20))])
def ZFR:PF:=⟨false,
 (.seq ZMD
 (.seq ZME
 (.seq (.seq ZMF
 (.block 0
 (.loop ZML)))
 (.seq ZMM
 .ret)))),
 [.s 4]⟩
theorem ZR3:Zv Go.Proofs.Try.prog false ZR2 Go.Proofs.Try.f136=some ZFR:=by kernel_rfl
def ZeW:List Hint:=[H [1],⟨[1,3],[0],[],[],[],[]⟩,H [1,3,4],H [1,3,4,5],H [1,3,5],H [3],H [2]]
def ZZZ:PC :=
 (.reg [1] [I 1 (.box (.s 0)),I 2 (.mv (.v .nils))])
def ZZa:PC :=
 (.reg [1,3] [I 3 (.boxnil 1)])
def ZZb:PC :=
 (.reg [1,3,4] [I 6 (.mkmap),I 4 (.box (.v .nilmap)),J (.st 1 (.s 4) (.s 6))])
def ZZc:PC :=
 (.reg [1,3,4,5] [I 5 (.box (.v .nilfunc))])
def ZZd:PC :=
 (.reg [1,3,5] [I 7 (.mkf (.func Yb) [] [(.s 4),(.s 3),(.s 5)]),J (.st 1 (.s 5) (.s 7))])
def ZZe:PC :=
 (.reg [3] [I 8 (.ld false 1 (.s 5)),I 9 (.ld true 7 (.s 1)),I 10 (.call .norm (.s 8) [(.s 9)])])
def ZZf:PC :=
 (.reg [2] [I 11 (.ld false 1 (.s 3)),I 2 (.mv (.s 11))])
def ZPw:PF:=⟨false,
 (.seq ZZZ
 (.seq ZZa
 (.seq ZZb
 (.seq ZZc
 (.seq ZZd
 (.seq ZZe
 (.seq ZZf
 .ret))))))),
 [.s 2]⟩
theorem ZeX:Zv Go.Proofs.Try.prog false ZeW Go.Proofs.Try.f137=some ZPw:=by kernel_rfl
def Zch:List Hint:=[H [0,1,2,3],H [0,1,2,3,16],H [8],H [0,1,2,3],H [0,1,2,3,9,10],H [0,1,2,3,9,10,26],H [8],H [0,2,3,9],H [0,2,3,32,33,34],H [0,2,3,32,33,34,35],H [0,2,3,12,32,33,34],H [0,2,3,13,32,33,34],H [0,2,3,13,32,33,34,45],H [8],H [0,2,3,32,33,34],H [8]]
def ZWN:PC :=
 (.reg [0,1,2,3] [I 8 (.mv (V 0))])
def ZWO:PC :=
 (.reg [0,1,2,3,16] [I 14 (.mv (.s 2)),I 15 (.mv (.s 1)),I 16 (.look 0 (.bool false) false (.s 14) (.s 15))])
def ZWP:PC :=
 (.reg [8] [I 8 (.mv (V 0))])
def ZWQ:PC :=
 (.reg [0,1,2,3] [I 17 (.mv (.s 2)),I 18 (.mv (.s 1)),J (.mupd 0 (.s 17) (.s 18) (.v (.bool true)))])
def ZWR:PC :=
 (.reg [0,1,2,3,9,10] [I 20 (.mv (.s 0)),I 21 (.mv (.s 1)),I 22 (C Qi [(.s 20),(.s 21)]),I 19 (.mv (.s 22)),I 23 (.ext (.s 19) 0),I 24 (.ext (.s 19) 1),I 9 (.box (.v ZN)),J (.st 3 (.s 9) (.s 23)),I 10 (.mv (.s 24))])
def ZWS:PC :=
 (.reg [0,1,2,3,9,10,26] [I 25 (.mv (.s 10)),I 26 (.bin .neq (.s 25) (V 0))])
def ZWT:PC :=
 (.reg [8] [I 27 (.mv (.s 10)),I 8 (.mv (.s 27))])
def ZWU:PC :=
 (.reg [0,2,3,9] [I 28 (.mv (.s 3)),I 29 (.mv (.s 1)),I 30 (.call .norm (.s 28) [(.s 29)])])
def ZWV:PC :=
 (.reg [0,2,3,32,33,34] [I 31 (.fadr 2 (.s 9)),I 32 (.ld false 1 (.s 31)),I 33 (.len 1 (.s 32)),I 34 (.mv (V 0))])
def ZWW:PC :=
 (.reg [0,2,3,32,33,34,35] [I 35 (.bin .lss (.s 34) (.s 33))])
def ZR4:PC :=
 (.reg [0,2,3,12,32,33,34] [I 36 (.ixS 4 (.s 32) (.s 34)),I 37 (.ld true 4 (.s 36)),I 12 (.box (.v ZK)),J (.st 4 (.s 12) (.s 37))])
def ZR5:PC :=
 (.reg [0,2,3,13,32,33,34] [I 38 (.mv (.s 0)),I 39 (.fadr 0 (.s 12)),I 40 (.ld false 1 (.s 39)),I 41 (.mv (.s 2)),I 42 (.mv (.s 3)),I 43 (C JJ [(.s 38),(.s 40),(.s 41),(.s 42)]),I 13 (.mv (.s 43))])
def ZR6:PC :=
 (.reg [0,2,3,13,32,33,34,45] [I 44 (.mv (.s 13)),I 45 (.bin .neq (.s 44) (V 0))])
def ZR7:PC :=
 (.reg [8] [I 46 (.mv (.s 13)),I 8 (.mv (.s 46))])
def ZR8:PC :=
 (.reg [0,2,3,32,33,34] [I 47 (.bin .add (.s 34) (V 1)),I 34 (.mv (.s 47))])
def ZR9:PC :=
 (.seq ZWW
 (.seq (.ite (.s 35)
 .skip
 (.exit 0))
 (.seq (.block 1
 (.seq ZR4
 (.seq ZR5
 (.seq ZR6
 (.ite (.s 45)
 (.seq ZR7
 .ret)
 .skip)))))
 ZR8)))
def ZSA:PC :=
 (.reg [8] [I 8 (.mv (V 0))])
def ZMN:PF:=⟨false,
 (.seq ZWN
 (.seq (.seq ZWO
 (.ite (.s 16)
 (.seq ZWP
 .ret)
 .skip))
 (.seq ZWQ
 (.seq ZWR
 (.seq (.seq ZWS
 (.ite (.s 26)
 (.seq ZWT
 .ret)
 .skip))
 (.seq ZWU
 (.seq (.seq ZWV
 (.block 0
 (.loop ZR9)))
 (.seq ZSA
 .ret)))))))),
 [.s 8]⟩
theorem Zci:Zv Go.Proofs.Try.prog false Zch Go.Proofs.Try.f138=some ZMN:=by kernel_rfl
def ZOw:List Hint:=[]
def ZDs:PF:=⟨false,
 .skip,
 []⟩
theorem ZOx:Zv Go.Proofs.Try.prog false ZOw Go.Proofs.Try.f139=some ZDs:=by kernel_rfl
def ZOy:List Hint:=[H [0,2,7],H []]
def ZJ9:PC :=
 (.reg [0,2,7] [I 4 (.ld false 1 (.s 1)),I 5 (.mv (.s 0)),I 6 (.look 0 (.bool false) false (.s 4) (.s 5)),I 7 (.un .not (.s 6))])
def ZKA:PC :=
 (.reg [] [I 8 (.ld false 1 (.s 2)),I 9 (.mv (.s 0)),I 10 (.bslice false 1 [(.int .u64 0)] [(0,(.s 9))]),I 11 (.app 1 8 (.s 8) (.s 10)),J (.st 1 (.s 2) (.s 11))])
def ZDt:PF:=⟨false,
 (.seq ZJ9
 (.ite (.s 7)
 ZKA
 .skip)),
 []⟩
theorem ZOz:Zv Go.Proofs.Try.prog false ZOy Go.Proofs.Try.f140=some ZDt:=by kernel_rfl
def ZSB:List Hint:=[H [0,1,2],H [1,2,9],H [4],H [4]]
def ZMO:PC :=
 (.reg [0,1,2] [I 4 (.mv (V 0))])
def ZMP:PC :=
 (.reg [1,2,9] [I 5 (.mv (.s 0)),I 6 (.ld false 1 (.s 1)),I 7 (.ld false 1 (.s 2)),I 8 (.bin .rem (.s 6) (.s 7)),I 9 (.bin .lss (.s 5) (.s 8))])
def ZMQ:PC :=
 (.reg [4] [I 10 (.ld false 1 (.s 1)),I 11 (.ld false 1 (.s 2)),I 12 (.bin .quo (.s 10) (.s 11)),I 13 (.bin .add (.s 12) (V 1)),I 4 (.mv (.s 13))])
def ZMR:PC :=
 (.reg [4] [I 14 (.ld false 1 (.s 1)),I 15 (.ld false 1 (.s 2)),I 16 (.bin .quo (.s 14) (.s 15)),I 4 (.mv (.s 16))])
def ZFS:PF:=⟨false,
 (.seq ZMO
 (.seq (.seq ZMP
 (.ite (.s 9)
 (.seq ZMQ
 .ret)
 .skip))
 (.seq ZMR
 .ret))),
 [.s 4]⟩
theorem ZSC:Zv Go.Proofs.Try.prog false ZSB Go.Proofs.Try.f141=some ZFS:=by kernel_rfl
def Zcj:List Hint:=[H [0],H [2]]
def ZWX:PC :=
 (.reg [0] [I 2 (.mv (.v (.bool false)))])
def ZWY:PC :=
 (.reg [2] [I 3 (.mv (.s 0)),I 4 (.len 0 (.s 3)),I 5 (.bin .geq (.s 4) (V 1)),I 6 (.mv (.s 5)),G 7 6 true (.mv (.s 0)),G 8 6 true (.len 0 (.s 7)),G 9 6 true (.bin .leq (.s 8) (V 16)),I 10 (.pick (.s 6) (.s 9) (.v (.bool false))),I 2 (.mv (.s 10))])
def ZMS:PF:=⟨false,
 (.seq ZWX
 (.seq ZWY
 .ret)),
 [.s 2]⟩
theorem Zck:Zv Go.Proofs.Try.prog false Zcj Go.Proofs.Try.f142=some ZMS:=by kernel_rfl
def ZZg:List Hint:=[H [0,4,5],⟨[0,4,5,8,9],[],[(1,.pure)],[],[],[]⟩,H [0,4,5,32],H [6,7],H [0,5,10,11],H [0,5,10,11,43],H [6,7],H [10,11,12],H [10,11,12,52],H [6,7],H [11,13],H [11,13,61],H [6,7],⟨[13,14],[0],[],[],[],[]⟩,H [14,63,64,65],H [14,63,64,65,66],H [14,16,63,64,65],H [14,63,64,65],H [14,63,64,65],H [6,7]]
def ZSD:PC :=
 (.reg [0,4,5] [I 4 (.box (.s 1)),I 5 (.box (.s 2)),I 6 (.mv (.v .nils)),I 7 (.mv (V 0))])
def ZSE:PC :=
 (.reg [0,4,5,8,9] [I 17 (.ld true 7 (.s 4)),I 18 (.call .pure (.v (.func (.func QT) [] [])) [(.s 17)]),I 19 (.ld true 7 (.s 5)),I 20 (C QT [(.s 19)]),I 8 (.mv (.s 18)),I 9 (.mv (.s 20))])
def ZSF:PC :=
 (.reg [0,4,5,32] [I 21 (.mv (.s 8)),I 22 (.mv (.s 9)),I 23 (.bin .add (.s 21) (.s 22)),I 24 (.bin .gtr (.s 23) (V 16)),I 25 (.mv (.s 24)),G 26 25 true (.mv (.s 8)),G 27 25 true (.bin .geq (.s 26) (V 8)),I 28 (.pick (.s 25) (.s 27) (.v (.bool false))),I 29 (.mv (.s 28)),G 30 29 true (.mv (.s 9)),G 31 29 true (.bin .geq (.s 30) (V 8)),I 32 (.pick (.s 29) (.s 31) (.v (.bool false)))])
def ZSG:PC :=
 (.reg [6,7] [I 33 (.ld true 7 (.s 4)),I 34 (.ld true 7 (.s 5)),I 35 (.bslice false 7 [ZT,ZT] [(0,(.s 33)),(1,(.s 34))]),I 6 (.mv (.s 35)),I 7 (.mv (V 0))])
def ZSH:PC :=
 (.reg [0,5,10,11] [I 37 (.mv (.s 0)),I 38 (.ld true 7 (.s 4)),I 39 (C Xk [(.s 37),(.s 38)]),I 36 (.mv (.s 39)),I 40 (.ext (.s 36) 0),I 41 (.ext (.s 36) 1),I 10 (.mv (.s 40)),I 11 (.mv (.s 41))])
def ZSI:PC :=
 (.reg [0,5,10,11,43] [I 42 (.mv (.s 11)),I 43 (.bin .neq (.s 42) (V 0))])
def ZSJ:PC :=
 (.reg [6,7] [I 44 (.mv (.s 11)),I 6 (.mv (.v .nils)),I 7 (.mv (.s 44))])
def ZSK:PC :=
 (.reg [10,11,12] [I 46 (.mv (.s 0)),I 47 (.ld true 7 (.s 5)),I 48 (C Xk [(.s 46),(.s 47)]),I 45 (.mv (.s 48)),I 49 (.ext (.s 45) 0),I 50 (.ext (.s 45) 1),I 12 (.mv (.s 49)),I 11 (.mv (.s 50))])
def ZSL:PC :=
 (.reg [10,11,12,52] [I 51 (.mv (.s 11)),I 52 (.bin .neq (.s 51) (V 0))])
def ZSM:PC :=
 (.reg [6,7] [I 53 (.mv (.s 11)),I 6 (.mv (.v .nils)),I 7 (.mv (.s 53))])
def ZO0:PC :=
 (.reg [11,13] [I 55 (.mv (.s 10)),I 56 (.mv (.s 12)),I 57 (C ZEQ [(.s 55),(.s 56)]),I 54 (.mv (.s 57)),I 58 (.ext (.s 54) 0),I 59 (.ext (.s 54) 1),I 13 (.mv (.s 58)),I 11 (.mv (.s 59))])
def ZO1:PC :=
 (.reg [11,13,61] [I 60 (.mv (.s 11)),I 61 (.bin .neq (.s 60) (V 0))])
def ZO2:PC :=
 (.reg [6,7] [I 62 (.mv (.s 11)),I 6 (.mv (.v .nils)),I 7 (.mv (.s 62))])
def ZO3:PC :=
 (.reg [13,14] [I 14 (.onil 7)])
def ZO4:PC :=
 (.reg [14,63,64,65] [I 63 (.mv (.s 13)),I 64 (.len 1 (.s 63)),I 65 (.mv (V 0))])
def ZO5:PC :=
 (.reg [14,63,64,65,66] [I 66 (.bin .lss (.s 65) (.s 64))])
def ZO6:PC :=
 (.reg [14,16,63,64,65] [I 67 (.ixS 1 (.s 63) (.s 65)),I 68 (.ld false 1 (.s 67)),I 16 (.mv (.s 68))])
def ZO7:PC :=
 (.reg [14,63,64,65] [I 69 (.mv (.s 14)),I 70 (.mv (.s 16)),I 71 (.build [(.int .u64 0),(.int .i64 0),(.int .i64 0),(.int .i64 0),(.int .i64 0),(.str []),.nils] [(5,1,(.s 70))]),I 72 (.bslice false 7 [ZT] [(0,(.s 71))]),I 73 (.app 7 80 (.s 69) (.s 72)),I 14 (.mv (.s 73))])
def ZO8:PC :=
 (.reg [14,63,64,65] [I 74 (.bin .add (.s 65) (V 1)),I 65 (.mv (.s 74))])
def ZDu:PC :=
 (.seq ZO5
 (.seq (.ite (.s 66)
 .skip
 (.exit 0))
 (.seq (.block 1
 (.seq ZO6
 ZO7))
 ZO8)))
def ZO9:PC :=
 (.reg [6,7] [I 75 (.mv (.s 14)),I 6 (.mv (.s 75)),I 7 (.mv (V 0))])
def ZIx:PF:=⟨false,
 (.seq ZSD
 (.seq ZSE
 (.seq (.seq ZSF
 (.ite (.s 32)
 (.seq ZSG
 .ret)
 .skip))
 (.seq ZSH
 (.seq (.seq ZSI
 (.ite (.s 43)
 (.seq ZSJ
 .ret)
 .skip))
 (.seq ZSK
 (.seq (.seq ZSL
 (.ite (.s 52)
 (.seq ZSM
 .ret)
 .skip))
 (.seq ZO0
 (.seq (.seq ZO1
 (.ite (.s 61)
 (.seq ZO2
 .ret)
 .skip))
 (.seq ZO3
 (.seq (.seq ZO4
 (.block 0
 (.loop ZDu)))
 (.seq ZO9
 .ret)))))))))))),
 [.s 6,.s 7]⟩
theorem ZZh:Zv Go.Proofs.Try.prog false ZZg Go.Proofs.Try.f143=some ZIx:=by kernel_rfl
def ZeY:List Hint:=[H [0],H [0,6],H [2],H [0,3],⟨[2],[],[(3,.pure)],[],[],[]⟩]
def ZZi:PC :=
 (.reg [0] [I 2 (.mv (.v .nils))])
def ZZj:PC :=
 (.reg [0,6] [I 4 (.mv (.s 0)),I 5 (.len 1 (.s 4)),I 6 (.bin .leq (.s 5) (V 4))])
def ZZk:PC :=
 (.reg [2] [I 7 (.mv (.s 0)),I 8 (C QK [(.s 7)]),I 9 (.bslice false 7 [ZT] [(0,(.s 8))]),I 2 (.mv (.s 9))])
def ZZl:PC :=
 (.reg [0,3] [I 10 (.mv (.s 0)),I 11 (.len 1 (.s 10)),I 12 (.bin .add (.s 11) (V 1)),I 13 (.bin .quo (.s 12) (V 2)),I 3 (.mv (.s 13))])
def ZZm:PC :=
 (.reg [2] [I 14 (.mv (.s 0)),I 15 (.mv (.s 3)),I 16 (.slc 7 (.s 14) none (some (.s 15))),I 17 (.call .pure (.v (.func (.func QK) [] [])) [(.s 16)]),I 18 (.mv (.s 0)),I 19 (.mv (.s 3)),I 20 (.slc 7 (.s 18) (some (.s 19)) none),I 21 (C QK [(.s 20)]),I 22 (.bslice false 7 [ZT,ZT] [(0,(.s 17)),(1,(.s 21))]),I 2 (.mv (.s 22))])
def ZPx:PF:=⟨false,
 (.seq ZZi
 (.seq (.seq ZZj
 (.ite (.s 6)
 (.seq ZZk
 .ret)
 .skip))
 (.seq ZZl
 (.seq ZZm
 .ret)))),
 [.s 2]⟩
theorem ZeZ:Zv Go.Proofs.Try.prog false ZeY Go.Proofs.Try.f144=some ZPx:=by kernel_rfl
def ZWZ:List Hint:=[H [0],H [3,4],H [19],H [2],H [2]]
def ZPA:PC :=
 (.reg [0] [I 2 (.mv (V 0))])
def ZPB:PC :=
 (.reg [3,4] [I 6 (.mv (.s 0)),I 7 (C ZBq [(.s 6)]),I 5 (.mv (.s 7)),I 8 (.ext (.s 5) 0),I 9 (.ext (.s 5) 1),I 3 (.mv (.s 8)),I 4 (.mv (.s 9))])
def ZPC:PC :=
 (.reg [19] [I 10 (.mv (.s 3)),I 11 (.bin .geq (.s 10) (V 16384)),I 12 (.mv (.s 11)),G 13 12 false (.mv (.s 4)),G 14 12 false (.bin .lss (.s 13) (.v (.int .u64 1))),I 15 (.pick (.s 12) (.v (.bool true)) (.s 14)),I 16 (.mv (.s 15)),G 17 16 false (.mv (.s 4)),G 18 16 false (.bin .gtr (.s 17) (.v (.int .u64 4294967295))),I 19 (.pick (.s 16) (.v (.bool true)) (.s 18))])
def ZPD:PC :=
 (.reg [2] [I 2 (.mv (V 2))])
def ZPE:PC :=
 (.reg [2] [I 2 (.mv (V 0))])
def ZHe:PF:=⟨false,
 (.seq ZPA
 (.seq (.seq ZPB
 (.seq ZPC
 (.ite (.s 19)
 (.seq ZPD
 .ret)
 .skip)))
 (.seq ZPE
 .ret))),
 [.s 2]⟩
theorem ZWa:Zv Go.Proofs.Try.prog false ZWZ Go.Proofs.Try.f145=some ZHe:=by kernel_rfl
def ZWb:List Hint:=[H [0],H [2,3]]
def ZPF:PC :=
 (.reg [0] [I 2 (.mv (V 0)),I 3 (.mv (.v (.int .u64 0)))])
def ZPG:PC :=
 (.reg [2,3] [I 4 (.mv (.s 0)),I 5 (.bin .and (.s 4) (.v (.int .u64 65535))),I 6 (.cint .i64 (.s 5)),I 7 (.mv (.s 0)),I 8 (.bin .shr (.s 7) (.v (.int .u64 16))),I 2 (.mv (.s 6)),I 3 (.mv (.s 8))])
def ZHf:PF:=⟨false,
 (.seq ZPF
 (.seq ZPG
 .ret)),
 [.s 2,.s 3]⟩
theorem ZWc:Zv Go.Proofs.Try.prog false ZWb Go.Proofs.Try.f146=some ZHf:=by kernel_rfl
def ZZn:List Hint:=[H [1],H [1,9],H [2],H [1,50],H [2],H [1,3,4],H [3,4,59,60,61],H [3,4,59,60,61,62],H [3,4,6,59,60,61],H [3,4,59,60,61,112],H [2],H [3,4,59,60,61],H [2]]
def ZSN:PC :=
 (.reg [1] [I 1 (.box (.s 0)),I 2 (.mv (.v (.bool false)))])
def ZSO:PC :=
 (.reg [1,9] [I 7 (.fadr 0 (.s 1)),I 8 (.ld false 1 (.s 7)),I 9 (.bin .eql (.s 8) (V 0))])
def ZSP:PC :=
 (.reg [2] [I 10 (.fadr 1 (.s 1)),I 11 (.ld false 1 (.s 10)),I 12 (.len 0 (.s 11)),I 13 (.bin .geq (.s 12) (V 1)),I 14 (.mv (.s 13)),G 15 14 true (.fadr 1 (.s 1)),G 16 14 true (.ld false 1 (.s 15)),G 17 14 true (.len 0 (.s 16)),G 18 14 true (.bin .leq (.s 17) (V 16)),I 19 (.pick (.s 14) (.s 18) (.v (.bool false))),I 20 (.mv (.s 19)),G 21 20 true (.fadr 2 (.s 1)),G 22 20 true (.ld false 1 (.s 21)),G 23 20 true (.len 1 (.s 22)),G 24 20 true (.bin .eql (.s 23) (V 0)),I 25 (.pick (.s 20) (.s 24) (.v (.bool false))),I 2 (.mv (.s 25))])
def ZSQ:PC :=
 (.reg [1,50] [I 26 (.fadr 0 (.s 1)),I 27 (.ld false 1 (.s 26)),I 28 (.bin .lss (.s 27) (V 1)),I 29 (.mv (.s 28)),G 30 29 false (.fadr 0 (.s 1)),G 31 29 false (.ld false 1 (.s 30)),G 32 29 false (.bin .gtr (.s 31) (V 16)),I 33 (.pick (.s 29) (.v (.bool true)) (.s 32)),I 34 (.mv (.s 33)),G 35 34 false (.fadr 1 (.s 1)),G 36 34 false (.ld false 1 (.s 35)),G 37 34 false (.bin .neq (.s 36) (.v (.str []))),I 38 (.pick (.s 34) (.v (.bool true)) (.s 37)),I 39 (.mv (.s 38)),G 40 39 false (.fadr 2 (.s 1)),G 41 39 false (.ld false 1 (.s 40)),G 42 39 false (.len 1 (.s 41)),G 43 39 false (.bin .lss (.s 42) (V 2)),I 44 (.pick (.s 39) (.v (.bool true)) (.s 43)),I 45 (.mv (.s 44)),G 46 45 false (.fadr 2 (.s 1)),G 47 45 false (.ld false 1 (.s 46)),G 48 45 false (.len 1 (.s 47)),G 49 45 false (.bin .gtr (.s 48) (V 4)),I 50 (.pick (.s 45) (.v (.bool true)) (.s 49))])
def ZSR:PC :=
 (.reg [2] [I 2 (.mv (.v (.bool false)))])
def ZSS:PC :=
 (.reg [1,3,4] [I 52 (.fadr 0 (.s 1)),I 53 (.ld false 1 (.s 52)),I 54 (.bin .sub (.s 53) (V 1)),I 55 (C ZDG [(.s 54)]),I 51 (.mv (.s 55)),I 56 (.ext (.s 51) 0),I 57 (.ext (.s 51) 1),I 3 (.mv (.s 56)),I 4 (.mv (.s 57))])
def ZST:PC :=
 (.reg [3,4,59,60,61] [I 58 (.fadr 2 (.s 1)),I 59 (.ld false 1 (.s 58)),I 60 (.len 1 (.s 59)),I 61 (.mv (V 0))])
def ZSU:PC :=
 (.reg [3,4,59,60,61,62] [I 62 (.bin .lss (.s 61) (.s 60))])
def ZSV:PC :=
 (.reg [3,4,6,59,60,61] [I 63 (.ixS 4 (.s 59) (.s 61)),I 64 (.ld true 4 (.s 63)),I 6 (.box (.v ZK)),J (.st 4 (.s 6) (.s 64))])
def ZSW:PC :=
 (.reg [3,4,59,60,61,112] [I 65 (.fadr 0 (.s 6)),I 66 (.ld false 1 (.s 65)),I 67 (C ZBp [(.s 66)]),I 68 (.bin .neq (.s 67) (V 0)),I 69 (.mv (.s 68)),G 70 69 false (.fadr 1 (.s 6)),G 71 69 false (.fadr 0 (.s 70)),G 72 69 false (.ld false 1 (.s 71)),G 73 69 false (.mv (.s 3)),G 74 69 false (.bin .lss (.s 72) (.s 73)),I 75 (.pick (.s 69) (.v (.bool true)) (.s 74)),I 76 (.mv (.s 75)),G 77 76 false (.fadr 1 (.s 6)),G 78 76 false (.fadr 0 (.s 77)),G 79 76 false (.ld false 1 (.s 78)),G 80 76 false (.mv (.s 4)),G 81 76 false (.bin .gtr (.s 79) (.s 80)),I 82 (.pick (.s 76) (.v (.bool true)) (.s 81)),I 83 (.mv (.s 82)),G 84 83 false (.fadr 1 (.s 6)),G 85 83 false (.fadr 1 (.s 84)),G 86 83 false (.ld false 1 (.s 85)),G 87 83 false (.bin .lss (.s 86) (V 0)),I 88 (.pick (.s 83) (.v (.bool true)) (.s 87)),I 89 (.mv (.s 88)),G 90 89 false (.fadr 1 (.s 6)),G 91 89 false (.fadr 1 (.s 90)),G 92 89 false (.ld false 1 (.s 91)),G 93 89 false (.fadr 1 (.s 6)),G 94 89 false (.fadr 0 (.s 93)),G 95 89 false (.ld false 1 (.s 94)),G 96 89 false (.bin .gtr (.s 92) (.s 95)),I 97 (.pick (.s 89) (.v (.bool true)) (.s 96)),I 98 (.mv (.s 97)),G 99 98 false (.fadr 1 (.s 6)),G 100 98 false (.fadr 2 (.s 99)),G 101 98 false (.ld false 1 (.s 100)),G 102 98 false (.bin .lss (.s 101) (V 0)),I 103 (.pick (.s 98) (.v (.bool true)) (.s 102)),I 104 (.mv (.s 103)),G 105 104 false (.fadr 1 (.s 6)),G 106 104 false (.fadr 2 (.s 105)),G 107 104 false (.ld false 1 (.s 106)),G 108 104 false (.fadr 1 (.s 6)),G 109 104 false (.fadr 1 (.s 108)),G 110 104 false (.ld false 1 (.s 109)),G 111 104 false (.bin .gtr (.s 107) (.s 110)),I 112 (.pick (.s 104) (.v (.bool true)) (.s 111))])
def ZPH:PC :=
 (.reg [2] [I 2 (.mv (.v (.bool false)))])
def ZPI:PC :=
 (.reg [3,4,59,60,61] [I 113 (.bin .add (.s 61) (V 1)),I 61 (.mv (.s 113))])
def ZPJ:PC :=
 (.seq ZSU
 (.seq (.ite (.s 62)
 .skip
 (.exit 0))
 (.seq (.block 1
 (.seq ZSV
 (.seq ZSW
 (.ite (.s 112)
 (.seq ZPH
 .ret)
 .skip))))
 ZPI)))
def ZPK:PC :=
 (.reg [2] [I 2 (.mv (.v (.bool true)))])
def ZIy:PF:=⟨false,
 (.seq ZSN
 (.seq (.seq ZSO
 (.ite (.s 9)
 (.seq ZSP
 .ret)
 .skip))
 (.seq (.seq ZSQ
 (.ite (.s 50)
 (.seq ZSR
 .ret)
 .skip))
 (.seq ZSS
 (.seq (.seq ZST
 (.block 0
 (.loop ZPJ)))
 (.seq ZPK
 .ret)))))),
 [.s 2]⟩
theorem ZZo:Zv Go.Proofs.Try.prog false ZZn Go.Proofs.Try.f147=some ZIy:=by kernel_rfl
def Zcl:List Hint:=[H [0,2],H [0,2,3],H [0,2,3,6,7],H [0,2,3,6,7,8],H [0,2,3,4,5,6,7],H [0,2,3,6,7],H [0,2,3,6,7],H [2]]
def ZWd:PC :=
 (.reg [0,2] [I 2 (.box (.v ZM))])
def ZWe:PC :=
 (.reg [0,2,3] [I 3 (.box (.v ZM))])
def ZWf:PC :=
 (.reg [0,2,3,6,7] [I 6 (.build [.nilfunc,.nilfunc,.nilfunc] [(0,1,(.v (.func (.func XS) [] []))),(1,1,(.v (.func (.func Y5) [] []))),(2,1,(.v (.func (.func XT) [] [])))]),I 7 (.mv (V 0))])
def ZWg:PC :=
 (.reg [0,2,3,6,7,8] [I 8 (.bin .lss (.s 7) (V 3))])
def ZWh:PC :=
 (.reg [0,2,3,4,5,6,7] [I 9 (.mv (.s 7)),I 10 (.ixArr false 3 1 (.s 6) (.s 7)),I 4 (.mv (.s 9)),I 5 (.mv (.s 10))])
def ZWi:PC :=
 (.reg [0,2,3,6,7] [I 11 (.mv (.s 4)),I 12 (.mv (.s 0)),I 13 (.mv (.s 5)),I 14 (C ZA1 [(.s 12),(.s 13)]),I 15 (.ixA 3 1 (.s 3) (.s 11)),J (.st 1 (.s 15) (.s 14))])
def ZWj:PC :=
 (.reg [0,2,3,6,7] [I 16 (.bin .add (.s 7) (V 1)),I 7 (.mv (.s 16))])
def ZWk:PC :=
 (.seq ZWg
 (.seq (.ite (.s 8)
 .skip
 (.exit 0))
 (.seq (.block 1
 (.seq ZWh
 ZWi))
 ZWj)))
def ZWl:PC :=
 (.reg [2] [I 17 (.ld true 3 (.s 3)),I 18 (C YO [(.s 17)]),J (.st 3 (.s 2) (.s 18))])
def ZMT:PF:=⟨false,
 (.seq ZWd
 (.seq ZWe
 (.seq (.seq ZWf
 (.block 0
 (.loop ZWk)))
 (.seq ZWl
 .ret)))),
 [.c 2 true 3]⟩
theorem Zcm:Zv Go.Proofs.Try.prog false Zcl Go.Proofs.Try.f148=some ZMT:=by kernel_rfl
def ZZp:List Hint:=[H [0,2],H [0,2,3],H [2,3,8,9,10],H [2,3,8,9,10,11],H [2,3,5,8,9,10],H [2,3,8,9,10,20,21],H [2,3,8,9,10,20,21,22],H [2,3,6,7,8,9,10,20,21],H [2,3,8,9,10,20,21],H [2,3,8,9,10,20,21],H [2,3,8,9,10],H [2]]
def ZSX:PC :=
 (.reg [0,2] [I 2 (.box (.v ZM))])
def ZSY:PC :=
 (.reg [0,2,3] [I 3 (.box (.v ZM))])
def ZSZ:PC :=
 (.reg [2,3,8,9,10] [I 8 (.mv (.s 0)),I 9 (.len 1 (.s 8)),I 10 (.mv (V 0))])
def ZSa:PC :=
 (.reg [2,3,8,9,10,11] [I 11 (.bin .lss (.s 10) (.s 9))])
def ZSb:PC :=
 (.reg [2,3,5,8,9,10] [I 12 (.ixS 3 (.s 8) (.s 10)),I 13 (.ld true 3 (.s 12)),I 5 (.box (.v ZM)),J (.st 3 (.s 5) (.s 13))])
def ZSc:PC :=
 (.reg [2,3,8,9,10,20,21] [I 14 (.fadr 0 (.s 5)),I 15 (.ld false 1 (.s 14)),I 16 (.fadr 1 (.s 5)),I 17 (.ld false 1 (.s 16)),I 18 (.fadr 2 (.s 5)),I 19 (.ld false 1 (.s 18)),I 20 (.build [(.int .i64 0),(.int .i64 0),(.int .i64 0)] [(0,1,(.s 15)),(1,1,(.s 17)),(2,1,(.s 19))]),I 21 (.mv (V 0))])
def ZSd:PC :=
 (.reg [2,3,8,9,10,20,21,22] [I 22 (.bin .lss (.s 21) (V 3))])
def ZSe:PC :=
 (.reg [2,3,6,7,8,9,10,20,21] [I 23 (.mv (.s 21)),I 24 (.ixArr false 3 1 (.s 20) (.s 21)),I 6 (.mv (.s 23)),I 7 (.mv (.s 24))])
def ZSf:PC :=
 (.reg [2,3,8,9,10,20,21] [I 25 (.mv (.s 6)),I 26 (.ixA 3 1 (.s 3) (.s 25)),I 27 (.ld false 1 (.s 26)),I 28 (.mv (.s 7)),I 29 (.bin .add (.s 27) (.s 28)),I 30 (.ixA 3 1 (.s 3) (.s 25)),J (.st 1 (.s 30) (.s 29))])
def ZSg:PC :=
 (.reg [2,3,8,9,10,20,21] [I 31 (.bin .add (.s 21) (V 1)),I 21 (.mv (.s 31))])
def ZPL:PC :=
 (.seq ZSd
 (.seq (.ite (.s 22)
 .skip
 (.exit 2))
 (.seq (.block 3
 (.seq ZSe
 ZSf))
 ZSg)))
def ZPM:PC :=
 (.reg [2,3,8,9,10] [I 32 (.bin .add (.s 10) (V 1)),I 10 (.mv (.s 32))])
def ZPN:PC :=
 (.seq ZSa
 (.seq (.ite (.s 11)
 .skip
 (.exit 0))
 (.seq (.block 1
 (.seq ZSb
 (.seq ZSc
 (.block 2
 (.loop ZPL)))))
 ZPM)))
def ZPO:PC :=
 (.reg [2] [I 33 (.ld true 3 (.s 3)),I 34 (C YO [(.s 33)]),J (.st 3 (.s 2) (.s 34))])
def ZIz:PF:=⟨false,
 (.seq ZSX
 (.seq ZSY
 (.seq (.seq ZSZ
 (.block 0
 (.loop ZPN)))
 (.seq ZPO
 .ret)))),
 [.c 2 true 3]⟩
theorem ZZq:Zv Go.Proofs.Try.prog false ZZp Go.Proofs.Try.f149=some ZIz:=by kernel_rfl
def ZHg:List Hint:=[H [0],H [0,6],H [2,3],H [0,12],H [2,3],H [0,4],H [0,4],H [0,4],H [2,3]]
def ZEy:PC :=
 (.reg [0] [I 2 (.mv (.v (.int .u64 0))),I 3 (.mv (V 0))])
def ZEz:PC :=
 (.reg [0,6] [I 5 (.mv (.s 0)),I 6 (.eqs false 3 [] (.s 5) (.v .nilptr))])
def ZE0:PC :=
 (.reg [2,3] [I 2 (.mv (.v (.int .u64 0))),I 3 (.mv (V 1))])
def ZE1:PC :=
 (.reg [0,12] [I 7 (.mv (.s 0)),I 8 (.nilck (.s 7)),I 9 (.fadr 0 (.s 8)),I 10 (.ld false 1 (.s 9)),I 11 (.len 1 (.s 10)),I 12 (.bin .eql (.s 11) (V 0))])
def ZE2:PC :=
 (.reg [2,3] [I 2 (.mv (.v (.int .u64 0))),I 3 (.mv (V 6))])
def ZE3:PC :=
 (.reg [0,4] [I 13 (.mv (.s 0)),I 14 (.nilck (.s 13)),I 15 (.fadr 0 (.s 14)),I 16 (.ld false 1 (.s 15)),I 17 (.mv (.s 0)),I 18 (.nilck (.s 17)),I 19 (.fadr 0 (.s 18)),I 20 (.ld false 1 (.s 19)),I 21 (.len 1 (.s 20)),I 22 (.bin .sub (.s 21) (V 1)),I 23 (.ixS 1 (.s 16) (.s 22)),I 24 (.ld false 1 (.s 23)),I 4 (.mv (.s 24))])
def ZE4:PC :=
 (.reg [0,4] [I 25 (.mv (.s 0)),I 26 (.mv (.s 0)),I 27 (.nilck (.s 26)),I 28 (.fadr 0 (.s 27)),I 29 (.ld false 1 (.s 28)),I 30 (.mv (.s 0)),I 31 (.nilck (.s 30)),I 32 (.fadr 0 (.s 31)),I 33 (.ld false 1 (.s 32)),I 34 (.len 1 (.s 33)),I 35 (.bin .sub (.s 34) (V 1)),I 36 (.slc 1 (.s 29) none (some (.s 35))),I 37 (.nilck (.s 25)),I 38 (.fadr 0 (.s 37)),J (.st 1 (.s 38) (.s 36))])
def ZE5:PC :=
 (.reg [0,4] [I 39 (.mv (.s 0)),I 40 (.nilck (.s 39)),I 41 (.fadr 1 (.s 40)),I 42 (.ld false 1 (.s 41)),I 43 (.mv (.s 4)),I 44 (.ixS 1 (.s 42) (.s 43)),J (.st 1 (.s 44) (.v (.int .u8 1)))])
def ZE6:PC :=
 (.reg [2,3] [I 45 (.mv (.s 4)),I 46 (.mv (.s 0)),I 47 (.nilck (.s 46)),I 48 (.fadr 2 (.s 47)),I 49 (.ld false 1 (.s 48)),I 50 (.mv (.s 4)),I 51 (.ixS 1 (.s 49) (.s 50)),I 52 (.ld false 1 (.s 51)),I 53 (C ZDD [(.s 45),(.s 52)]),I 54 (.ext (.s 53) 0),I 55 (.ext (.s 53) 1),I 2 (.mv (.s 54)),I 3 (.mv (.s 55))])
def ZAp:PF:=⟨false,
 (.seq ZEy
 (.seq (.seq ZEz
 (.ite (.s 6)
 (.seq ZE0
 .ret)
 .skip))
 (.seq (.seq ZE1
 (.ite (.s 12)
 (.seq ZE2
 .ret)
 .skip))
 (.seq ZE3
 (.seq ZE4
 (.seq ZE5
 (.seq ZE6
 .ret))))))),
 [.s 2,.s 3]⟩
theorem ZHh:Zv Go.Proofs.Try.prog false ZHg Go.Proofs.Try.f150=some ZAp:=by kernel_rfl
def ZZr:List Hint:=[H [1,2,3,4],H [1,2,3,4,16],H [2,3,4],H [3,4],H [3,26,27,28],H [3,26,27,28,29],H [3,6,26,27,28],H [3,26,27,28],H [3,26,27,28]]
def ZSh:PC :=
 (.reg [1,2,3,4] [I 4 (.box (.s 0))])
def ZSi:PC :=
 (.reg [1,2,3,4,16] [I 7 (.fadr 0 (.s 4)),I 8 (.ld false 1 (.s 7)),I 9 (.bin .neq (.s 8) (.v (.int .u64 0))),I 10 (.mv (.s 9)),G 11 10 true (.ld false 1 (.s 1)),G 12 10 true (.fadr 0 (.s 4)),G 13 10 true (.ld false 1 (.s 12)),G 14 10 true (.look 0 (.bool false) false (.s 11) (.s 13)),G 15 10 true (.un .not (.s 14)),I 16 (.pick (.s 10) (.s 15) (.v (.bool false)))])
def ZSj:PC :=
 (.reg [2,3,4] [I 17 (.ld false 1 (.s 1)),I 18 (.fadr 0 (.s 4)),I 19 (.ld false 1 (.s 18)),J (.mupd 0 (.s 17) (.s 19) (.v (.bool true)))])
def ZSk:PC :=
 (.reg [3,4] [I 20 (.ld false 1 (.s 2)),I 21 (.fadr 0 (.s 4)),I 22 (.ld false 1 (.s 21)),I 23 (.bslice false 1 [(.int .u64 0)] [(0,(.s 22))]),I 24 (.app 1 8 (.s 20) (.s 23)),J (.st 1 (.s 2) (.s 24))])
def ZFT:PC :=
 (.reg [3,26,27,28] [I 25 (.fadr 6 (.s 4)),I 26 (.ld false 1 (.s 25)),I 27 (.len 1 (.s 26)),I 28 (.mv (V 0))])
def ZSl:PC :=
 (.reg [3,26,27,28,29] [I 29 (.bin .lss (.s 28) (.s 27))])
def ZSm:PC :=
 (.reg [3,6,26,27,28] [I 30 (.ixS 7 (.s 26) (.s 28)),I 31 (.ld true 7 (.s 30)),I 6 (.box (.v ZT)),J (.st 7 (.s 6) (.s 31))])
def ZSn:PC :=
 (.reg [3,26,27,28] [I 32 (.ld false 1 (.s 3)),I 33 (.ld true 7 (.s 6)),I 34 (.call .norm (.s 32) [(.s 33)])])
def ZSo:PC :=
 (.reg [3,26,27,28] [I 35 (.bin .add (.s 28) (V 1)),I 28 (.mv (.s 35))])
def ZA2:PC :=
 (.seq ZSl
 (.seq (.ite (.s 29)
 .skip
 (.exit 0))
 (.seq (.block 1
 (.seq ZSm
 ZSn))
 ZSo)))
def ZI0:PF:=⟨false,
 (.seq ZSh
 (.seq (.seq ZSi
 (.ite (.s 16)
 (.seq ZSj
 ZSk)
 .skip))
 (.seq ZFT
 (.block 0
 (.loop ZA2))))),
 []⟩
theorem ZZs:Zv Go.Proofs.Try.prog false ZZr Go.Proofs.Try.f151=some ZI0:=by kernel_rfl
def Zcn:List Hint:=[H [0,1],H [0,1,15],H [4,5],H [0,1,6],H [0,1,6,21],H [4,5],H [0,1,6,31],H [4,5],H [6,7],H [4,5]]
def ZWm:PC :=
 (.reg [0,1] [I 4 (.mv (.v .nils)),I 5 (.mv (V 0))])
def ZWn:PC :=
 (.reg [0,1,15] [I 8 (.mv (.s 0)),I 9 (C Xv [(.s 8)]),I 10 (.un .not (.s 9)),I 11 (.mv (.s 10)),G 12 11 false (.mv (.s 1)),G 13 11 false (C Xv [(.s 12)]),G 14 11 false (.un .not (.s 13)),I 15 (.pick (.s 11) (.v (.bool true)) (.s 14))])
def ZWo:PC :=
 (.reg [4,5] [I 4 (.mv (.v .nils)),I 5 (.mv (V 2))])
def ZWp:PC :=
 (.reg [0,1,6] [I 16 (.mv (.s 0)),I 17 (.mv (.s 1)),I 18 (.bin .add (.s 16) (.s 17)),I 6 (.mv (.s 18))])
def ZWq:PC :=
 (.reg [0,1,6,21] [I 19 (.mv (.s 6)),I 20 (.len 0 (.s 19)),I 21 (.bin .leq (.s 20) (V 16))])
def ZWr:PC :=
 (.reg [4,5] [I 22 (.mv (.s 6)),I 23 (.bslice false 1 [(.str [])] [(0,(.s 22))]),I 4 (.mv (.s 23)),I 5 (.mv (V 0))])
def ZWs:PC :=
 (.reg [0,1,6,31] [I 24 (.mv (.s 0)),I 25 (.len 0 (.s 24)),I 26 (.bin .geq (.s 25) (V 8)),I 27 (.mv (.s 26)),G 28 27 true (.mv (.s 1)),G 29 27 true (.len 0 (.s 28)),G 30 27 true (.bin .geq (.s 29) (V 8)),I 31 (.pick (.s 27) (.s 30) (.v (.bool false)))])
def ZWt:PC :=
 (.reg [4,5] [I 32 (.mv (.s 0)),I 33 (.mv (.s 1)),I 34 (.bslice false 1 [(.str []),(.str [])] [(0,(.s 32)),(1,(.s 33))]),I 4 (.mv (.s 34)),I 5 (.mv (V 0))])
def ZWu:PC :=
 (.reg [6,7] [I 35 (.mv (.s 6)),I 36 (.len 0 (.s 35)),I 37 (.bin .add (.s 36) (V 1)),I 38 (.bin .quo (.s 37) (V 2)),I 7 (.mv (.s 38))])
def ZWv:PC :=
 (.reg [4,5] [I 39 (.mv (.s 6)),I 40 (.mv (.s 7)),I 41 (.slcS (.s 39) none (some (.s 40))),I 42 (.mv (.s 6)),I 43 (.mv (.s 7)),I 44 (.slcS (.s 42) (some (.s 43)) none),I 45 (.bslice false 1 [(.str []),(.str [])] [(0,(.s 41)),(1,(.s 44))]),I 4 (.mv (.s 45)),I 5 (.mv (V 0))])
def ZMU:PF:=⟨false,
 (.seq ZWm
 (.seq (.seq ZWn
 (.ite (.s 15)
 (.seq ZWo
 .ret)
 .skip))
 (.seq ZWp
 (.seq (.seq ZWq
 (.ite (.s 21)
 (.seq ZWr
 .ret)
 .skip))
 (.seq (.seq ZWs
 (.ite (.s 31)
 (.seq ZWt
 .ret)
 .skip))
 (.seq ZWu
 (.seq ZWv
 .ret))))))),
 [.s 4,.s 5]⟩
theorem Zco:Zv Go.Proofs.Try.prog false Zcn Go.Proofs.Try.f152=some ZMU:=by kernel_rfl
def ZZt:List Hint:=[H [0],H [0,2,3],H [2,3,4,5],H [2,3,4,5,6],H [2,3,4,5],H [2,3,4,5],H [2,3,4,5],H [2,3]]
def ZSp:PC :=
 (.reg [0] [I 2 (.mv (V 0)),I 3 (.mv (V 0))])
def ZSq:PC :=
 (.reg [0,2,3] [I 2 (.mv (V 8)),I 3 (.mv (V 16))])
def ZSr:PC :=
 (.reg [2,3,4,5] [I 4 (.mv (.s 0)),I 5 (.mv (V 0))])
def ZSs:PC :=
 (.reg [2,3,4,5,6] [I 6 (.bin .lss (.s 5) (.s 4))])
def ZSt:PC :=
 (.reg [2,3,4,5] [I 7 (.mv (.s 2)),I 8 (.bin .mul (.s 7) (V 2)),I 2 (.mv (.s 8))])
def ZSu:PC :=
 (.reg [2,3,4,5] [I 9 (.mv (.s 3)),I 10 (.bin .mul (.s 9) (V 4)),I 11 (.mnx false (.s 10) (V 65536)),I 3 (.mv (.s 11))])
def ZSv:PC :=
 (.reg [2,3,4,5] [I 12 (.bin .add (.s 5) (V 1)),I 5 (.mv (.s 12))])
def ZSw:PC :=
 (.seq ZSs
 (.seq (.ite (.s 6)
 .skip
 (.exit 0))
 (.seq (.block 1
 (.seq ZSt
 ZSu))
 ZSv)))
def ZSx:PC :=
 (.reg [2,3] [I 13 (.mv (.s 2)),I 14 (.mv (.s 3)),I 15 (.mnx false (.s 14) (V 65536)),I 2 (.mv (.s 13)),I 3 (.mv (.s 15))])
def ZI1:PF:=⟨false,
 (.seq ZSp
 (.seq ZSq
 (.seq (.seq ZSr
 (.block 0
 (.loop ZSw)))
 (.seq ZSx
 .ret)))),
 [.s 2,.s 3]⟩
theorem ZZu:Zv Go.Proofs.Try.prog false ZZt Go.Proofs.Try.f153=some ZI1:=by kernel_rfl
def ZSy:List Hint:=[H [],H [2]]
def ZMV:PC :=
 (.reg [] [I 2 (.mv (.v (.bool false)))])
def ZMW:PC :=
 (.reg [2] [I 2 (.mv (.v (.bool true)))])
def ZFU:PF:=⟨false,
 (.seq ZMV
 (.seq ZMW
 .ret)),
 [.s 2]⟩
theorem ZSz:Zv Go.Proofs.Try.prog false ZSy Go.Proofs.Try.f154=some ZFU:=by kernel_rfl
def ZS0:List Hint:=[H [0],H [2]]
def ZMX:PC :=
 (.reg [0] [I 2 (.mv (.v (.bool false)))])
def ZMY:PC :=
 (.reg [2] [I 3 (.mv (.s 0)),I 4 (.bin .eql (.s 3) (.v (.int .u8 10))),I 2 (.mv (.s 4))])
def ZFV:PF:=⟨false,
 (.seq ZMX
 (.seq ZMY
 .ret)),
 [.s 2]⟩
theorem ZS1:Zv Go.Proofs.Try.prog false ZS0 Go.Proofs.Try.f155=some ZFV:=by kernel_rfl
def ZKB:List Hint:=[H [1,2],H [1,2,5],H [2],H [2]]
def ZHi:PC :=
 (.reg [1,2] [I 1 (.box (.s 0)),I 2 (.box (.v ZM))])
def ZHj:PC :=
 (.reg [1,2,5] [I 3 (.ld true 3 (.s 1)),I 4 (.build [(.int .i64 0),(.int .i64 0),(.int .i64 0)] []),I 5 (.eqs false 0 [(0,0),(1,0),(2,0)] (.s 3) (.s 4))])
def ZHk:PC :=
 (.reg [2] [I 6 (.build [(.int .i64 0),(.int .i64 0),(.int .i64 0)] []),J (.st 3 (.s 2) (.s 6))])
def ZHl:PC :=
 (.reg [2] [I 7 (.ixA 3 1 (.s 1) (V 0)),I 8 (.ld false 1 (.s 7)),I 9 (.ixA 3 1 (.s 1) (V 1)),I 10 (.ld false 1 (.s 9)),I 11 (.ixA 3 1 (.s 1) (V 2)),I 12 (.ld false 1 (.s 11)),I 13 (.build [(.int .i64 0),(.int .i64 0),(.int .i64 0)] [(0,1,(.s 8)),(1,1,(.s 10)),(2,1,(.s 12))]),J (.st 3 (.s 2) (.s 13))])
def ZCb:PF:=⟨false,
 (.seq ZHi
 (.seq (.seq ZHj
 (.ite (.s 5)
 (.seq ZHk
 .ret)
 .skip))
 (.seq ZHl
 .ret))),
 [.c 2 true 3]⟩
theorem ZKC:Zv Go.Proofs.Try.prog false ZKB Go.Proofs.Try.f156=some ZCb:=by kernel_rfl
end Go.Q15
