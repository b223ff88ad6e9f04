/- Resolved code, printed by program. No condition. -/
import Derived.Test.YtleajkoecgbnlaaGreatProg
import Derived.KernelRfl
import Derived.Test.YtleajkoecgbnlaaGreatSpT3
set_option linter.unusedVariables false
set_option linter.unusedSimpArgs false
namespace Go.Q15
open Go Go.QAbs
set_option maxRecDepth 100000
abbrev J2:FuncId:=3
abbrev Yn:FuncId:=14
abbrev JY:FuncId:=15
abbrev YF:FuncId:=16
abbrev Jm:FuncId:=17
abbrev YG:FuncId:=18
abbrev Xn:FuncId:=19
abbrev ZAx:FuncId:=20
abbrev Xo:FuncId:=21
abbrev Jo:FuncId:=22
abbrev ZEP:FuncId:=25
abbrev ZAy:FuncId:=26
abbrev ZLX:FuncId:=27
abbrev XF:FuncId:=35
abbrev ZC2:FuncId:=49
abbrev ZCm:FuncId:=57
abbrev ZB2:FuncId:=58
abbrev XY:FuncId:=68
abbrev XZ:FuncId:=69
abbrev XG:FuncId:=70
abbrev YH:FuncId:=71
abbrev XH:FuncId:=72
abbrev ZGx:FuncId:=73
abbrev Xp:FuncId:=74
abbrev JM:FuncId:=75
abbrev XK:FuncId:=76
abbrev ZC3:FuncId:=77
abbrev Xa:FuncId:=78
abbrev Yo:FuncId:=82
abbrev Qp:FuncId:=84
abbrev ZBH:FuncId:=85
abbrev ZBI:FuncId:=86
abbrev ZZB:FuncId:=89
abbrev Yp:FuncId:=94
abbrev Jr:FuncId:=95
abbrev QX:FuncId:=111
abbrev ZAb:FuncId:=113
abbrev ZAz:FuncId:=114
abbrev ZAP:FuncId:=115
abbrev ZBJ:FuncId:=116
abbrev ZB3:FuncId:=126
abbrev Xq:FuncId:=127
abbrev ZB4:FuncId:=134
abbrev YI:FuncId:=135
abbrev YS:FuncId:=136
abbrev Xf:FuncId:=137
abbrev Js:FuncId:=138
abbrev Qj:FuncId:=139
abbrev Yz:FuncId:=140
abbrev XQ:FuncId:=141
abbrev ZA0:FuncId:=142
abbrev Jt:FuncId:=143
abbrev ZGy:FuncId:=144
abbrev Yq:FuncId:=145
abbrev YV:FuncId:=146
abbrev ZCn:FuncId:=149
abbrev ZGz:FuncId:=155
abbrev ZAQ:FuncId:=156
abbrev Qq:FuncId:=157
abbrev ZAR:FuncId:=158
abbrev ZB5:FuncId:=159
abbrev YW:FuncId:=164
abbrev QA:FuncId:=179
abbrev ZCo:FuncId:=181
abbrev Xr:FuncId:=182
abbrev XR:FuncId:=183
abbrev Y0:FuncId:=184
abbrev YP:FuncId:=185
abbrev J9:FuncId:=186
abbrev ZC4:FuncId:=188
abbrev ZB6:FuncId:=197
abbrev ZES:FuncId:=198
abbrev QN:FuncId:=199
abbrev ZC5:FuncId:=201
abbrev YT:FuncId:=203
abbrev ZBK:FuncId:=204
abbrev ZAS:FuncId:=205
abbrev Qm:FuncId:=206
abbrev ZAc:FuncId:=207
abbrev YA:FuncId:=208
abbrev ZG2:FuncId:=213
abbrev ZB7:FuncId:=219
abbrev XS:FuncId:=220
abbrev Xs:FuncId:=221
abbrev ZB8:FuncId:=222
abbrev ZAd:FuncId:=223
abbrev Xt:FuncId:=225
abbrev Xu:FuncId:=226
abbrev Jj:FuncId:=227
abbrev JN:FuncId:=228
abbrev Xv:FuncId:=229
abbrev ZAe:FuncId:=240
abbrev ZET:FuncId:=241
abbrev ZC6:FuncId:=242
abbrev Ju:FuncId:=243
abbrev ZC7:FuncId:=245
abbrev ZCq:FuncId:=246
abbrev Y1:FuncId:=247
abbrev JZ:FuncId:=248
abbrev ZC8:FuncId:=254
abbrev ZB9:FuncId:=255
abbrev XT:FuncId:=256
abbrev YJ:FuncId:=257
abbrev ZEU:FuncId:=260
abbrev Yr:FuncId:=261
abbrev ZCA:FuncId:=263
abbrev I (d:Nat) (o:PO):PI:=⟨some d,none,false,o⟩
abbrev G (d g:Nat) (b:Bool) (o:PO):PI:=⟨some d,some (g,b),false,o⟩
abbrev J (o:PO):PI:=⟨none,none,false,o⟩
abbrev C (f:FuncId) (a:List Opd):PO:=.call .norm (.v (.func (.func f) [] [])) a
abbrev H (k:List Nat):Hint:=⟨k,[],[],[],[],[]⟩
abbrev V (i:Int):Opd:=.v (.int .i64 i)
abbrev M (d s:Nat):PI:=I d (.mv (.s s))
abbrev X (d s i:Nat):PI:=I d (.ext (.s s) i)
abbrev L (d s:Nat):PI:=I d (.ld false 1 (.s s))
abbrev T (d n s:Nat):PI:=I d (.ld true n (.s s))
abbrev F (d n s:Nat):PI:=I d (.fadr n (.s s))
abbrev U (d g:Nat) (b:Bool) (s:Nat):PI:=G d g b (.mv (.s s))
abbrev W (d:Nat) (o:BinOp) (s:Nat) (i:Int):PI:=I d (.bin o (.s s) (V i))
abbrev B (d:Nat) (o:BinOp) (s t:Nat):PI:=I d (.bin o (.s s) (.s t))
abbrev K (d:Nat) (i:Int):PI:=I d (.mv (V i))
abbrev N (n a x:Nat):PI:=J (.st n (.s a) (.s x))
abbrev E (c:Nat) (a b:PC):PC:=.ite (.s c) a b
abbrev D (a b:PC):PC:=.seq a b
abbrev R (k:List Nat) (l:List PI):PC:=.reg k l
abbrev ZT:AV:=.agg [(.int .u64 0),(.int .i64 0),(.int .i64 0),(.int .i64 0),(.int .i64 0),(.str []),.nils]
abbrev ZR:AV:=.agg [(.int .u64 0),(.int .i64 0),(.int .i64 0),(.int .i64 0),(.int .i64 0)]
abbrev ZM:AV:=.agg [(.int .i64 0),(.int .i64 0),(.int .i64 0)]
abbrev ZN:AV:=.agg [(.int .i64 0),(.str []),.nils]
abbrev ZK:AV:=.agg [(.int .u64 0),(.int .i64 0),(.int .i64 0),(.int .i64 0)]
def ZC9:List Hint:=[H [0,1,2,3,4],H [0,1,2,3,4,31],H [10],H [2,3,4,11,12,13,14],H [2,3,4,11,12,13,42],H [10],H [2,3,4,11,12,13,45],H [10],H [3,4,11,12,13,15],⟨[3,4,11,16,17],[],[],[],[(7,(.only (.s 13))),(9,(.off (.s 13))),(6,(.only (.s 13)))],[]⟩,H [3,4,11,16,17],H [3,4,11,16,17],H [3,4,11,16,17,18,19],H [3,4,11,16,17,18,19,20,21],H [3,4,11,16,17,18,19,20,21,22,23],⟨[3,4,11,16,17,18,20,22,125],[],[(29,.pure)],[],[],[]⟩,H [10],H [3,4,11,16,17,18,20,22,24],H [3,4,11,16,17,18,20,22,24,25],H [3,4,11,16,17,18,20,22,24,25,129],H [3,4,11,16,17,18,20,22,24,25,145],H [10],H [3,4,11,16,17,18,20,22,24,25,26],⟨[3,4,11,16,17,18,20,22,24,25],[],[],[],[(18,(.plain (.s 24))),(13,(.hide [(.s 24)])),(16,(.plain (.s 24))),(8,(.hide [(.s 24)]))],[]⟩,H [3,4,11,16,17,18,20,22,24,25],H [3,4,11,16,17,18,19,22,24,27],H [17,18,19,21,22,24,27,28],H [10]]
def ZCB:PC :=
 (R [0,1,2,3,4] [I 10 (.mv (.v (.bool false)))])
def ZCC:PC :=
 (R [0,1,2,3,4,31] [M 29 0,M 30 1,I 31 (C Yn [(.s 29),(.s 30)])])
def ZCD:PC :=
 (R [10] [I 32 (C JY []),M 10 32])
def ZCE:PC :=
 (R [2,3,4,11,12,13,14] [M 34 0,M 35 1,I 36 (C YF [(.s 34),(.s 35)]),M 33 36,X 37 33 0,X 38 33 1,X 39 33 2,X 40 33 3,M 11 37,M 12 38,M 13 39,M 14 40])
def ZCF:PC :=
 (R [2,3,4,11,12,13,42] [M 41 14,I 42 (.un .not (.s 41))])
def ZCG:PC :=
 (R [10] [I 10 (.mv (.v (.bool false)))])
def ZCH:PC :=
 (R [2,3,4,11,12,13,45] [M 43 12,I 44 (.len 1 (.s 43)),W 45 .eql 44 0])
def ZCI:PC :=
 (R [10] [I 46 (C JY []),M 10 46])
def ZCJ:PC :=
 (R [3,4,11,12,13,15] [M 47 2,M 48 12,I 49 (.len 1 (.s 48)),W 50 .sub 49 1,I 51 (C Jm [(.s 47),(.s 50)]),M 15 51])
def ZCK:PC :=
 (R [3,4,11,16,17] [M 52 12,M 53 15,I 54 (.ixS 5 (.s 52) (.s 53)),T 55 5 54,M 56 13,M 57 15,I 58 (.w (.only (.s 13)) (.ixS 1 (.s 56) (.s 57))),I 59 (.w (.only (.s 13)) (.ld false 1 (.s 58))),I 16 (.box (.v ZR)),J (.w (.off (.s 13)) (.st 5 (.s 16) (.s 55))),M 17 59])
def ZBL:PC :=
 (R [3,4,11,16,17] [M 60 3,M 61 17,I 62 (.len 0 (.s 61)),I 63 (C Jm [(.s 60),(.s 62)]),M 3 63])
def ZBM:PC :=
 (R [3,4,11,16,17] [M 64 4,M 65 17,I 66 (.len 0 (.s 65)),M 67 3,B 68 .sub 66 67,I 69 (C Jm [(.s 64),(.s 68)]),M 4 69])
def ZBN:PC :=
 (R [3,4,11,16,17,18,19] [M 71 11,T 72 5 16,M 73 3,M 74 4,I 75 (C YG [(.s 71),(.s 72),(.s 73),(.s 74)]),M 70 75,X 76 70 0,X 77 70 1,M 18 76,M 19 77])
def ZBO:PC :=
 (R [3,4,11,16,17,18,19,20,21] [M 79 11,T 80 5 16,M 81 3,M 82 4,I 83 (C Xn [(.s 79),(.s 80),(.s 81),(.s 82)]),M 78 83,X 84 78 0,X 85 78 1,M 20 84,M 21 85])
def ZBP:PC :=
 (R [3,4,11,16,17,18,19,20,21,22,23] [M 87 11,T 88 5 16,M 89 3,M 90 4,I 91 (C ZAx [(.s 87),(.s 88),(.s 89),(.s 90)]),M 86 91,X 92 86 0,X 93 86 1,I 22 (.box (.v ZM)),N 3 22 92,M 23 93])
def ZBQ:PC :=
 (R [3,4,11,16,17,18,20,22,125] [M 94 19,W 95 .neq 94 0,M 96 95,U 97 96 false 21,G 98 96 false (.bin .neq (.s 97) (V 0)),I 99 (.pick (.s 96) (.v (.bool true)) (.s 98)),M 100 99,U 101 100 false 23,G 102 100 false (.bin .neq (.s 101) (V 0)),I 103 (.pick (.s 100) (.v (.bool true)) (.s 102)),M 104 103,U 105 104 false 18,U 106 104 false 17,U 107 104 false 3,U 108 104 false 3,U 109 104 false 4,G 110 104 false (.bin .add (.s 108) (.s 109)),G 111 104 false (.slcS (.s 106) (some (.s 107)) (some (.s 110))),G 112 104 false (.bin .neq (.s 105) (.s 111)),I 113 (.pick (.s 104) (.v (.bool true)) (.s 112)),M 114 113,U 115 114 false 20,G 116 114 false (C Xo [(.s 115),(.v (.str []))]),U 117 114 false 18,G 118 114 false (.bin .neq (.s 116) (.s 117)),I 119 (.pick (.s 114) (.v (.bool true)) (.s 118)),M 120 119,G 121 120 false (.ld true 3 (.s 22)),U 122 120 false 18,G 123 120 false (.call .pure (.v (.func (.func Jo) [] [])) [(.s 122)]),G 124 120 false (.eqs true 0 [(0,0),(1,0),(2,0)] (.s 121) (.s 123)),I 125 (.pick (.s 120) (.v (.bool true)) (.s 124))])
def ZBR:PC :=
 (R [10] [I 10 (.mv (.v (.bool false)))])
def ZBS:PC :=
 (R [3,4,11,16,17,18,20,22,24] [I 24 (.box (.v ZM))])
def ZBT:PC :=
 (R [3,4,11,16,17,18,20,22,24,25] [K 25 0])
def ZBU:PC :=
 (R [3,4,11,16,17,18,20,22,24,25,129] [M 126 25,M 127 20,I 128 (.len 1 (.s 127)),B 129 .lss 126 128])
def ZBV:PC :=
 (R [3,4,11,16,17,18,20,22,24,25,145] [M 132 20,M 133 25,I 134 (.ixS 1 (.s 132) (.s 133)),L 135 134,I 136 (.len 0 (.s 135)),W 137 .lss 136 1,M 138 137,U 139 138 false 20,U 140 138 false 25,G 141 138 false (.ixS 1 (.s 139) (.s 140)),G 142 138 false (.ld false 1 (.s 141)),G 143 138 false (.len 0 (.s 142)),G 144 138 false (.bin .gtr (.s 143) (V 16)),I 145 (.pick (.s 138) (.v (.bool true)) (.s 144))])
def ZBW:PC :=
 (R [10] [I 10 (.mv (.v (.bool false)))])
def ZBX:PC :=
 (R [3,4,11,16,17,18,20,22,24,25,26] [M 146 20,M 147 25,I 148 (.ixS 1 (.s 146) (.s 147)),L 149 148,I 150 (C Jo [(.s 149)]),I 26 (.box (.v ZM)),N 3 26 150])
def ZBY:PC :=
 (R [3,4,11,16,17,18,20,22,24,25] [F 151 0 24,L 152 151,F 153 0 26,L 154 153,B 155 .add 152 154,F 156 1 24,L 157 156,F 158 1 26,I 159 (.w (.hide [(.s 24)]) (.ld false 1 (.s 158))),B 160 .add 157 159,F 161 2 24,L 162 161,F 163 2 26,I 164 (.w (.hide [(.s 24)]) (.ld false 1 (.s 163))),B 165 .add 162 164,F 166 0 24,J (.w (.plain (.s 24)) (.st 1 (.s 166) (.s 155))),F 167 1 24,J (.w (.plain (.s 24)) (.st 1 (.s 167) (.s 160))),F 168 2 24,N 1 168 165])
def ZBZ:PC :=
 (R [3,4,11,16,17,18,20,22,24,25] [M 130 25,W 131 .add 130 1,M 25 131])
def p_quartolaw18_SliceParts_25:PC :=
 (D (D ZBU
 (E 129
 .skip
 (.exit 0)))
 (D (.block 1
 (D (D ZBV
 (E 145
 (D ZBW
 .ret)
 .skip))
 (D ZBX
 ZBY)))
 ZBZ))
def ZBa:PC :=
 (R [3,4,11,16,17,18,19,22,24,27] [M 170 11,T 171 5 16,M 172 3,I 173 (C YG [(.s 170),(.s 171),(V 0),(.s 172)]),M 169 173,X 174 169 0,X 175 169 1,M 27 174,M 19 175])
def ZBb:PC :=
 (R [17,18,19,21,22,24,27,28] [M 177 11,T 178 5 16,M 179 3,M 180 4,B 181 .add 179 180,M 182 17,I 183 (.len 0 (.s 182)),M 184 3,B 185 .sub 183 184,M 186 4,B 187 .sub 185 186,I 188 (C YG [(.s 177),(.s 178),(.s 181),(.s 187)]),M 176 188,X 189 176 0,X 190 176 1,M 28 189,M 21 190])
def ZBc:PC :=
 (R [10] [M 191 19,W 192 .eql 191 0,M 193 192,U 194 193 true 21,G 195 193 true (.bin .eql (.s 194) (V 0)),I 196 (.pick (.s 193) (.s 195) (.v (.bool false))),M 197 196,G 198 197 true (.ld true 3 (.s 24)),G 199 197 true (.ld true 3 (.s 22)),G 200 197 true (.eqs false 0 [(0,0),(1,0),(2,0)] (.s 198) (.s 199)),I 201 (.pick (.s 197) (.s 200) (.v (.bool false))),M 202 201,U 203 202 true 27,U 204 202 true 18,G 205 202 true (.bin .add (.s 203) (.s 204)),U 206 202 true 28,G 207 202 true (.bin .add (.s 205) (.s 206)),U 208 202 true 17,G 209 202 true (.bin .eql (.s 207) (.s 208)),I 210 (.pick (.s 202) (.s 209) (.v (.bool false))),M 211 210,G 212 211 true (C JY []),I 213 (.pick (.s 211) (.s 212) (.v (.bool false))),M 10 213])
def XL:PF:=⟨false,
 (D ZCB
 (D (D ZCC
 (E 31
 (D ZCD
 .ret)
 .skip))
 (D ZCE
 (D (D ZCF
 (E 42
 (D ZCG
 .ret)
 .skip))
 (D (D ZCH
 (E 45
 (D ZCI
 .ret)
 .skip))
 (D ZCJ
 (D ZCK
 (D ZBL
 (D ZBM
 (D ZBN
 (D ZBO
 (D ZBP
 (D (D ZBQ
 (E 125
 (D ZBR
 .ret)
 .skip))
 (D ZBS
 (D (D ZBT
 (.block 0
 (.loop p_quartolaw18_SliceParts_25)))
 (D ZBa
 (D ZBb
 (D ZBc
 .ret)))))))))))))))))),
 [.s 10]⟩
theorem ZDA:Zr Proofs.Tryz.prog false ZC9 Proofs.Tryz.f3=some XL:=by kernel_rfl
def ZG4:List Hint:=[H [0,1],H [4]]
def ZEV:PC :=
 (R [0,1] [I 4 (.mv (.v (.bool false)))])
def ZEW:PC :=
 (R [4] [M 5 0,I 6 (C XY [(.s 5)]),M 7 6,U 8 7 false 1,G 9 7 false (C XZ [(.s 8)]),I 10 (.pick (.s 7) (.v (.bool true)) (.s 9)),M 11 10,U 12 11 false 1,G 13 11 false (.len 1 (.s 12)),G 14 11 false (.bin .gtr (.s 13) (V 12)),I 15 (.pick (.s 11) (.v (.bool true)) (.s 14)),M 4 15])
def ZAm:PF:=⟨false,
 (D ZEV
 (D ZEW
 .ret)),
 [.s 4]⟩
theorem ZG5:Zr Proofs.Tryz.prog false ZG4 Proofs.Tryz.f14=some ZAm:=by kernel_rfl
def ZIl:List Hint:=[H [],H [1,2,3],H [1,2,15],H [0],H [1,2,4,5],H [4,5,6,7,8],H [0]]
def ZFr:PC :=
 (R [] [I 0 (.mv (.v (.bool false)))])
def ZFs:PC :=
 (R [1,2,3] [I 10 (C XG []),M 9 10,X 11 9 0,X 12 9 1,X 13 9 2,I 2 (.box (.v ZR)),M 1 11,N 5 2 12,M 3 13])
def ZFt:PC :=
 (R [1,2,15] [M 14 3,I 15 (.un .not (.s 14))])
def ZFu:PC :=
 (R [0] [I 0 (.mv (.v (.bool false)))])
def ZFv:PC :=
 (R [1,2,4,5] [M 17 1,T 18 5 2,I 19 (C YG [(.s 17),(.s 18),(V 7),(V 4)]),M 16 19,X 20 16 0,X 21 16 1,M 4 20,M 5 21])
def ZFw:PC :=
 (R [4,5,6,7,8] [M 23 1,T 24 5 2,I 25 (C ZEP [(.s 23),(.s 24),(.v (.str [105,106])),(V 0)]),M 22 25,X 26 22 0,X 27 22 1,X 28 22 2,M 6 26,M 7 27,M 8 28])
def ZFx:PC :=
 (R [0] [M 29 5,W 30 .eql 29 0,M 31 30,U 32 31 true 8,G 33 31 true (.bin .eql (.s 32) (V 0)),I 34 (.pick (.s 31) (.s 33) (.v (.bool false))),M 35 34,U 36 35 true 4,G 37 35 true (.bin .eql (.s 36) (.v (.str [104,105,106,107]))),I 38 (.pick (.s 35) (.s 37) (.v (.bool false))),M 39 38,U 40 39 true 6,G 41 39 true (.bin .eql (.s 40) (V 8)),I 42 (.pick (.s 39) (.s 41) (.v (.bool false))),M 43 42,U 44 43 true 7,I 45 (.pick (.s 43) (.s 44) (.v (.bool false))),M 0 45])
def ZA4:PF:=⟨false,
 (D ZFr
 (D ZFs
 (D (D ZFt
 (E 15
 (D ZFu
 .ret)
 .skip))
 (D ZFv
 (D ZFw
 (D ZFx
 .ret)))))),
 [.s 0]⟩
theorem ZIm:Zr Proofs.Tryz.prog false ZIl Proofs.Tryz.f15=some ZA4:=by kernel_rfl
def ZJr:List Hint:=[H [0,1],H [0,1,8,9,10],H [0,1,8,9,26],H [4,5,6,7],H [1,8,9,11],H [1,8,9,11,12],H [1,8,9,11,12,33],H [1,8,9,11,12,13,14],H [1,8,9,11,12,13,48],H [4,5,6,7],H [1,8,9,11,12,13,15,16],H [1,8,9,11,12,13,15,58],H [4,5,6,7],H [1,8,9,11,12,15,16,17],H [1,8,9,11,12,15,16,17,69],H [1,8,9,11,12,15,17,71],H [4,5,6,7],H [1,8,9,11,12,15],H [1,8,9,11,12],H [1,8,9,11,12],H [4,5,6,7]]
def ZG6:PC :=
 (R [0,1] [I 4 (.mv (.v .nilptr)),I 5 (.mv (.v .nils)),I 6 (.mv (.v .nils)),I 7 (.mv (.v (.bool false)))])
def ZG7:PC :=
 (R [0,1,8,9,10] [M 20 0,I 21 (C YH [(.s 20)]),M 19 21,X 22 19 0,X 23 19 1,X 24 19 2,M 8 22,M 9 23,M 10 24])
def ZG8:PC :=
 (R [0,1,8,9,26] [M 25 10,I 26 (.un .not (.s 25))])
def ZG9:PC :=
 (R [4,5,6,7] [I 4 (.mv (.v .nilptr)),I 5 (.mv (.v .nils)),I 6 (.mv (.v .nils)),I 7 (.mv (.v (.bool false)))])
def ZHA:PC :=
 (R [1,8,9,11] [I 27 (.bslice false 1 [] []),M 28 0,I 29 (.app 1 16 (.s 27) (.s 28)),M 11 29])
def ZHB:PC :=
 (R [1,8,9,11,12] [K 12 0])
def ZHC:PC :=
 (R [1,8,9,11,12,33] [M 30 12,M 31 1,I 32 (.len 1 (.s 31)),B 33 .lss 30 32])
def ZHD:PC :=
 (R [1,8,9,11,12,13,14] [M 37 8,M 38 9,M 39 1,M 40 12,M 41 12,W 42 .add 41 1,I 43 (.slc 5 (.s 39) (some (.s 40)) (some (.s 42))),I 44 (C XH [(.s 37),(.s 38),(.s 43)]),M 36 44,X 45 36 0,X 46 36 1,M 13 45,M 14 46])
def ZHE:PC :=
 (R [1,8,9,11,12,13,48] [M 47 14,I 48 (.un .not (.s 47))])
def ZHF:PC :=
 (R [4,5,6,7] [I 4 (.mv (.v .nilptr)),I 5 (.mv (.v .nils)),I 6 (.mv (.v .nils)),I 7 (.mv (.v (.bool false)))])
def ZFy:PC :=
 (R [1,8,9,11,12,13,15,16] [M 50 8,M 51 13,I 52 (.ixS 7 (.s 51) (V 0)),T 53 7 52,I 54 (C ZGx [(.s 50),(.s 53)]),M 49 54,X 55 49 0,X 56 49 1,M 15 55,M 16 56])
def ZFz:PC :=
 (R [1,8,9,11,12,13,15,58] [M 57 16,W 58 .neq 57 0])
def ZF0:PC :=
 (R [4,5,6,7] [I 4 (.mv (.v .nilptr)),I 5 (.mv (.v .nils)),I 6 (.mv (.v .nils)),I 7 (.mv (.v (.bool false)))])
def ZF1:PC :=
 (R [1,8,9,11,12,15,16,17] [M 60 8,M 61 13,I 62 (.ixS 7 (.s 61) (V 0)),T 63 7 62,I 64 (C Xp [(.s 60),(.s 63)]),M 59 64,X 65 59 0,X 66 59 1,X 67 59 2,I 17 (.box (.v ZR)),N 5 17 65,M 18 66,M 16 67])
def ZF2:PC :=
 (R [1,8,9,11,12,15,16,17,69] [M 68 16,W 69 .eql 68 6])
def ZF3:PC :=
 (R [1,8,9,11,12,15,17,71] [M 70 16,W 71 .neq 70 0])
def ZF4:PC :=
 (R [4,5,6,7] [I 4 (.mv (.v .nilptr)),I 5 (.mv (.v .nils)),I 6 (.mv (.v .nils)),I 7 (.mv (.v (.bool false)))])
def ZF5:PC :=
 (R [1,8,9,11,12,15] [M 72 9,T 73 5 17,I 74 (.bslice false 5 [ZR] [(0,(.s 73))]),I 75 (.app 5 40 (.s 72) (.s 74)),M 9 75])
def ZF6:PC :=
 (R [1,8,9,11,12] [M 76 11,M 77 15,I 78 (.bslice false 1 [(.str [])] [(0,(.s 77))]),I 79 (.app 1 16 (.s 76) (.s 78)),M 11 79])
def ZF7:PC :=
 (R [1,8,9,11,12] [M 34 12,W 35 .add 34 1,M 12 35])
def ZF8:PC :=
 (D (D ZHC
 (E 33
 .skip
 (.exit 0)))
 (D (.block 1
 (D ZHD
 (D (D ZHE
 (E 48
 (D ZHF
 .ret)
 .skip))
 (D ZFy
 (D (D ZFz
 (E 58
 (D ZF0
 .ret)
 .skip))
 (D ZF1
 (D (D ZF2
 (E 69
 (.exit 1)
 .skip))
 (D (D ZF3
 (E 71
 (D ZF4
 .ret)
 .skip))
 (D ZF5
 ZF6)))))))))
 ZF7))
def ZF9:PC :=
 (R [4,5,6,7] [M 80 8,M 81 9,M 82 11,M 4 80,M 5 81,M 6 82,I 7 (.mv (.v (.bool true)))])
def Xb:PF:=⟨true,
 (D ZG6
 (D ZG7
 (D (D ZG8
 (E 26
 (D ZG9
 .ret)
 .skip))
 (D ZHA
 (D (D ZHB
 (.block 0
 (.loop ZF8)))
 (D ZF9
 .ret)))))),
 [.s 4,.s 5,.s 6,.s 7]⟩
theorem ZJs:Zr Proofs.Tryz.prog true ZJr Proofs.Tryz.f16=some Xb:=by kernel_rfl
def ZJt:List Hint:=[H [0,1],H [4]]
def ZHG:PC :=
 (R [0,1] [K 4 0])
def ZHH:PC :=
 (R [4] [M 5 0,M 6 1,I 7 (C JM [(.s 5),(.s 6)]),M 4 7])
def ZCL:PF:=⟨false,
 (D ZHG
 (D ZHH
 .ret)),
 [.s 4]⟩
theorem ZJu:Zr Proofs.Tryz.prog false ZJt Proofs.Tryz.f17=some ZCL:=by kernel_rfl
def Zcy:List Hint:=[H [0,2,3,5],H [10,11],H [8,9]]
def ZVC:PC :=
 (R [0,2,3,5] [I 5 (.box (.s 1)),I 8 (.mv (.v (.str []))),K 9 0])
def ZVD:PC :=
 (R [10,11] [M 13 0,T 14 5 5,M 15 2,M 16 3,I 17 (C Xn [(.s 13),(.s 14),(.s 15),(.s 16)]),M 12 17,X 18 12 0,X 19 12 1,M 10 18,M 11 19])
def ZVE:PC :=
 (R [8,9] [M 20 10,I 21 (C Xo [(.s 20),(.v (.str []))]),M 22 11,M 8 21,M 9 22])
def ZLa:PF:=⟨false,
 (D ZVC
 (D ZVD
 (D ZVE
 .ret))),
 [.s 8,.s 9]⟩
theorem Zcz:Zr Proofs.Tryz.prog false Zcy Proofs.Tryz.f18=some ZLa:=by kernel_rfl
def ZVF:List Hint:=[H [0,2,3,5,28,29],H [0,2,3,5,10,28,29],H [0,2,3,5,10,21,28,29],H [8,9],⟨[0,2,3,5,11,28,29],[0],[],[],[],[]⟩,H [0,2,3,5,11,12,28,29],H [11,12,27,28,29],H [11,12,13,29],H [11,12,13,14],H [11,12,13,14,31],H [11,12],H [11,12],H [8,9]]
def ZOG:PC :=
 (R [0,2,3,5,28,29] [I 5 (.box (.s 1)),I 8 (.mv (.v .nils)),K 9 0])
def ZOH:PC :=
 (R [0,2,3,5,10,28,29] [M 15 0,T 16 5 5,M 17 2,M 18 3,I 19 (C XK [(.s 15),(.s 16),(.s 17),(.s 18)]),M 10 19])
def ZOI:PC :=
 (R [0,2,3,5,10,21,28,29] [M 20 10,W 21 .neq 20 0])
def ZOJ:PC :=
 (R [8,9] [M 22 10,I 8 (.mv (.v .nils)),M 9 22])
def ZOK:PC :=
 (R [0,2,3,5,11,28,29] [I 11 (.boxnil 1)])
def ZOL:PC :=
 (R [0,2,3,5,11,12,28,29] [I 12 (.box (V 0)),J (.st 1 (.s 12) (V 0))])
def ZOM:PC :=
 (R [11,12,27,28,29] [M 23 0,T 24 5 5,M 25 2,M 26 3,I 27 (C ZC3 [(.s 23),(.s 24),(.s 25),(.s 26)])])
def ZON:PC :=
 (R [11,12,13,29] [M 13 28])
def ZOO:PC :=
 (R [11,12,13,14] [M 14 29])
def ZOP:PC :=
 (R [11,12,13,14,31] [M 30 14,W 31 .neq 30 0])
def ZLb:PC :=
 (R [11,12] [M 32 14,J (.st 1 (.s 11) (.v .nils)),N 1 12 32])
def ZLc:PC :=
 (R [11,12] [L 33 11,M 34 13,I 35 (.bslice false 1 [(.str [])] [(0,(.s 34))]),I 36 (.app 1 16 (.s 33) (.s 35)),N 1 11 36])
def ZLd:PC :=
 (R [8,9] [L 37 11,L 38 12,M 8 37,M 9 38])
def p_slice_Pieces:RF:=⟨39,
 (D ZOG
 (D (D ZOH
 (D ZOI
 (E 21
 (D ZOJ
 .ret)
 .skip)))
 (D ZOK
 (D ZOL
 (D .skip
 (D ZOM
 .skip)))))),
 ⟨(.s 27),[28,29],
 (D ZON
 ZOO),
 (.block 1
 (D (D ZOP
 (E 31
 (D ZLb
 (.exit 0))
 .skip))
 ZLc))⟩,
 (D .skip
 (D ZLd
 .ret)),
 [.s 8,.s 9]⟩
theorem ZVG:ZN7 Proofs.Tryz.prog ZVF Proofs.Tryz.f19=some p_slice_Pieces:=by kernel_rfl
def ZQ9:List Hint:=[H [0,2,3,5,8],H [0,2,3,5,8,10],H [0,2,3,5,8,10,23],H [8,9],H [0,2,3,5,8,11],⟨[0,2,3,5,8,11,32,33,34],[4],[],[],[],[]⟩,H [0,2,3,5,8,11,32,33,34,35],H [0,2,3,5,8,11,13,32,33,34],H [0,2,3,5,8,11,13,14,15,32,33,34],H [0,2,3,5,8,11,13,14,15,32,33,34,48],H [8,9],H [0,2,3,5,8,11,13,14,15,16,32,33,34],H [0,2,3,5,8,11,13,14,15,16,32,33,34,63],H [8,9],H [0,2,3,5,8,11,32,33,34],H [0,2,3,5,8,11,32,33,34],H [8,9]]
def ZLe:PC :=
 (R [0,2,3,5,8] [I 5 (.box (.s 1)),I 8 (.box (.v ZM)),K 9 0])
def ZLf:PC :=
 (R [0,2,3,5,8,10] [M 17 0,T 18 5 5,M 19 2,M 20 3,I 21 (C XK [(.s 17),(.s 18),(.s 19),(.s 20)]),M 10 21])
def ZLg:PC :=
 (R [0,2,3,5,8,10,23] [M 22 10,W 23 .neq 22 0])
def ZLh:PC :=
 (R [8,9] [I 24 (.build [(.int .i64 0),(.int .i64 0),(.int .i64 0)] []),M 25 10,N 3 8 24,M 9 25])
def ZLi:PC :=
 (R [0,2,3,5,8,11] [M 26 3,I 27 (.build [(.int .i64 0),(.int .i64 0),(.int .i64 0)] [(0,1,(.s 26))]),I 11 (.box (.v ZM)),N 3 11 27])
def ZLj:PC :=
 (R [0,2,3,5,8,11,32,33,34] [F 28 1 11,I 29 (.build [.nilfunc,.nilptr] [(0,1,(.v (.func (.func Xa) [] []))),(1,1,(.s 28))]),F 30 2 11,I 31 (.build [.nilfunc,.nilptr] [(0,1,(.v (.func (.func ZC2) [] []))),(1,1,(.s 30))]),I 32 (.bslice true 2 [(.agg [.nilfunc,.nilptr]),(.agg [.nilfunc,.nilptr])] [(0,(.s 29)),(1,(.s 31))]),I 33 (.len 1 (.s 32)),K 34 0])
def ZLk:PC :=
 (R [0,2,3,5,8,11,32,33,34,35] [B 35 .lss 34 33])
def ZLl:PC :=
 (R [0,2,3,5,8,11,13,32,33,34] [I 36 (.ixS 2 (.s 32) (.s 34)),T 37 2 36,I 13 (.box (.v (.agg [.nilfunc,.nilptr]))),N 2 13 37])
def ZLm:PC :=
 (R [0,2,3,5,8,11,13,14,15,32,33,34] [F 39 0 13,L 40 39,M 41 0,T 42 5 5,M 43 2,I 44 (.call .norm (.s 40) [(.s 41),(.s 42),(.s 43)]),M 38 44,X 45 38 0,X 46 38 1,M 14 45,M 15 46])
def ZLn:PC :=
 (R [0,2,3,5,8,11,13,14,15,32,33,34,48] [M 47 15,W 48 .neq 47 0])
def ZJv:PC :=
 (R [8,9] [I 49 (.build [(.int .i64 0),(.int .i64 0),(.int .i64 0)] []),M 50 15,N 3 8 49,M 9 50])
def ZJw:PC :=
 (R [0,2,3,5,8,11,13,14,15,16,32,33,34] [F 52 0 13,L 53 52,M 54 0,T 55 5 5,M 56 2,M 57 3,B 58 .add 56 57,I 59 (.call .norm (.s 53) [(.s 54),(.s 55),(.s 58)]),M 51 59,X 60 51 0,X 61 51 1,M 16 60,M 15 61])
def ZJx:PC :=
 (R [0,2,3,5,8,11,13,14,15,16,32,33,34,63] [M 62 15,W 63 .neq 62 0])
def ZJy:PC :=
 (R [8,9] [I 64 (.build [(.int .i64 0),(.int .i64 0),(.int .i64 0)] []),M 65 15,N 3 8 64,M 9 65])
def ZJz:PC :=
 (R [0,2,3,5,8,11,32,33,34] [F 66 1 13,L 67 66,M 68 16,M 69 14,B 70 .sub 68 69,I 71 (.nilck (.s 67)),N 1 71 70])
def ZJ0:PC :=
 (R [0,2,3,5,8,11,32,33,34] [W 72 .add 34 1,M 34 72])
def ZJ1:PC :=
 (D ZLk
 (D (E 35
 .skip
 (.exit 0))
 (D (.block 1
 (D ZLl
 (D ZLm
 (D (D ZLn
 (E 48
 (D ZJv
 .ret)
 .skip))
 (D ZJw
 (D (D ZJx
 (E 63
 (D ZJy
 .ret)
 .skip))
 ZJz))))))
 ZJ0)))
def ZJ2:PC :=
 (R [8,9] [T 73 3 11,N 3 8 73,K 9 0])
def ZFV:PF:=⟨false,
 (D ZLe
 (D (D ZLf
 (D ZLg
 (E 23
 (D ZLh
 .ret)
 .skip)))
 (D ZLi
 (D (D ZLj
 (.block 0
 (.loop ZJ1)))
 (D ZJ2
 .ret))))),
 [.c 8 true 3,.s 9]⟩
theorem ZRA:Zr Proofs.Tryz.prog false ZQ9 Proofs.Tryz.f20=some ZFV:=by kernel_rfl
def ZGA:List Hint:=[H [0,2],H [0,2,3],H [0,2,3,4],H [0,2,3,4,11],H [0,2,3,4,23],H [0,2,3,4],H [0,2,3,4,31],H [0,2,3,4],H [0,2,3,4],H [2]]
def ZDP:PC :=
 (R [0,2] [I 2 (.box (.v ZM))])
def ZDQ:PC :=
 (R [0,2,3] [M 5 0,I 6 (.len 0 (.s 5)),I 7 (.build [(.int .i64 0),(.int .i64 0),(.int .i64 0)] [(0,1,(.s 6))]),I 3 (.box (.v ZM)),N 3 3 7])
def ZDR:PC :=
 (R [0,2,3,4] [K 4 0])
def ZDS:PC :=
 (R [0,2,3,4,11] [M 8 4,M 9 0,I 10 (.len 0 (.s 9)),B 11 .lss 8 10])
def ZDT:PC :=
 (R [0,2,3,4,23] [M 14 0,M 15 4,I 16 (.ixStr (.s 14) (.s 15)),I 17 (.bin .lss (.s 16) (.v (.int .u8 128))),M 18 17,U 19 18 false 0,U 20 18 false 4,G 21 18 false (.ixStr (.s 19) (.s 20)),G 22 18 false (.bin .geq (.s 21) (.v (.int .u8 192))),I 23 (.pick (.s 18) (.v (.bool true)) (.s 22))])
def ZDU:PC :=
 (R [0,2,3,4] [F 24 1 3,L 25 24,W 26 .add 25 1,F 27 1 3,N 1 27 26])
def ZDV:PC :=
 (R [0,2,3,4,31] [M 28 0,M 29 4,I 30 (.ixStr (.s 28) (.s 29)),I 31 (.bin .eql (.s 30) (.v (.int .u8 10)))])
def ZDW:PC :=
 (R [0,2,3,4] [F 32 2 3,L 33 32,W 34 .add 33 1,F 35 2 3,N 1 35 34])
def ZDX:PC :=
 (R [0,2,3,4] [M 12 4,W 13 .add 12 1,M 4 13])
def ZDY:PC :=
 (D (D ZDS
 (E 11
 .skip
 (.exit 0)))
 (D (.block 1
 (D (D ZDT
 (E 23
 ZDU
 .skip))
 (D ZDV
 (E 31
 ZDW
 .skip))))
 ZDX))
def ZDB:PC :=
 (R [2] [T 36 3 3,N 3 2 36])
def ZAD:PF:=⟨false,
 (D ZDP
 (D ZDQ
 (D (D ZDR
 (.block 0
 (.loop ZDY)))
 (D ZDB
 .ret)))),
 [.c 2 true 3]⟩
theorem ZGB:Zr Proofs.Tryz.prog false ZGA Proofs.Tryz.f22=some ZAD:=by kernel_rfl
def Zc0:List Hint:=[H [0,2,3,5],H [0,2,3,5,11],H [0,2,3,5,11,20],H [8,9,10],H [2,3,12,13],H [2,3,12,13,35],H [8,9,10],H [3,14],H [3,14,41],H [8,9,10],H [8,9,10]]
def ZVH:PC :=
 (R [0,2,3,5] [I 5 (.box (.s 1)),K 8 0,I 9 (.mv (.v (.bool false))),K 10 0])
def ZVI:PC :=
 (R [0,2,3,5,11] [M 15 0,T 16 5 5,M 17 3,I 18 (C XK [(.s 15),(.s 16),(.s 17),(V 0)]),M 11 18])
def ZVJ:PC :=
 (R [0,2,3,5,11,20] [M 19 11,W 20 .neq 19 0])
def ZVK:PC :=
 (R [8,9,10] [M 21 11,K 8 0,I 9 (.mv (.v (.bool false))),M 10 21])
def ZVL:PC :=
 (R [2,3,12,13] [M 23 0,T 24 5 5,M 25 3,F 26 2 5,F 27 0 26,L 28 27,M 29 3,B 30 .sub 28 29,I 31 (C YG [(.s 23),(.s 24),(.s 25),(.s 30)]),M 22 31,X 32 22 0,X 33 22 1,M 12 32,M 13 33])
def ZVM:PC :=
 (R [2,3,12,13,35] [M 34 13,W 35 .neq 34 0])
def ZVN:PC :=
 (R [8,9,10] [M 36 13,K 8 0,I 9 (.mv (.v (.bool false))),M 10 36])
def ZVO:PC :=
 (R [3,14] [M 37 12,M 38 2,I 39 (C ZAy [(.s 37),(.s 38)]),M 14 39])
def ZVP:PC :=
 (R [3,14,41] [M 40 14,W 41 .lss 40 0])
def ZVQ:PC :=
 (R [8,9,10] [K 8 0,I 9 (.mv (.v (.bool false))),K 10 0])
def ZRB:PC :=
 (R [8,9,10] [M 42 3,M 43 14,B 44 .add 42 43,M 8 44,I 9 (.mv (.v (.bool true))),K 10 0])
def ZLo:PF:=⟨false,
 (D ZVH
 (D (D ZVI
 (D ZVJ
 (E 20
 (D ZVK
 .ret)
 .skip)))
 (D ZVL
 (D (D ZVM
 (E 35
 (D ZVN
 .ret)
 .skip))
 (D ZVO
 (D (D ZVP
 (E 41
 (D ZVQ
 .ret)
 .skip))
 (D ZRB
 .ret))))))),
 [.s 8,.s 9,.s 10]⟩
theorem Zc1:Zr Proofs.Tryz.prog false Zc0 Proofs.Tryz.f25=some ZLo:=by kernel_rfl
def ZRC:List Hint:=[H [0,1],H [4]]
def ZLp:PC :=
 (R [0,1] [K 4 0])
def ZLq:PC :=
 (R [4] [M 5 0,M 6 1,I 7 (C Qp [(.s 5),(.s 6)]),M 4 7])
def ZFW:PF:=⟨false,
 (D ZLp
 (D ZLq
 .ret)),
 [.s 4]⟩
theorem ZRD:Zr Proofs.Tryz.prog false ZRC Proofs.Tryz.f26=some ZFW:=by kernel_rfl
def Zc2:List Hint:=[H [0,3,20],H [0,3,6,20],H [0,3,6,14,20],H [4,5],⟨[0,3,7,20],[0],[],[],[],[]⟩,H [0,3,7,8,20],H [7,8,19,20],H [7,8,9],H [7,8,9,25],H [7,9],H [7],H [4,5]]
def ZVR:PC :=
 (R [0,3,20] [I 3 (.box (.s 1)),I 4 (.mv (.v .nils)),K 5 0])
def ZVS:PC :=
 (R [0,3,6,20] [M 10 0,T 11 5 3,I 12 (C ZBH [(.s 10),(.s 11)]),M 6 12])
def ZVT:PC :=
 (R [0,3,6,14,20] [M 13 6,W 14 .neq 13 0])
def ZVU:PC :=
 (R [4,5] [M 15 6,I 4 (.mv (.v .nils)),M 5 15])
def ZVV:PC :=
 (R [0,3,7,20] [I 7 (.boxnil 1)])
def ZVW:PC :=
 (R [0,3,7,8,20] [I 16 (.mkmap),I 8 (.box (.v .nilmap)),N 1 8 16])
def ZVX:PC :=
 (R [7,8,19,20] [M 17 0,T 18 5 3,I 19 (C ZBI [(.s 17),(.s 18)])])
def ZVY:PC :=
 (R [7,8,9] [M 9 20])
def ZVZ:PC :=
 (R [7,8,9,25] [L 22 8,M 23 9,I 24 (.look 0 (.bool false) false (.s 22) (.s 23)),I 25 (.un .not (.s 24))])
def ZVa:PC :=
 (R [7,9] [L 26 8,M 27 9,J (.mupd 0 (.s 26) (.s 27) (.v (.bool true)))])
def ZRE:PC :=
 (R [7] [L 28 7,M 29 9,I 30 (.bslice false 1 [(.int .u64 0)] [(0,(.s 29))]),I 31 (.app 1 8 (.s 28) (.s 30)),N 1 7 31])
def ZRF:PC :=
 (R [4,5] [L 32 7,M 4 32,K 5 0])
def ZEX:RF:=⟨33,
 (D ZVR
 (D (D ZVS
 (D ZVT
 (E 14
 (D ZVU
 .ret)
 .skip)))
 (D ZVV
 (D ZVW
 (D ZVX
 .skip))))),
 ⟨(.s 19),[20,21],
 ZVY,
 (.block 1
 (D ZVZ
 (E 25
 (D ZVa
 ZRE)
 .skip)))⟩,
 (D .skip
 (D ZRF
 .ret)),
 [.s 4,.s 5]⟩
theorem Zc3:ZN7 Proofs.Tryz.prog Zc2 Proofs.Tryz.f27=some ZEX:=by kernel_rfl
def ZIn:List Hint:=[H [0,2],H [0,2,4],H [2],⟨[2],[],[(8,.pure),(19,.pure)],[],[],[]⟩]
def ZGC:PC :=
 (R [0,2] [I 2 (.box (.v (.agg [(.int .i64 0),(.int .i64 0),(.int .i64 0),(.int .i64 0),(.int .i64 0),(.int .i64 0),(.int .i64 0)])))])
def ZGD:PC :=
 (R [0,2,4] [M 3 0,I 4 (.eqs false 3 [] (.s 3) (.v .nilptr))])
def ZGE:PC :=
 (R [2] [I 5 (.build [(.int .i64 0),(.int .i64 0),(.int .i64 0),(.int .i64 0),(.int .i64 0),(.int .i64 0),(.int .i64 0)] []),N 7 2 5])
def ZGF:PC :=
 (R [2] [M 6 0,I 7 (.nilck (.s 6)),F 8 0 7,L 9 8,M 10 0,I 11 (.nilck (.s 10)),F 12 1 11,L 13 12,I 14 (.call .pure (.v (.func (.func Yp) [] [])) [(.s 13)]),I 15 (.len 1 (.s 14)),M 16 0,I 17 (.nilck (.s 16)),F 18 2 17,L 19 18,I 20 (.len 2 (.s 19)),M 21 0,I 22 (.nilck (.s 21)),F 23 1 22,L 24 23,I 25 (.call .pure (.v (.func (.func Jr) [] [])) [(.s 24)]),I 26 (.len 1 (.s 25)),M 27 0,I 28 (.nilck (.s 27)),F 29 3 28,L 30 29,M 31 0,I 32 (.nilck (.s 31)),F 33 4 32,L 34 33,M 35 0,I 36 (.nilck (.s 35)),F 37 5 36,L 38 37,I 39 (.build [(.int .i64 0),(.int .i64 0),(.int .i64 0),(.int .i64 0),(.int .i64 0),(.int .i64 0),(.int .i64 0)] [(0,1,(.s 9)),(1,1,(.s 15)),(2,1,(.s 20)),(3,1,(.s 26)),(4,1,(.s 30)),(5,1,(.s 34)),(6,1,(.s 38))]),N 7 2 39])
def ZA5:PF:=⟨false,
 (D ZGC
 (D (D ZGD
 (E 4
 (D ZGE
 .ret)
 .skip))
 (D ZGF
 .ret))),
 [.c 2 true 7]⟩
theorem ZIo:Zr Proofs.Tryz.prog false ZIn Proofs.Tryz.f35=some ZA5:=by kernel_rfl
def ZZE:List Hint:=[H [0,2,4],H [6,7]]
def ZRG:PC :=
 (R [0,2,4] [I 4 (.box (.s 1)),K 6 0,K 7 0])
def ZRH:PC :=
 (R [6,7] [M 8 0,T 9 5 4,M 10 2,I 11 (C ZAb [(.s 8),(.s 9),(.s 10),(.v (.func (.func ZAz) [] [])),(.v (.func (.func ZAP) [] []))]),X 12 11 0,X 13 11 1,M 6 12,M 7 13])
def ZJC:PF:=⟨false,
 (D ZRG
 (D ZRH
 .ret)),
 [.s 6,.s 7]⟩
theorem ZZF:Zr Proofs.Tryz.prog false ZZE Proofs.Tryz.f49=some ZJC:=by kernel_rfl
def Zfk:List Hint:=[H [0,1],H [0,6,7],H [0,6,7,15],H [4,5],H [4,5]]
def ZZG:PC :=
 (R [0,1] [I 4 (.mv (.v .nilptr)),K 5 0])
def ZZH:PC :=
 (R [0,6,7] [M 9 0,M 10 1,I 11 (C ZB3 [(.s 9),(.s 10)]),M 8 11,X 12 8 0,X 13 8 1,M 6 12,M 7 13])
def ZZI:PC :=
 (R [0,6,7,15] [M 14 7,W 15 .neq 14 0])
def ZZJ:PC :=
 (R [4,5] [M 16 7,I 4 (.mv (.v .nilptr)),M 5 16])
def ZZK:PC :=
 (R [4,5] [M 17 0,M 18 6,I 19 (.mkmap),I 20 (.build [(.int .i64 0),.nilptr,.nilmap,(.int .i64 0),(.int .i64 0),(.int .i64 0)] [(0,1,(.s 17)),(1,1,(.s 18)),(2,1,(.s 19))]),I 21 (.box (.s 20)),M 4 21,K 5 0])
def ZQm:PF:=⟨true,
 (D ZZG
 (D ZZH
 (D (D ZZI
 (E 15
 (D ZZJ
 .ret)
 .skip))
 (D ZZK
 .ret)))),
 [.s 4,.s 5]⟩
theorem Zfl:Zr Proofs.Tryz.prog true Zfk Proofs.Tryz.f57=some ZQm:=by kernel_rfl
def ZhZ:List Hint:=[H [0,1,4],H [0,1,4,11],H [4,5],H [0,4,6,7],H [0,4,6,7,19],H [4,5],H [4,7,8],H [4,5]]
def Zc4:PC :=
 (R [0,1,4] [I 4 (.box (.v ZR)),K 5 0])
def Zc5:PC :=
 (R [0,1,4,11] [M 10 0,I 11 (.eqs false 3 [] (.s 10) (.v .nilptr))])
def Zc6:PC :=
 (R [4,5] [I 12 (.build [(.int .u64 0),(.int .i64 0),(.int .i64 0),(.int .i64 0),(.int .i64 0)] []),N 5 4 12,K 5 1])
def Zc7:PC :=
 (R [0,4,6,7] [M 14 1,I 15 (C Xq [(.s 14)]),M 13 15,X 16 13 0,X 17 13 1,I 6 (.box (.v ZT)),N 7 6 16,M 7 17])
def Zc8:PC :=
 (R [0,4,6,7,19] [M 18 7,W 19 .neq 18 0])
def Zc9:PC :=
 (R [4,5] [I 20 (.build [(.int .u64 0),(.int .i64 0),(.int .i64 0),(.int .i64 0),(.int .i64 0)] []),M 21 7,N 5 4 20,M 5 21])
def ZdA:PC :=
 (R [4,7,8] [M 23 0,T 24 7 6,I 25 (C Xp [(.s 23),(.s 24)]),M 22 25,X 26 22 0,X 27 22 1,X 28 22 2,I 8 (.box (.v ZR)),N 5 8 26,M 9 27,M 7 28])
def ZdB:PC :=
 (R [4,5] [T 29 5 8,M 30 7,N 5 4 29,M 5 30])
def ZVb:PF:=⟨false,
 (D Zc4
 (D (D Zc5
 (E 11
 (D Zc6
 .ret)
 .skip))
 (D Zc7
 (D (D Zc8
 (E 19
 (D Zc9
 .ret)
 .skip))
 (D ZdA
 (D ZdB
 .ret)))))),
 [.c 4 true 5,.s 5]⟩
theorem Zha:Zr Proofs.Tryz.prog false ZhZ Proofs.Tryz.f58=some ZVb:=by kernel_rfl
def ZJ3:List Hint:=[H [0],H [0,3],H [0,3,4],H [0,3,4,12],H [0,3,4],H [0,3,4],H [2]]
def ZHI:PC :=
 (R [0] [I 2 (.mv (.v (.bool false)))])
def ZHJ:PC :=
 (R [0,3] [K 3 0])
def ZHK:PC :=
 (R [0,3,4] [K 4 0])
def ZHL:PC :=
 (R [0,3,4,12] [M 5 4,M 6 0,I 7 (.len 1 (.s 6)),B 8 .lss 5 7,M 9 8,U 10 9 true 3,G 11 9 true (.bin .leq (.s 10) (V 900)),I 12 (.pick (.s 9) (.s 11) (.v (.bool false)))])
def ZHM:PC :=
 (R [0,3,4] [M 15 3,M 16 0,M 17 4,I 18 (.ixS 1 (.s 16) (.s 17)),L 19 18,I 20 (.len 0 (.s 19)),I 21 (.mnx false (.s 20) (V 1000)),B 22 .add 15 21,M 3 22])
def ZHN:PC :=
 (R [0,3,4] [M 13 4,W 14 .add 13 1,M 4 14])
def ZHO:PC :=
 (D (D ZHL
 (E 12
 .skip
 (.exit 0)))
 (D (.block 1
 ZHM)
 ZHN))
def ZHP:PC :=
 (R [2] [M 23 0,I 24 (.len 1 (.s 23)),W 25 .gtr 24 4,M 26 25,U 27 26 false 3,G 28 26 false (.bin .gtr (.s 27) (V 900)),I 29 (.pick (.s 26) (.v (.bool true)) (.s 28)),M 2 29])
def ZCM:PF:=⟨false,
 (D ZHI
 (D ZHJ
 (D (D ZHK
 (.block 0
 (.loop ZHO)))
 (D ZHP
 .ret)))),
 [.s 2]⟩
theorem ZJ4:Zr Proofs.Tryz.prog false ZJ3 Proofs.Tryz.f68=some ZCM:=by kernel_rfl
def ZJ5:List Hint:=[H [0],H [0,3],H [0,3,11],H [0,3,20],H [2],H [0,3],H [2]]
def ZHQ:PC :=
 (R [0] [I 2 (.mv (.v (.bool false)))])
def ZHR:PC :=
 (R [0,3] [K 3 0])
def ZHS:PC :=
 (R [0,3,11] [M 4 3,M 5 0,I 6 (.len 1 (.s 5)),B 7 .lss 4 6,M 8 7,U 9 8 true 3,G 10 8 true (.bin .lss (.s 9) (V 100)),I 11 (.pick (.s 8) (.s 10) (.v (.bool false)))])
def ZHT:PC :=
 (R [0,3,20] [M 14 0,M 15 3,I 16 (.ixS 5 (.s 14) (.s 15)),F 17 4 16,L 18 17,I 19 (.len 0 (.s 18)),W 20 .gtr 19 200])
def ZHU:PC :=
 (R [2] [I 2 (.mv (.v (.bool true)))])
def ZHV:PC :=
 (R [0,3] [M 12 3,W 13 .add 12 1,M 3 13])
def ZHW:PC :=
 (D (D ZHS
 (E 11
 .skip
 (.exit 0)))
 (D (.block 1
 (D ZHT
 (E 20
 (D ZHU
 .ret)
 .skip)))
 ZHV))
def ZHX:PC :=
 (R [2] [M 21 0,I 22 (.len 1 (.s 21)),W 23 .gtr 22 60,M 2 23])
def ZCN:PF:=⟨false,
 (D ZHQ
 (D (D ZHR
 (.block 0
 (.loop ZHW)))
 (D ZHX
 .ret))),
 [.s 2]⟩
theorem ZJ6:Zr Proofs.Tryz.prog false ZJ5 Proofs.Tryz.f69=some ZCN:=by kernel_rfl
def ZIp:List Hint:=[H [1],H [1,3,4],H [1,3,15],H [0,1,2],H [1,3,4,5],⟨[0,1,2],[],[],[],[(6,(.hide [(.s 1)])),(10,(.plain (.s 1)))],[]⟩]
def ZGG:PC :=
 (R [1] [I 0 (.mv (.v .nilptr)),I 1 (.box (.v ZR)),I 2 (.mv (.v (.bool false)))])
def ZGH:PC :=
 (R [1,3,4] [I 7 (C ZCm [(V 8),(.v (.int .u64 4))]),M 6 7,X 8 6 0,X 9 6 1,M 3 8,M 4 9])
def ZGI:PC :=
 (R [1,3,15] [M 10 3,I 11 (.eqs false 3 [] (.s 10) (.v .nilptr)),M 12 11,U 13 12 false 4,G 14 12 false (.bin .neq (.s 13) (V 0)),I 15 (.pick (.s 12) (.v (.bool true)) (.s 14))])
def ZGJ:PC :=
 (R [0,1,2] [I 16 (.build [(.int .u64 0),(.int .i64 0),(.int .i64 0),(.int .i64 0),(.int .i64 0)] []),I 0 (.mv (.v .nilptr)),N 5 1 16,I 2 (.mv (.v (.bool false)))])
def ZGK:PC :=
 (R [1,3,4,5] [M 18 3,I 19 (C ZB2 [(.s 18),(.v (.str [97,98,99,100,101,102,103,104,105,106,107,108,109,110,111,112,113]))]),M 17 19,X 20 17 0,X 21 17 1,I 5 (.box (.v ZR)),N 5 5 20,M 4 21])
def ZGL:PC :=
 (R [0,1,2] [M 22 3,T 23 5 5,M 24 4,W 25 .eql 24 0,M 26 25,G 27 26 true (.fadr 0 (.s 5)),G 28 26 true (.w (.hide [(.s 1)]) (.ld false 1 (.s 27))),G 29 26 true (.bin .eql (.s 28) (.v (.int .u64 65538))),I 30 (.pick (.s 26) (.s 29) (.v (.bool false))),M 0 22,J (.w (.plain (.s 1)) (.st 5 (.s 1) (.s 23))),M 2 30])
def ZA6:PF:=⟨true,
 (D ZGG
 (D ZGH
 (D (D ZGI
 (E 15
 (D ZGJ
 .ret)
 .skip))
 (D ZGK
 (D ZGL
 .ret))))),
 [.s 0,.c 1 true 5,.s 2]⟩
theorem ZIq:Zr Proofs.Tryz.prog true ZIp Proofs.Tryz.f70=some ZA6:=by kernel_rfl
def ZJ7:List Hint:=[H [0],H [0,5,6],H [0,5,20],H [2,3,4],⟨[0,5,7],[0],[],[],[],[]⟩,H [0,5,7,8],H [0,5,7,8,24],H [0,5,7,8,9,10],H [0,5,7,8,9,37],H [2,3,4],H [0,5,7,8],H [0,5,7,8],H [2,3,4]]
def ZHY:PC :=
 (R [0] [I 2 (.mv (.v .nilptr)),I 3 (.mv (.v .nils)),I 4 (.mv (.v (.bool false)))])
def ZHZ:PC :=
 (R [0,5,6] [I 12 (C ZCm [(V 1500),(.v (.int .u64 3))]),M 11 12,X 13 11 0,X 14 11 1,M 5 13,M 6 14])
def ZHa:PC :=
 (R [0,5,20] [M 15 5,I 16 (.eqs false 3 [] (.s 15) (.v .nilptr)),M 17 16,U 18 17 false 6,G 19 17 false (.bin .neq (.s 18) (V 0)),I 20 (.pick (.s 17) (.v (.bool true)) (.s 19))])
def ZHb:PC :=
 (R [2,3,4] [I 2 (.mv (.v .nilptr)),I 3 (.mv (.v .nils)),I 4 (.mv (.v (.bool false)))])
def ZHc:PC :=
 (R [0,5,7] [I 7 (.onil 5)])
def ZHd:PC :=
 (R [0,5,7,8] [K 8 0])
def ZHe:PC :=
 (R [0,5,7,8,24] [M 21 8,M 22 0,I 23 (.len 1 (.s 22)),B 24 .lss 21 23])
def ZHf:PC :=
 (R [0,5,7,8,9,10] [M 28 5,M 29 0,M 30 8,I 31 (.ixS 1 (.s 29) (.s 30)),L 32 31,I 33 (C ZB2 [(.s 28),(.s 32)]),M 27 33,X 34 27 0,X 35 27 1,I 9 (.box (.v ZR)),N 5 9 34,M 10 35])
def ZHg:PC :=
 (R [0,5,7,8,9,37] [M 36 10,W 37 .neq 36 0])
def ZHh:PC :=
 (R [2,3,4] [I 2 (.mv (.v .nilptr)),I 3 (.mv (.v .nils)),I 4 (.mv (.v (.bool false)))])
def ZGM:PC :=
 (R [0,5,7,8] [M 38 7,T 39 5 9,I 40 (.bslice false 5 [ZR] [(0,(.s 39))]),I 41 (.app 5 40 (.s 38) (.s 40)),M 7 41])
def ZGN:PC :=
 (R [0,5,7,8] [M 25 8,W 26 .add 25 1,M 8 26])
def ZGO:PC :=
 (D (D ZHe
 (E 24
 .skip
 (.exit 0)))
 (D (.block 1
 (D ZHf
 (D (D ZHg
 (E 37
 (D ZHh
 .ret)
 .skip))
 ZGM)))
 ZGN))
def ZGP:PC :=
 (R [2,3,4] [M 42 5,M 43 7,M 2 42,M 3 43,I 4 (.mv (.v (.bool true)))])
def ZCO:PF:=⟨true,
 (D ZHY
 (D ZHZ
 (D (D ZHa
 (E 20
 (D ZHb
 .ret)
 .skip))
 (D ZHc
 (D (D ZHd
 (.block 0
 (.loop ZGO)))
 (D ZGP
 .ret)))))),
 [.s 2,.s 3,.s 4]⟩
theorem ZJ8:Zr Proofs.Tryz.prog true ZJ7 Proofs.Tryz.f71=some ZCO:=by kernel_rfl
def ZIr:List Hint:=[H [0,1,2],⟨[0,1,2,8],[0],[],[],[],[]⟩,H [0,1,2,8,9],H [0,1,2,8,9,19],H [0,1,2,8,9,24],H [0,1,2,8,9,10,11],H [0,1,2,8,9,10,35],H [6,7],H [0,1,2,8,9],H [0,1,2,8,9,12],H [0,1,2,8,9,12,13,14],H [0,1,2,8,9,12,13,59],H [6,7],H [0,1,2,8,9,12,13,15],⟨[0,1,2,8,9,13,14],[],[(13,.pure)],[],[],[]⟩,H [0,1,2,8,9,13,93],H [6,7],H [0,1,2,8,9],H [0,1,2,8,9],H [6,7]]
def ZGQ:PC :=
 (R [0,1,2] [I 6 (.mv (.v .nils)),I 7 (.mv (.v (.bool false)))])
def ZGR:PC :=
 (R [0,1,2,8] [I 8 (.onil 7)])
def ZGS:PC :=
 (R [0,1,2,8,9] [K 9 0])
def ZGT:PC :=
 (R [0,1,2,8,9,19] [M 16 9,M 17 2,I 18 (.len 1 (.s 17)),B 19 .lss 16 18])
def ZGU:PC :=
 (R [0,1,2,8,9,24] [M 22 1,I 23 (.len 1 (.s 22)),W 24 .eql 23 0])
def ZGV:PC :=
 (R [0,1,2,8,9,10,11] [M 26 2,M 27 9,I 28 (.ixS 5 (.s 26) (.s 27)),F 29 4 28,L 30 29,I 31 (C Xq [(.s 30)]),M 25 31,X 32 25 0,X 33 25 1,I 10 (.box (.v ZT)),N 7 10 32,M 11 33])
def ZGW:PC :=
 (R [0,1,2,8,9,10,35] [M 34 11,W 35 .neq 34 0])
def ZGX:PC :=
 (R [6,7] [I 6 (.mv (.v .nils)),I 7 (.mv (.v (.bool false)))])
def ZGY:PC :=
 (R [0,1,2,8,9] [M 36 8,T 37 7 10,I 38 (.bslice false 7 [ZT] [(0,(.s 37))]),I 39 (.app 7 80 (.s 36) (.s 38)),M 8 39])
def ZGZ:PC :=
 (R [0,1,2,8,9,12] [M 40 1,M 41 2,M 42 9,I 43 (.ixS 5 (.s 41) (.s 42)),F 44 1 43,L 45 44,M 46 1,I 47 (.len 1 (.s 46)),W 48 .sub 47 1,I 49 (C JM [(.s 45),(.s 48)]),I 50 (.ixS 5 (.s 40) (.s 49)),T 51 5 50,I 12 (.box (.v ZR)),N 5 12 51])
def ZEY:PC :=
 (R [0,1,2,8,9,12,13,14] [M 53 0,T 54 5 12,I 55 (C Yo [(.s 53),(.s 54)]),M 52 55,X 56 52 0,X 57 52 1,I 13 (.box (.v ZT)),N 7 13 56,M 14 57])
def ZEZ:PC :=
 (R [0,1,2,8,9,12,13,59] [M 58 14,W 59 .neq 58 0])
def ZEa:PC :=
 (R [6,7] [I 6 (.mv (.v .nils)),I 7 (.mv (.v (.bool false)))])
def ZEb:PC :=
 (R [0,1,2,8,9,12,13,15] [M 60 2,M 61 9,I 62 (.ixS 5 (.s 60) (.s 61)),F 63 2 62,L 64 63,F 65 2 12,F 66 0 65,L 67 66,I 68 (C JM [(.s 64),(.s 67)]),M 15 68])
def ZEc:PC :=
 (R [0,1,2,8,9,13,14] [M 70 0,T 71 7 13,M 72 15,M 73 2,M 74 9,I 75 (.ixS 5 (.s 73) (.s 74)),F 76 3 75,L 77 76,F 78 2 12,F 79 0 78,L 80 79,M 81 15,B 82 .sub 80 81,I 83 (.call .pure (.v (.func (.func JM) [] [])) [(.s 77),(.s 82)]),M 84 2,M 85 9,I 86 (.ixS 5 (.s 84) (.s 85)),F 87 4 86,L 88 87,I 89 (C ZB4 [(.s 70),(.s 71),(.s 72),(.s 83),(.s 88)]),M 69 89,X 90 69 0,X 91 69 1,N 7 13 90,M 14 91])
def ZEd:PC :=
 (R [0,1,2,8,9,13,93] [M 92 14,W 93 .neq 92 0])
def ZEe:PC :=
 (R [6,7] [I 6 (.mv (.v .nils)),I 7 (.mv (.v (.bool false)))])
def ZEf:PC :=
 (R [0,1,2,8,9] [M 94 8,T 95 7 13,I 96 (.bslice false 7 [ZT] [(0,(.s 95))]),I 97 (.app 7 80 (.s 94) (.s 96)),M 8 97])
def ZEg:PC :=
 (R [0,1,2,8,9] [M 20 9,W 21 .add 20 1,M 9 21])
def ZEh:PC :=
 (D (D ZGT
 (E 19
 .skip
 (.exit 0)))
 (D (.block 1
 (D (D ZGU
 (E 24
 (D ZGV
 (D (D ZGW
 (E 35
 (D ZGX
 .ret)
 .skip))
 (D ZGY
 (.exit 1))))
 .skip))
 (D ZGZ
 (D ZEY
 (D (D ZEZ
 (E 59
 (D ZEa
 .ret)
 .skip))
 (D ZEb
 (D ZEc
 (D (D ZEd
 (E 93
 (D ZEe
 .ret)
 .skip))
 ZEf))))))))
 ZEg))
def ZEi:PC :=
 (R [6,7] [M 98 8,M 6 98,I 7 (.mv (.v (.bool true)))])
def ZA7:PF:=⟨false,
 (D ZGQ
 (D ZGR
 (D (D ZGS
 (.block 0
 (.loop ZEh)))
 (D ZEi
 .ret)))),
 [.s 6,.s 7]⟩
theorem ZIs:Zr Proofs.Tryz.prog false ZIr Proofs.Tryz.f72=some ZA7:=by kernel_rfl
def Zfm:List Hint:=[H [2,3],H [2,3,6],H [2,3,6,14],H [4,5],⟨[2,3,7],[0],[],[],[],[]⟩,H [2,3,7,8],H [3,7,8],H [3,7,8,19],H [4,5],H [7,9],H [7,9,24],H [4,5],H [4,5]]
def ZZL:PC :=
 (R [2,3] [I 2 (.box (.s 0)),I 3 (.box (.s 1)),I 4 (.mv (.v (.str []))),K 5 0])
def ZZM:PC :=
 (R [2,3,6] [L 10 2,T 11 7 3,I 12 (C YI [(.s 10),(.s 11)]),M 6 12])
def ZZN:PC :=
 (R [2,3,6,14] [M 13 6,W 14 .neq 13 0])
def ZZO:PC :=
 (R [4,5] [M 15 6,I 4 (.mv (.v (.str []))),M 5 15])
def ZZP:PC :=
 (R [2,3,7] [I 7 (.boxnil 1)])
def ZZQ:PC :=
 (R [2,3,7,8] [I 8 (.box (.v .nilfunc))])
def ZZR:PC :=
 (R [3,7,8] [I 16 (.mkf (.func YS) [] [(.s 2),(.s 7),(.s 8)]),N 1 8 16])
def ZZS:PC :=
 (R [3,7,8,19] [T 17 7 3,I 18 (C Qj [(.s 17)]),W 19 .eql 18 1])
def ZZT:PC :=
 (R [4,5] [I 4 (.mv (.v (.str []))),K 5 0])
def ZZU:PC :=
 (R [7,9] [L 20 8,T 21 7 3,I 22 (.call .norm (.s 20) [(.s 21)]),M 9 22])
def ZVc:PC :=
 (R [7,9,24] [M 23 9,W 24 .neq 23 0])
def ZVd:PC :=
 (R [4,5] [M 25 9,I 4 (.mv (.v (.str []))),M 5 25])
def ZVe:PC :=
 (R [4,5] [L 26 7,I 27 (.b2s (.s 26)),M 4 27,K 5 0])
def ZQn:PF:=⟨false,
 (D ZZL
 (D (D ZZM
 (D ZZN
 (E 14
 (D ZZO
 .ret)
 .skip)))
 (D ZZP
 (D ZZQ
 (D ZZR
 (D (D ZZS
 (E 19
 (D ZZT
 .ret)
 .skip))
 (D (D ZZU
 (D ZVc
 (E 24
 (D ZVd
 .ret)
 .skip)))
 (D ZVe
 .ret)))))))),
 [.s 4,.s 5]⟩
theorem Zfn:Zr Proofs.Tryz.prog false Zfm Proofs.Tryz.f73=some ZQn:=by kernel_rfl
def ZdC:List Hint:=[⟨[0,3,4,5],[2],[],[],[],[]⟩,H [4,5,6,7],H [4,5,6,7,18],⟨[4,5,6],[3],[],[],[],[]⟩,H [4,5,7,26],H [4,5,7,8,10],H [4,5,7,8,10,34],⟨[4,5,6],[3],[],[],[],[]⟩,H [4,5,7],H [4,5,6],H [4,5,6]]
def ZVf:PC :=
 (R [0,3,4,5] [I 3 (.box (.s 1)),I 4 (.box (.v ZR)),I 5 (.onil 1),K 6 0])
def ZVg:PC :=
 (R [4,5,6,7] [M 12 0,T 13 7 3,I 14 (C Yz [(.s 12),(.s 13)]),M 11 14,X 15 11 0,X 16 11 1,M 7 15,M 6 16])
def ZVh:PC :=
 (R [4,5,6,7,18] [M 17 6,W 18 .neq 17 0])
def ZVi:PC :=
 (R [4,5,6] [I 19 (.build [(.int .u64 0),(.int .i64 0),(.int .i64 0),(.int .i64 0),(.int .i64 0)] []),M 20 6,N 5 4 19,I 5 (.onil 1),M 6 20])
def ZVj:PC :=
 (R [4,5,7,26] [M 21 7,I 22 (.nilck (.s 21)),F 23 1 22,L 24 23,I 25 (.len 1 (.s 24)),W 26 .gtr 25 0])
def ZVk:PC :=
 (R [4,5,7,8,10] [M 28 7,I 29 (C XQ [(.s 28)]),M 27 29,X 30 27 0,X 31 27 1,X 32 27 2,M 8 30,M 9 31,M 10 32])
def ZVl:PC :=
 (R [4,5,7,8,10,34] [M 33 10,W 34 .neq 33 0])
def ZVm:PC :=
 (R [4,5,6] [I 35 (.build [(.int .u64 0),(.int .i64 0),(.int .i64 0),(.int .i64 0),(.int .i64 0)] []),M 36 10,N 5 4 35,I 5 (.onil 1),M 6 36])
def ZVn:PC :=
 (R [4,5,7] [M 37 5,M 38 8,I 39 (.bslice false 1 [(.int .u64 0)] [(0,(.s 38))]),I 40 (.app 1 8 (.s 37) (.s 39)),M 5 40])
def ZVo:PC :=
 (D (D ZVj
 (E 26
 .skip
 (.exit 0)))
 (.block 1
 (D ZVk
 (D (D ZVl
 (E 34
 (D ZVm
 .ret)
 .skip))
 ZVn))))
def ZRI:PC :=
 (R [4,5,6] [M 42 7,I 43 (C ZA0 [(.s 42)]),M 41 43,X 44 41 0,X 45 41 1,N 5 4 44,M 6 45])
def ZRJ:PC :=
 (R [4,5,6] [T 46 5 4,M 47 5,M 48 6,N 5 4 46,M 5 47,M 6 48])
def ZLr:PF:=⟨false,
 (D ZVf
 (D ZVg
 (D (D ZVh
 (E 18
 (D ZVi
 .ret)
 .skip))
 (D (.block 0
 (.loop ZVo))
 (D ZRI
 (D ZRJ
 .ret)))))),
 [.c 4 true 5,.s 5,.s 6]⟩
theorem ZdD:Zr Proofs.Tryz.prog false ZdC Proofs.Tryz.f74=some ZLr:=by kernel_rfl
def ZJ9:List Hint:=[H [0,1],H [4]]
def ZHi:PC :=
 (R [0,1] [K 4 0])
def ZHj:PC :=
 (R [4] [M 5 0,I 6 (.cint .u64 (.s 5)),M 7 1,W 8 .add 7 1,I 9 (.cint .u64 (.s 8)),B 10 .rem 6 9,I 11 (.cint .i64 (.s 10)),M 4 11])
def ZCP:PF:=⟨false,
 (D ZHi
 (D ZHj
 .ret)),
 [.s 4]⟩
theorem ZKA:Zr Proofs.Tryz.prog false ZJ9 Proofs.Tryz.f75=some ZCP:=by kernel_rfl
def ZZV:List Hint:=[H [0,2,3,5],H [2,3,5,10],H [2,3,5,10,18],H [8],H [41],H [8],H [8]]
def ZRK:PC :=
 (R [0,2,3,5] [I 5 (.box (.s 1)),K 8 0])
def ZRL:PC :=
 (R [2,3,5,10] [M 12 0,T 13 5 5,I 14 (C Yo [(.s 12),(.s 13)]),M 11 14,X 15 11 0,X 16 11 1,I 9 (.box (.v ZT)),N 7 9 15,M 10 16])
def ZRM:PC :=
 (R [2,3,5,10,18] [M 17 10,W 18 .neq 17 0])
def ZRN:PC :=
 (R [8] [M 19 10,M 8 19])
def ZRO:PC :=
 (R [41] [M 20 2,W 21 .lss 20 0,M 22 21,U 23 22 false 2,G 24 22 false (.fadr 2 (.s 5)),G 25 22 false (.fadr 0 (.s 24)),G 26 22 false (.ld false 1 (.s 25)),G 27 22 false (.bin .gtr (.s 23) (.s 26)),I 28 (.pick (.s 22) (.v (.bool true)) (.s 27)),M 29 28,U 30 29 false 3,G 31 29 false (.bin .lss (.s 30) (V 0)),I 32 (.pick (.s 29) (.v (.bool true)) (.s 31)),M 33 32,U 34 33 false 3,G 35 33 false (.fadr 2 (.s 5)),G 36 33 false (.fadr 0 (.s 35)),G 37 33 false (.ld false 1 (.s 36)),U 38 33 false 2,G 39 33 false (.bin .sub (.s 37) (.s 38)),G 40 33 false (.bin .gtr (.s 34) (.s 39)),I 41 (.pick (.s 33) (.v (.bool true)) (.s 40))])
def ZRP:PC :=
 (R [8] [K 8 3])
def ZRQ:PC :=
 (R [8] [K 8 0])
def ZJD:PF:=⟨false,
 (D ZRK
 (D (D ZRL
 (D ZRM
 (E 18
 (D ZRN
 .ret)
 .skip)))
 (D (D ZRO
 (E 41
 (D ZRP
 .ret)
 .skip))
 (D ZRQ
 .ret)))),
 [.s 8]⟩
theorem ZZW:Zr Proofs.Tryz.prog false ZZV Proofs.Tryz.f76=some ZJD:=by kernel_rfl
def ZZX:List Hint:=[H [4,5,6,7],H [8]]
def ZRR:PC :=
 (R [4,5,6,7] [I 4 (.box (.s 0)),I 5 (.box (.s 1)),I 6 (.box (.s 2)),I 7 (.box (.s 3)),I 8 (.mv (.v .nilfunc))])
def ZRS:PC :=
 (R [8] [I 9 (.mkf (.func Jt) [] [(.s 7),(.s 4),(.s 5),(.s 6)]),M 8 9])
def ZJE:PF:=⟨true,
 (D ZRR
 (D ZRS
 .ret)),
 [.s 8]⟩
theorem ZZY:Zr Proofs.Tryz.prog true ZZX Proofs.Tryz.f77=some ZJE:=by kernel_rfl
def ZKB:List Hint:=[H [0,2,4],H [6,7]]
def ZHk:PC :=
 (R [0,2,4] [I 4 (.box (.s 1)),K 6 0,K 7 0])
def ZHl:PC :=
 (R [6,7] [M 8 0,T 9 5 4,M 10 2,I 11 (C ZAb [(.s 8),(.s 9),(.s 10),(.v (.func (.func Yq) [] [])),(.v (.func (.func YV) [] []))]),X 12 11 0,X 13 11 1,M 6 12,M 7 13])
def ZCQ:PF:=⟨false,
 (D ZHk
 (D ZHl
 .ret)),
 [.s 6,.s 7]⟩
theorem ZKC:Zr Proofs.Tryz.prog false ZKB Proofs.Tryz.f78=some ZCQ:=by kernel_rfl
def Zfo:List Hint:=[H [0,3,4],H [0,3,4,8],H [4,5],H [0,3,4,12],H [4,5],H [0,3,4,16],H [4,5],H [3,4,6],H [3,4,6,27],H [4,5],H [4,5]]
def ZZZ:PC :=
 (R [0,3,4] [I 3 (.box (.s 1)),I 4 (.box (.v ZT)),K 5 0])
def ZZa:PC :=
 (R [0,3,4,8] [M 7 0,I 8 (.eqs false 3 [] (.s 7) (.v .nilptr))])
def ZZb:PC :=
 (R [4,5] [I 9 (.build [(.int .u64 0),(.int .i64 0),(.int .i64 0),(.int .i64 0),(.int .i64 0),(.str []),.nils] []),N 7 4 9,K 5 1])
def ZZc:PC :=
 (R [0,3,4,12] [T 10 5 3,I 11 (.build [(.int .u64 0),(.int .i64 0),(.int .i64 0),(.int .i64 0),(.int .i64 0)] []),I 12 (.eqs false 0 [(0,0),(1,0),(2,0),(3,0),(4,0)] (.s 10) (.s 11))])
def ZZd:PC :=
 (R [4,5] [I 13 (.build [(.int .u64 0),(.int .i64 0),(.int .i64 0),(.int .i64 0),(.int .i64 0),(.str []),.nils] []),N 7 4 13,K 5 0])
def ZZe:PC :=
 (R [0,3,4,16] [F 14 0 3,L 15 14,I 16 (.bin .eql (.s 15) (.v (.int .u64 0)))])
def ZZf:PC :=
 (R [4,5] [I 17 (.build [(.int .u64 0),(.int .i64 0),(.int .i64 0),(.int .i64 0),(.int .i64 0),(.str []),.nils] []),N 7 4 17,K 5 2])
def ZZg:PC :=
 (R [3,4,6] [M 18 0,F 19 0 3,L 20 19,F 21 1 3,L 22 21,F 23 2 3,T 24 3 23,I 25 (C ZCn [(.s 18),(.s 20),(.s 22),(.s 24)]),M 6 25])
def ZZh:PC :=
 (R [3,4,6,27] [M 26 6,W 27 .neq 26 0])
def ZZi:PC :=
 (R [4,5] [I 28 (.build [(.int .u64 0),(.int .i64 0),(.int .i64 0),(.int .i64 0),(.int .i64 0),(.str []),.nils] []),M 29 6,N 7 4 28,M 5 29])
def ZVp:PC :=
 (R [4,5] [F 30 0 3,L 31 30,F 32 1 3,L 33 32,F 34 2 3,T 35 3 34,I 36 (.build [(.int .u64 0),(.int .i64 0),(.int .i64 0),(.int .i64 0),(.int .i64 0),(.str []),.nils] [(0,1,(.s 31)),(1,1,(.s 33)),(2,3,(.s 35))]),N 7 4 36,K 5 0])
def ZQo:PF:=⟨false,
 (D ZZZ
 (D (D ZZa
 (E 8
 (D ZZb
 .ret)
 .skip))
 (D (D ZZc
 (E 12
 (D ZZd
 .ret)
 .skip))
 (D (D ZZe
 (E 16
 (D ZZf
 .ret)
 .skip))
 (D (D ZZg
 (D ZZh
 (E 27
 (D ZZi
 .ret)
 .skip)))
 (D ZVp
 .ret)))))),
 [.c 4 true 7,.s 5]⟩
theorem Zfp:Zr Proofs.Tryz.prog false Zfo Proofs.Tryz.f82=some ZQo:=by kernel_rfl
def ZdE:List Hint:=[H [0,3,23],H [0,3,6,23],H [0,3,6,17,23],H [4],H [0,3,7,23],H [7,21,23],H [7,9],H [7,9,26],H [7],H [4]]
def ZVq:PC :=
 (R [0,3,23] [I 3 (.box (.s 1)),K 4 0])
def ZVr:PC :=
 (R [0,3,6,23] [M 11 0,T 12 5 3,I 13 (C Yo [(.s 11),(.s 12)]),M 10 13,X 14 10 0,X 15 10 1,I 5 (.box (.v ZT)),N 7 5 14,M 6 15])
def ZVs:PC :=
 (R [0,3,6,17,23] [M 16 6,W 17 .neq 16 0])
def ZVt:PC :=
 (R [4] [M 18 6,M 4 18])
def ZVu:PC :=
 (R [0,3,7,23] [I 7 (.box (V 0)),J (.st 1 (.s 7) (V 0))])
def ZVv:PC :=
 (R [7,21,23] [M 19 0,T 20 5 3,I 21 (C ZBI [(.s 19),(.s 20)])])
def ZVw:PC :=
 (R [7,9] [I 9 (.box (.v (.agg [(.int .i64 0),(.str []),.nils,(.int .i64 0)]))),N 4 9 23])
def ZVx:PC :=
 (R [7,9,26] [F 24 3 9,L 25 24,W 26 .neq 25 0])
def ZVy:PC :=
 (R [7] [F 27 3 9,L 28 27,N 1 7 28])
def ZVz:PC :=
 (R [4] [L 29 7,M 4 29])
def ZLs:RF:=⟨30,
 (D ZVq
 (D (D ZVr
 (D ZVs
 (E 17
 (D ZVt
 .ret)
 .skip)))
 (D ZVu
 (D .skip
 (D ZVv
 .skip))))),
 ⟨(.s 21),[22,23],
 ZVw,
 (.block 1
 (D ZVx
 (E 26
 (D ZVy
 (.exit 0))
 .skip)))⟩,
 (D .skip
 (D ZVz
 .ret)),
 [.s 4]⟩
theorem ZdF:ZN7 Proofs.Tryz.prog ZdE Proofs.Tryz.f85=some ZLs:=by kernel_rfl
def ZdG:List Hint:=[H [2,3],H [4]]
def ZV0:PC :=
 (R [2,3] [I 2 (.box (.s 0)),I 3 (.box (.s 1)),I 4 (.mv (.v .nilfunc))])
def ZV1:PC :=
 (R [4] [I 5 (.mkf (.func ZGz) [] [(.s 2),(.s 3)]),M 4 5])
def ZLt:PF:=⟨true,
 (D ZV0
 (D ZV1
 .ret)),
 [.s 4]⟩
theorem ZdH:Zr Proofs.Tryz.prog true ZdG Proofs.Tryz.f86=some ZLt:=by kernel_rfl
def ZZj:List Hint:=[H [0,3,20],H [0,3,6,20],H [0,3,6,14,20],H [4,5],⟨[0,3,7,20],[0],[],[],[],[]⟩,H [7,18,20],H [7,9],H [7,9,24],H [7],H [4,5]]
def ZRT:PC :=
 (R [0,3,20] [I 3 (.box (.s 1)),I 4 (.mv (.v .nils)),K 5 0])
def ZRU:PC :=
 (R [0,3,6,20] [M 10 0,T 11 5 3,I 12 (C ZBH [(.s 10),(.s 11)]),M 6 12])
def ZRV:PC :=
 (R [0,3,6,14,20] [M 13 6,W 14 .neq 13 0])
def ZRW:PC :=
 (R [4,5] [M 15 6,I 4 (.mv (.v .nils)),M 5 15])
def ZRX:PC :=
 (R [0,3,7,20] [I 7 (.boxnil 1)])
def ZRY:PC :=
 (R [7,18,20] [M 16 0,T 17 5 3,I 18 (C ZBI [(.s 16),(.s 17)])])
def ZRZ:PC :=
 (R [7,9] [I 9 (.box (.v (.agg [(.int .i64 0),(.str []),.nils,(.int .i64 0)]))),N 4 9 20])
def ZRa:PC :=
 (R [7,9,24] [F 21 0 9,F 22 0 21,L 23 22,W 24 .eql 23 0])
def ZRb:PC :=
 (R [7] [L 25 7,F 26 0 9,F 27 1 26,L 28 27,I 29 (.bslice false 1 [(.str [])] [(0,(.s 28))]),I 30 (.app 1 16 (.s 25) (.s 29)),N 1 7 30])
def ZRc:PC :=
 (R [4,5] [L 31 7,M 4 31,K 5 0])
def ZJF:RF:=⟨32,
 (D ZRT
 (D (D ZRU
 (D ZRV
 (E 14
 (D ZRW
 .ret)
 .skip)))
 (D ZRX
 (D ZRY
 .skip)))),
 ⟨(.s 18),[19,20],
 ZRZ,
 (.block 1
 (D ZRa
 (E 24
 ZRb
 .skip)))⟩,
 (D .skip
 (D ZRc
 .ret)),
 [.s 4,.s 5]⟩
theorem ZZk:ZN7 Proofs.Tryz.prog ZZj Proofs.Tryz.f89=some ZJF:=by kernel_rfl
def ZHm:List Hint:=[H [0],H [0,7],H [2],H [0,3],H [3],H [3,4,5],H [3,4,5,25],H [3,4,5],H [3,4,5],H [2]]
def ZEj:PC :=
 (R [0] [I 2 (.mv (.v .nils))])
def ZEk:PC :=
 (R [0,7] [M 6 0,I 7 (.eqs false 3 [] (.s 6) (.v .nilptr))])
def ZEl:PC :=
 (R [2] [I 2 (.mv (.v .nils))])
def ZEm:PC :=
 (R [0,3] [M 8 0,I 9 (.nilck (.s 8)),F 10 0 9,L 11 10,I 12 (.len 1 (.s 11)),I 13 (.mkslice 1 8 (.int .i64 0) (.s 12) (.s 12)),M 3 13])
def ZEn:PC :=
 (R [3] [M 14 3,M 15 0,I 16 (.nilck (.s 15)),F 17 0 16,L 18 17,I 19 (.cpy 1 (.s 14) (.s 18))])
def ZEo:PC :=
 (R [3,4,5] [M 20 3,I 21 (.len 1 (.s 20)),W 22 .sub 21 1,K 4 0,M 5 22])
def ZEp:PC :=
 (R [3,4,5,25] [M 23 4,M 24 5,B 25 .lss 23 24])
def ZEq:PC :=
 (R [3,4,5] [M 30 3,M 31 4,M 32 3,M 33 5,M 34 3,M 35 5,I 36 (.ixS 1 (.s 34) (.s 35)),L 37 36,M 38 3,M 39 4,I 40 (.ixS 1 (.s 38) (.s 39)),L 41 40,I 42 (.ixS 1 (.s 30) (.s 31)),N 1 42 37,I 43 (.ixS 1 (.s 32) (.s 33)),N 1 43 41])
def ZEr:PC :=
 (R [3,4,5] [M 26 4,W 27 .add 26 1,M 28 5,W 29 .sub 28 1,M 4 27,M 5 29])
def ZEs:PC :=
 (D (D ZEp
 (E 25
 .skip
 (.exit 0)))
 (D (.block 1
 ZEq)
 ZEr))
def ZDZ:PC :=
 (R [2] [M 44 3,M 2 44])
def ZAn:PF:=⟨false,
 (D ZEj
 (D (D ZEk
 (E 7
 (D ZEl
 .ret)
 .skip))
 (D ZEm
 (D ZEn
 (D (D ZEo
 (.block 0
 (.loop ZEs)))
 (D ZDZ
 .ret)))))),
 [.s 2]⟩
theorem ZHn:Zr Proofs.Tryz.prog false ZHm Proofs.Tryz.f94=some ZAn:=by kernel_rfl
def ZCb:List Hint:=[H [0],H [2]]
def ZBd:PC :=
 (R [0] [I 2 (.mv (.v .nils))])
def ZBe:PC :=
 (R [2] [M 3 0,I 4 (C YW [(.s 3),(.v (.int .u8 2))]),M 2 4])
def Y9:PF:=⟨false,
 (D ZBd
 (D ZBe
 .ret)),
 [.s 2]⟩
theorem ZCc:Zr Proofs.Tryz.prog false ZCb Proofs.Tryz.f95=some Y9:=by kernel_rfl
def ZLu:List Hint:=[H [0,1,4],H [0,1,4,9],H [4,5],H [0,4,6,7],H [0,4,6,21],H [4],H [4,5],H [4,6],H [4,5]]
def ZIt:PC :=
 (R [0,1,4] [I 4 (.box (.v ZN)),K 5 0])
def ZIu:PC :=
 (R [0,1,4,9] [M 8 0,I 9 (.eqs false 3 [] (.s 8) (.v .nilptr))])
def ZIv:PC :=
 (R [4,5] [I 10 (.build [(.int .i64 0),(.str []),.nils] []),N 3 4 10,K 5 1])
def ZIw:PC :=
 (R [0,4,6,7] [M 12 0,I 13 (.nilck (.s 12)),F 14 2 13,L 15 14,M 16 1,I 17 (.look 0 ZN true (.s 15) (.s 16)),M 11 17,X 18 11 0,X 19 11 1,I 6 (.box (.v ZN)),N 3 6 18,M 7 19])
def ZIx:PC :=
 (R [0,4,6,21] [M 20 7,I 21 (.un .not (.s 20))])
def ZIy:PC :=
 (R [4] [M 22 0,I 23 (.nilck (.s 22)),F 24 5 23,L 25 24,W 26 .add 25 1,I 27 (.nilck (.s 22)),F 28 5 27,N 1 28 26])
def ZIz:PC :=
 (R [4,5] [I 29 (.build [(.int .i64 0),(.str []),.nils] []),N 3 4 29,K 5 10])
def ZI0:PC :=
 (R [4,6] [F 30 2 6,L 31 30,I 32 (C QA [(.s 31)]),F 33 2 6,N 1 33 32])
def ZI1:PC :=
 (R [4,5] [T 34 3 6,N 3 4 34,K 5 0])
def ZCr:PF:=⟨false,
 (D ZIt
 (D (D ZIu
 (E 9
 (D ZIv
 .ret)
 .skip))
 (D ZIw
 (D (D ZIx
 (E 21
 (D ZIy
 (D ZIz
 .ret))
 .skip))
 (D ZI0
 (D ZI1
 .ret)))))),
 [.c 4 true 3,.s 5]⟩
theorem ZLv:Zr Proofs.Tryz.prog false ZLu Proofs.Tryz.f111=some ZCr:=by kernel_rfl
def ZZl:List Hint:=[H [0,2,4,6,8],H [0,2,4,6,8,12],H [0,2,4,6,8,12,21],H [10,11],H [0,2,4,6,8,31],H [10,11],H [0,2,4,6,8,36],H [10,11],H [0,2,4,6,8,13],H [4,13,14,15],H [4,13,14,15,50],H [10,11],H [13,15,16],H [13,15,16,62],H [10,11],H [10,11]]
def ZRd:PC :=
 (R [0,2,4,6,8] [I 6 (.box (.s 1)),I 8 (.box (.s 3)),K 10 0,K 11 0])
def ZRe:PC :=
 (R [0,2,4,6,8,12] [M 17 0,T 18 5 6,I 19 (C ZBJ [(.s 17),(.s 18)]),M 12 19])
def ZRf:PC :=
 (R [0,2,4,6,8,12,21] [M 20 12,W 21 .neq 20 0])
def ZRg:PC :=
 (R [10,11] [M 22 12,K 10 0,M 11 22])
def ZRh:PC :=
 (R [0,2,4,6,8,31] [M 23 2,W 24 .lss 23 0,M 25 24,U 26 25 false 2,G 27 25 false (.fadr 2 (.s 6)),G 28 25 false (.fadr 0 (.s 27)),G 29 25 false (.ld false 1 (.s 28)),G 30 25 false (.bin .gtr (.s 26) (.s 29)),I 31 (.pick (.s 25) (.v (.bool true)) (.s 30))])
def ZRi:PC :=
 (R [10,11] [K 10 0,K 11 3])
def ZRj:PC :=
 (R [0,2,4,6,8,36] [M 32 2,F 33 2 6,F 34 0 33,L 35 34,B 36 .eql 32 35])
def ZRk:PC :=
 (R [10,11] [L 37 8,F 38 2 6,T 39 3 38,I 40 (.call .norm (.s 37) [(.s 39)]),M 10 40,K 11 0])
def ZRl:PC :=
 (R [0,2,4,6,8,13] [I 13 (.box (V 0)),J (.st 1 (.s 13) (V 0))])
def ZRm:PC :=
 (R [4,13,14,15] [M 42 0,T 43 5 6,M 44 2,I 45 (.mkf (.func XR) [] [(.s 13),(.s 8)]),I 46 (C ZCo [(.s 42),(.s 43),(.s 44),(.v (.func (.func Xr) [] [])),(.s 45)]),M 41 46,X 47 41 0,X 48 41 1,I 14 (.box (.v (.agg [(.str []),(.int .i64 0),.nils]))),N 3 14 47,M 15 48])
def ZOQ:PC :=
 (R [4,13,14,15,50] [M 49 15,W 50 .neq 49 0])
def ZOR:PC :=
 (R [10,11] [M 51 15,K 10 0,M 11 51])
def ZOS:PC :=
 (R [13,15,16] [M 53 4,F 54 0 14,L 55 54,F 56 1 14,L 57 56,I 58 (.call .norm (.s 53) [(.s 55),(.s 57)]),M 52 58,X 59 52 0,X 60 52 1,M 16 59,M 15 60])
def ZOT:PC :=
 (R [13,15,16,62] [M 61 15,W 62 .neq 61 0])
def ZOU:PC :=
 (R [10,11] [M 63 15,K 10 0,M 11 63])
def ZOV:PC :=
 (R [10,11] [L 64 13,M 65 16,B 66 .add 64 65,M 10 66,K 11 0])
def ZJG:PF:=⟨false,
 (D ZRd
 (D (D ZRe
 (D ZRf
 (E 21
 (D ZRg
 .ret)
 .skip)))
 (D (D ZRh
 (E 31
 (D ZRi
 .ret)
 .skip))
 (D (D ZRj
 (E 36
 (D ZRk
 .ret)
 .skip))
 (D ZRl
 (D ZRm
 (D (D ZOQ
 (E 50
 (D ZOR
 .ret)
 .skip))
 (D ZOS
 (D (D ZOT
 (E 62
 (D ZOU
 .ret)
 .skip))
 (D ZOV
 .ret)))))))))),
 [.s 10,.s 11]⟩
theorem ZZm:Zr Proofs.Tryz.prog false ZZl Proofs.Tryz.f113=some ZJG:=by kernel_rfl
def ZRn:List Hint:=[H [1],H [2]]
def ZLw:PC :=
 (R [1] [I 1 (.box (.s 0)),K 2 0])
def ZLx:PC :=
 (R [2] [F 3 2 1,L 4 3,M 2 4])
def ZFX:PF:=⟨false,
 (D ZLw
 (D ZLx
 .ret)),
 [.s 2]⟩
theorem ZRo:Zr Proofs.Tryz.prog false ZRn Proofs.Tryz.f114=some ZFX:=by kernel_rfl
def ZOW:List Hint:=[H [0,1],H [4,5]]
def ZKD:PC :=
 (R [0,1] [K 4 0,K 5 0])
def ZKE:PC :=
 (R [4,5] [M 6 0,M 7 1,I 8 (C Y0 [(.s 6),(.s 7),(.v (.func (.func YP) [] []))]),X 9 8 0,X 10 8 1,M 4 9,M 5 10])
def ZDa:PF:=⟨false,
 (D ZKD
 (D ZKE
 .ret)),
 [.s 4,.s 5]⟩
theorem ZOX:Zr Proofs.Tryz.prog false ZOW Proofs.Tryz.f115=some ZDa:=by kernel_rfl
def ZdI:List Hint:=[H [0,3],H [0,3,9],H [4],H [0,3,12],H [4],H [0,3,15],H [4],H [3,5,6],H [3,5,6,24],H [4],H [3,5,6,7],H [45],H [4],H [4]]
def ZV2:PC :=
 (R [0,3] [I 3 (.box (.s 1)),K 4 0])
def ZV3:PC :=
 (R [0,3,9] [M 8 0,I 9 (.eqs false 3 [] (.s 8) (.v .nilptr))])
def ZV4:PC :=
 (R [4] [K 4 1])
def ZV5:PC :=
 (R [0,3,12] [T 10 5 3,I 11 (.build [(.int .u64 0),(.int .i64 0),(.int .i64 0),(.int .i64 0),(.int .i64 0)] []),I 12 (.eqs false 0 [(0,0),(1,0),(2,0),(3,0),(4,0)] (.s 10) (.s 11))])
def ZV6:PC :=
 (R [4] [K 4 0])
def ZV7:PC :=
 (R [0,3,15] [F 13 0 3,L 14 13,I 15 (.bin .eql (.s 14) (.v (.int .u64 0)))])
def ZV8:PC :=
 (R [4] [K 4 2])
def ZV9:PC :=
 (R [3,5,6] [M 17 0,F 18 0 3,L 19 18,I 20 (C QX [(.s 17),(.s 19)]),M 16 20,X 21 16 0,X 22 16 1,I 5 (.box (.v ZN)),N 3 5 21,M 6 22])
def ZWA:PC :=
 (R [3,5,6,24] [M 23 6,W 24 .neq 23 0])
def ZWB:PC :=
 (R [4] [M 25 6,M 4 25])
def ZRp:PC :=
 (R [3,5,6,7] [T 27 3 5,I 28 (C J9 [(.s 27)]),M 26 28,X 29 26 0,X 30 26 1,I 7 (.box (.v ZM)),N 3 7 29,M 6 30])
def ZRq:PC :=
 (R [45] [M 31 6,W 32 .neq 31 0,M 33 32,G 34 33 false (.fadr 0 (.s 5)),G 35 33 false (.ld false 1 (.s 34)),G 36 33 false (.fadr 1 (.s 3)),G 37 33 false (.ld false 1 (.s 36)),G 38 33 false (.bin .neq (.s 35) (.s 37)),I 39 (.pick (.s 33) (.v (.bool true)) (.s 38)),M 40 39,G 41 40 false (.ld true 3 (.s 7)),G 42 40 false (.fadr 2 (.s 3)),G 43 40 false (.ld true 3 (.s 42)),G 44 40 false (.eqs true 0 [(0,0),(1,0),(2,0)] (.s 41) (.s 43)),I 45 (.pick (.s 40) (.v (.bool true)) (.s 44))])
def ZRr:PC :=
 (R [4] [K 4 23])
def ZRs:PC :=
 (R [4] [K 4 0])
def ZLy:PF:=⟨false,
 (D ZV2
 (D (D ZV3
 (E 9
 (D ZV4
 .ret)
 .skip))
 (D (D ZV5
 (E 12
 (D ZV6
 .ret)
 .skip))
 (D (D ZV7
 (E 15
 (D ZV8
 .ret)
 .skip))
 (D ZV9
 (D (D ZWA
 (E 24
 (D ZWB
 .ret)
 .skip))
 (D ZRp
 (D (D ZRq
 (E 45
 (D ZRr
 .ret)
 .skip))
 (D ZRs
 .ret))))))))),
 [.s 4]⟩
theorem ZdJ:Zr Proofs.Tryz.prog false ZdI Proofs.Tryz.f116=some ZLy:=by kernel_rfl
def ZWC:List Hint:=[H [0,1],H [0,1,21],H [4,5],⟨[0,6],[],[],[],[(1,(.here 1)),(5,(.here 5)),(3,(.here 3))],[3,1,5]⟩,H [0,6,31,32],H [0,6,31,32,33],H [0,6,7,31,32],H [0,6,7,31,32],H [0,6,31,32],H [0,6,31,32],H [4,5]]
def ZOY:PC :=
 (R [0,1] [I 4 (.mv (.v .nilptr)),K 5 0])
def ZOZ:PC :=
 (R [0,1,21] [M 8 0,W 9 .lss 8 1,M 10 9,U 11 10 false 0,G 12 10 false (.bin .gtr (.s 11) (V 16384)),I 13 (.pick (.s 10) (.v (.bool true)) (.s 12)),M 14 13,U 15 14 false 1,G 16 14 false (.bin .lss (.s 15) (.v (.int .u64 1))),I 17 (.pick (.s 14) (.v (.bool true)) (.s 16)),M 18 17,U 19 18 false 1,G 20 18 false (.bin .gtr (.s 19) (.v (.int .u64 4294967295))),I 21 (.pick (.s 18) (.v (.bool true)) (.s 20))])
def ZOa:PC :=
 (R [4,5] [I 4 (.mv (.v .nilptr)),K 5 3])
def ZOb:PC :=
 (.regH [3,1,5] [0,6] [M 22 0,I 23 (.w (.here 1) (.mkslice 1 8 (.int .i64 0) (.s 22) (.s 22))),M 24 0,I 25 (.w (.here 3) (.mkslice 1 1 (.int .u8 0) (.s 24) (.s 24))),M 26 0,I 27 (.w (.here 5) (.mkslice 1 8 (.int .u64 0) (.s 26) (.s 26))),M 28 1,I 29 (.build [.nils,.nils,.nils,(.int .u64 0)] [(0,1,(.s 23)),(1,1,(.s 25)),(2,1,(.s 27)),(3,1,(.s 28))]),I 30 (.box (.s 29)),M 6 30])
def ZOc:PC :=
 (R [0,6,31,32] [M 31 0,K 32 0])
def ZOd:PC :=
 (R [0,6,31,32,33] [B 33 .lss 32 31])
def ZOe:PC :=
 (R [0,6,7,31,32] [M 34 32,M 7 34])
def ZOf:PC :=
 (R [0,6,7,31,32] [M 35 6,I 36 (.nilck (.s 35)),F 37 0 36,L 38 37,M 39 7,M 40 0,W 41 .sub 40 1,M 42 7,B 43 .sub 41 42,I 44 (.ixS 1 (.s 38) (.s 39)),N 1 44 43])
def ZOg:PC :=
 (R [0,6,31,32] [M 45 6,I 46 (.nilck (.s 45)),F 47 2 46,L 48 47,M 49 7,I 50 (.ixS 1 (.s 48) (.s 49)),J (.st 1 (.s 50) (.v (.int .u64 1)))])
def ZOh:PC :=
 (R [0,6,31,32] [W 51 .add 32 1,M 32 51])
def ZLz:PC :=
 (D ZOd
 (D (E 33
 .skip
 (.exit 0))
 (D (.block 1
 (D ZOe
 (D ZOf
 ZOg)))
 ZOh)))
def ZL0:PC :=
 (R [4,5] [M 52 6,M 4 52,K 5 0])
def ZHo:PF:=⟨true,
 (D ZOY
 (D (D ZOZ
 (E 21
 (D ZOa
 .ret)
 .skip))
 (D ZOb
 (D (D ZOc
 (.block 0
 (.loop ZLz)))
 (D ZL0
 .ret))))),
 [.s 4,.s 5]⟩
theorem ZWD:Zr Proofs.Tryz.prog true ZWC Proofs.Tryz.f126=some ZHo:=by kernel_rfl
def ZdK:List Hint:=[H [0,2],H [0,2,14],H [2,3],⟨[0,2,4],[0],[],[],[],[]⟩,H [2,4,17,18,19],H [2,4,17,18,19,20],H [2,4,6,17,18,19],H [2,4,17,18,19],H [2,4,17,18,19],H [2,4,31],H [2,4,7,8],H [2,4,7,8,39],H [2,3],⟨[2,4,7,9],[0],[],[],[],[]⟩,H [2,4,9,42,43,44],H [2,4,9,42,43,44,45],H [2,4,9,11,42,43,44],H [2,4,9,11,42,43,44],H [2,4,9,42,43,44],H [2,4,9,42,43,44],H [2,4],H [2,3]]
def ZWE:PC :=
 (R [0,2] [I 2 (.box (.v ZT)),K 3 0])
def ZWF:PC :=
 (R [0,2,14] [M 12 0,I 13 (.len 0 (.s 12)),W 14 .gtr 13 65536])
def ZWG:PC :=
 (R [2,3] [I 15 (.build [(.int .u64 0),(.int .i64 0),(.int .i64 0),(.int .i64 0),(.int .i64 0),(.str []),.nils] []),N 7 2 15,K 3 5])
def ZWH:PC :=
 (R [0,2,4] [I 4 (.onil 7)])
def ZWI:PC :=
 (R [2,4,17,18,19] [M 16 0,I 17 (C ZB6 [(.s 16)]),I 18 (.len 1 (.s 17)),K 19 0])
def ZWJ:PC :=
 (R [2,4,17,18,19,20] [B 20 .lss 19 18])
def ZWK:PC :=
 (R [2,4,6,17,18,19] [I 21 (.ixS 1 (.s 17) (.s 19)),L 22 21,M 6 22])
def ZWL:PC :=
 (R [2,4,17,18,19] [M 23 4,M 24 6,I 25 (.build [(.int .u64 0),(.int .i64 0),(.int .i64 0),(.int .i64 0),(.int .i64 0),(.str []),.nils] [(5,1,(.s 24))]),I 26 (.bslice false 7 [ZT] [(0,(.s 25))]),I 27 (.app 7 80 (.s 23) (.s 26)),M 4 27])
def ZWM:PC :=
 (R [2,4,17,18,19] [W 28 .add 19 1,M 19 28])
def ZWN:PC :=
 (D ZWJ
 (D (E 20
 .skip
 (.exit 0))
 (D (.block 1
 (D ZWK
 ZWL))
 ZWM)))
def ZRt:PC :=
 (R [2,4,31] [M 29 4,I 30 (.len 1 (.s 29)),W 31 .gtr 30 1])
def ZRu:PC :=
 (R [2,4,7,8] [M 33 4,I 34 (.len 1 (.s 33)),I 35 (C ZES [(.s 34),(V 4)]),M 32 35,X 36 32 0,X 37 32 1,M 7 36,M 8 37])
def ZRv:PC :=
 (R [2,4,7,8,39] [M 38 8,W 39 .neq 38 0])
def ZRw:PC :=
 (R [2,3] [I 40 (.build [(.int .u64 0),(.int .i64 0),(.int .i64 0),(.int .i64 0),(.int .i64 0),(.str []),.nils] []),M 41 8,N 7 2 40,M 3 41])
def ZRx:PC :=
 (R [2,4,7,9] [I 9 (.onil 7)])
def ZRy:PC :=
 (R [2,4,9,42,43,44] [M 42 7,I 43 (.len 1 (.s 42)),K 44 0])
def ZRz:PC :=
 (R [2,4,9,42,43,44,45] [B 45 .lss 44 43])
def ZR0:PC :=
 (R [2,4,9,11,42,43,44] [I 46 (.ixS 1 (.s 42) (.s 44)),L 47 46,M 11 47])
def ZR1:PC :=
 (R [2,4,9,11,42,43,44] [M 48 9,M 49 4,M 50 11,I 51 (.slc 7 (.s 49) none (some (.s 50))),I 52 (C QN [(.s 51)]),I 53 (.bslice false 7 [ZT] [(0,(.s 52))]),I 54 (.app 7 80 (.s 48) (.s 53)),M 9 54])
def ZR2:PC :=
 (R [2,4,9,42,43,44] [M 55 4,M 56 11,I 57 (.slc 7 (.s 55) (some (.s 56)) none),M 4 57])
def ZR3:PC :=
 (R [2,4,9,42,43,44] [W 58 .add 44 1,M 44 58])
def ZR4:PC :=
 (D ZRz
 (D (E 45
 .skip
 (.exit 4))
 (D (.block 5
 (D ZR0
 (D ZR1
 ZR2)))
 ZR3)))
def ZR5:PC :=
 (R [2,4] [M 59 9,M 4 59])
def ZFY:PC :=
 (D (D ZRt
 (E 31
 .skip
 (.exit 2)))
 (.block 3
 (D ZRu
 (D (D ZRv
 (E 39
 (D ZRw
 .ret)
 .skip))
 (D ZRx
 (D (D ZRy
 (.block 4
 (.loop ZR4)))
 ZR5))))))
def ZFZ:PC :=
 (R [2,3] [M 60 4,I 61 (C QN [(.s 60)]),N 7 2 61,K 3 0])
def ZL1:PF:=⟨false,
 (D ZWE
 (D (D ZWF
 (E 14
 (D ZWG
 .ret)
 .skip))
 (D ZWH
 (D (D ZWI
 (.block 0
 (.loop ZWN)))
 (D (.block 2
 (.loop ZFY))
 (D ZFZ
 .ret)))))),
 [.c 2 true 7,.s 3]⟩
theorem ZdL:Zr Proofs.Tryz.prog false ZdK Proofs.Tryz.f127=some ZL1:=by kernel_rfl
def ZWO:List Hint:=[H [0,2,3,4,6,10],H [0,2,3,4,6,10,12],H [0,2,3,4,6,10,12,24],H [10,11],H [0,2,3,4,6,10,13],H [0,2,3,4,6,10,13,46],H [10,11],H [0,2,3,4,6,10,60],H [10,11],H [0,2,3,4,6,10,67],H [10,11],H [0,3,4,10,14,15,16],H [0,3,4,10,14,15,16,79],H [10,11],H [0,4,10,14,16,18],H [0,4,10,14,16,18,91],H [10,11],H [0,10,14,16,18,19],H [0,10,14,16,18,19,100],H [10,11],H [0,10,14,16,18],H [0,10,14,16,18,111],H [10,11],H [10,14,16],H [10,11]]
def ZOi:PC :=
 (R [0,2,3,4,6,10] [I 6 (.box (.s 1)),I 10 (.box (.v ZT)),K 11 0])
def ZOj:PC :=
 (R [0,2,3,4,6,10,12] [M 20 0,T 21 7 6,I 22 (C YI [(.s 20),(.s 21)]),M 12 22])
def ZOk:PC :=
 (R [0,2,3,4,6,10,12,24] [M 23 12,W 24 .neq 23 0])
def ZOl:PC :=
 (R [10,11] [I 25 (.build [(.int .u64 0),(.int .i64 0),(.int .i64 0),(.int .i64 0),(.int .i64 0),(.str []),.nils] []),M 26 12,N 7 10 25,M 11 26])
def ZOm:PC :=
 (R [0,2,3,4,6,10,13] [T 27 7 6,I 28 (C Qq [(.s 27)]),M 13 28])
def ZOn:PC :=
 (R [0,2,3,4,6,10,13,46] [M 29 2,W 30 .lss 29 0,M 31 30,U 32 31 false 2,U 33 31 false 13,G 34 31 false (.bin .gtr (.s 32) (.s 33)),I 35 (.pick (.s 31) (.v (.bool true)) (.s 34)),M 36 35,U 37 36 false 3,G 38 36 false (.bin .lss (.s 37) (V 0)),I 39 (.pick (.s 36) (.v (.bool true)) (.s 38)),M 40 39,U 41 40 false 3,U 42 40 false 13,U 43 40 false 2,G 44 40 false (.bin .sub (.s 42) (.s 43)),G 45 40 false (.bin .gtr (.s 41) (.s 44)),I 46 (.pick (.s 40) (.v (.bool true)) (.s 45))])
def ZOo:PC :=
 (R [10,11] [I 47 (.build [(.int .u64 0),(.int .i64 0),(.int .i64 0),(.int .i64 0),(.int .i64 0),(.str []),.nils] []),N 7 10 47,K 11 3])
def ZOp:PC :=
 (R [0,2,3,4,6,10,60] [M 48 13,M 49 3,B 50 .sub 48 49,M 51 4,I 52 (.len 0 (.s 51)),I 53 (.mnx false (.s 52) (V 65536)),I 54 (.bin .sub (V 65536) (.s 53)),B 55 .gtr 50 54,M 56 55,U 57 56 false 4,G 58 56 false (.len 0 (.s 57)),G 59 56 false (.bin .gtr (.s 58) (V 65536)),I 60 (.pick (.s 56) (.v (.bool true)) (.s 59))])
def ZOq:PC :=
 (R [10,11] [I 61 (.build [(.int .u64 0),(.int .i64 0),(.int .i64 0),(.int .i64 0),(.int .i64 0),(.str []),.nils] []),N 7 10 61,K 11 5])
def ZOr:PC :=
 (R [0,2,3,4,6,10,67] [M 62 3,W 63 .eql 62 0,M 64 63,U 65 64 true 4,G 66 64 true (.bin .eql (.s 65) (.v (.str []))),I 67 (.pick (.s 64) (.s 66) (.v (.bool false)))])
def ZL2:PC :=
 (R [10,11] [T 68 7 6,I 69 (C ZB5 [(.s 68)]),N 7 10 69,K 11 0])
def ZL3:PC :=
 (R [0,3,4,10,14,15,16] [M 71 0,T 72 7 6,M 73 2,I 74 (C ZAR [(.s 71),(.s 72),(.s 73)]),M 70 74,X 75 70 0,X 76 70 1,X 77 70 2,I 14 (.box (.v ZT)),I 15 (.box (.v ZT)),N 7 14 75,N 7 15 76,M 16 77])
def ZL4:PC :=
 (R [0,3,4,10,14,15,16,79] [M 78 16,W 79 .neq 78 0])
def ZL5:PC :=
 (R [10,11] [I 80 (.build [(.int .u64 0),(.int .i64 0),(.int .i64 0),(.int .i64 0),(.int .i64 0),(.str []),.nils] []),M 81 16,N 7 10 80,M 11 81])
def ZL6:PC :=
 (R [0,4,10,14,16,18] [M 83 0,T 84 7 15,M 85 3,I 86 (C ZAR [(.s 83),(.s 84),(.s 85)]),M 82 86,X 87 82 0,X 88 82 1,X 89 82 2,I 17 (.box (.v ZT)),I 18 (.box (.v ZT)),N 7 17 87,N 7 18 88,M 16 89])
def ZL7:PC :=
 (R [0,4,10,14,16,18,91] [M 90 16,W 91 .neq 90 0])
def ZL8:PC :=
 (R [10,11] [I 92 (.build [(.int .u64 0),(.int .i64 0),(.int .i64 0),(.int .i64 0),(.int .i64 0),(.str []),.nils] []),M 93 16,N 7 10 92,M 11 93])
def ZL9:PC :=
 (R [0,10,14,16,18,19] [M 95 4,I 96 (C Xq [(.s 95)]),M 94 96,X 97 94 0,X 98 94 1,I 19 (.box (.v ZT)),N 7 19 97,M 16 98])
def ZMA:PC :=
 (R [0,10,14,16,18,19,100] [M 99 16,W 100 .neq 99 0])
def ZMB:PC :=
 (R [10,11] [I 101 (.build [(.int .u64 0),(.int .i64 0),(.int .i64 0),(.int .i64 0),(.int .i64 0),(.str []),.nils] []),M 102 16,N 7 10 101,M 11 102])
def ZMC:PC :=
 (R [0,10,14,16,18] [M 104 0,T 105 7 14,T 106 7 19,I 107 (C YT [(.s 104),(.s 105),(.s 106)]),M 103 107,X 108 103 0,X 109 103 1,N 7 14 108,M 16 109])
def ZMD:PC :=
 (R [0,10,14,16,18,111] [M 110 16,W 111 .neq 110 0])
def ZME:PC :=
 (R [10,11] [I 112 (.build [(.int .u64 0),(.int .i64 0),(.int .i64 0),(.int .i64 0),(.int .i64 0),(.str []),.nils] []),M 113 16,N 7 10 112,M 11 113])
def ZMF:PC :=
 (R [10,14,16] [M 115 0,T 116 7 14,T 117 7 18,I 118 (C YT [(.s 115),(.s 116),(.s 117)]),M 114 118,X 119 114 0,X 120 114 1,N 7 14 119,M 16 120])
def ZMG:PC :=
 (R [10,11] [T 121 7 14,I 122 (C ZB5 [(.s 121)]),M 123 16,N 7 10 122,M 11 123])
def ZHp:PF:=⟨false,
 (D ZOi
 (D (D ZOj
 (D ZOk
 (E 24
 (D ZOl
 .ret)
 .skip)))
 (D ZOm
 (D (D ZOn
 (E 46
 (D ZOo
 .ret)
 .skip))
 (D (D ZOp
 (E 60
 (D ZOq
 .ret)
 .skip))
 (D (D ZOr
 (E 67
 (D ZL2
 .ret)
 .skip))
 (D ZL3
 (D (D ZL4
 (E 79
 (D ZL5
 .ret)
 .skip))
 (D ZL6
 (D (D ZL7
 (E 91
 (D ZL8
 .ret)
 .skip))
 (D ZL9
 (D (D ZMA
 (E 100
 (D ZMB
 .ret)
 .skip))
 (D (D ZMC
 (D ZMD
 (E 111
 (D ZME
 .ret)
 .skip)))
 (D ZMF
 (D ZMG
 .ret))))))))))))))),
 [.c 10 true 7,.s 11]⟩
theorem ZWP:Zr Proofs.Tryz.prog false ZWO Proofs.Tryz.f134=some ZHp:=by kernel_rfl
def ZdM:List Hint:=[H [0,3],H [0,3,7],H [4],H [0,3,10],H [4],H [3,5],H [3,5,15],H [4],H [19],H [4],H [4]]
def ZWQ:PC :=
 (R [0,3] [I 3 (.box (.s 1)),K 4 0])
def ZWR:PC :=
 (R [0,3,7] [M 6 0,I 7 (.eqs false 3 [] (.s 6) (.v .nilptr))])
def ZWS:PC :=
 (R [4] [K 4 1])
def ZWT:PC :=
 (R [0,3,10] [T 8 7 3,I 9 (C Qj [(.s 8)]),W 10 .eql 9 1])
def ZWU:PC :=
 (R [4] [K 4 0])
def ZWV:PC :=
 (R [3,5] [M 11 0,T 12 7 3,I 13 (C ZBK [(.s 11),(.s 12),(.v (.bool false)),(V 0)]),M 5 13])
def ZWW:PC :=
 (R [3,5,15] [M 14 5,W 15 .neq 14 0])
def ZWX:PC :=
 (R [4] [M 16 5,M 4 16])
def ZWY:PC :=
 (R [19] [T 17 7 3,I 18 (C Qq [(.s 17)]),W 19 .gtr 18 65536])
def ZWZ:PC :=
 (R [4] [K 4 5])
def ZR6:PC :=
 (R [4] [K 4 0])
def ZMH:PF:=⟨false,
 (D ZWQ
 (D (D ZWR
 (E 7
 (D ZWS
 .ret)
 .skip))
 (D (D ZWT
 (E 10
 (D ZWU
 .ret)
 .skip))
 (D (D ZWV
 (D ZWW
 (E 15
 (D ZWX
 .ret)
 .skip)))
 (D (D ZWY
 (E 19
 (D ZWZ
 .ret)
 .skip))
 (D ZR6
 .ret)))))),
 [.s 4]⟩
theorem ZdN:Zr Proofs.Tryz.prog false ZdM Proofs.Tryz.f135=some ZMH:=by kernel_rfl
def ZZn:List Hint:=[H [1,2,3,4],H [1,2,3,4,15],H [2,6,7],H [7],H [5],H [3,8,9],H [3,8,9,33],H [5],H [3,35,36,37],H [3,35,36,37,38],H [3,11,35,36,37],H [3,12,35,36,37],H [3,12,35,36,37,45],H [5],H [3,35,36,37],H [5]]
def ZR7:PC :=
 (R [1,2,3,4] [I 4 (.box (.s 0)),K 5 0])
def ZR8:PC :=
 (R [1,2,3,4,15] [F 13 1 4,L 14 13,W 15 .eql 14 0])
def ZR9:PC :=
 (R [2,6,7] [L 17 1,T 18 7 4,I 19 (C Xf [(.s 17),(.s 18)]),M 16 19,X 20 16 0,X 21 16 1,M 6 20,M 7 21])
def ZSA:PC :=
 (R [7] [L 22 2,M 23 6,I 24 (.app 1 1 (.s 22) (.s 23)),N 1 2 24])
def ZSB:PC :=
 (R [5] [M 25 7,M 5 25])
def ZSC:PC :=
 (R [3,8,9] [L 27 1,T 28 7 4,I 29 (C Js [(.s 27),(.s 28)]),M 26 29,X 30 26 0,X 31 26 1,M 8 30,M 9 31])
def ZSD:PC :=
 (R [3,8,9,33] [M 32 9,W 33 .neq 32 0])
def ZSE:PC :=
 (R [5] [M 34 9,M 5 34])
def ZSF:PC :=
 (R [3,35,36,37] [M 35 8,I 36 (.len 1 (.s 35)),K 37 0])
def ZSG:PC :=
 (R [3,35,36,37,38] [B 38 .lss 37 36])
def ZOs:PC :=
 (R [3,11,35,36,37] [I 39 (.ixS 7 (.s 35) (.s 37)),T 40 7 39,I 11 (.box (.v ZT)),N 7 11 40])
def ZOt:PC :=
 (R [3,12,35,36,37] [L 41 3,T 42 7 11,I 43 (.call .norm (.s 41) [(.s 42)]),M 12 43])
def ZOu:PC :=
 (R [3,12,35,36,37,45] [M 44 12,W 45 .neq 44 0])
def ZOv:PC :=
 (R [5] [M 46 12,M 5 46])
def ZOw:PC :=
 (R [3,35,36,37] [W 47 .add 37 1,M 37 47])
def ZOx:PC :=
 (D ZSG
 (D (E 38
 .skip
 (.exit 0))
 (D (.block 1
 (D ZOs
 (D ZOt
 (D ZOu
 (E 45
 (D ZOv
 .ret)
 .skip)))))
 ZOw)))
def ZOy:PC :=
 (R [5] [K 5 0])
def ZJH:PF:=⟨false,
 (D ZR7
 (D (D ZR8
 (E 15
 (D ZR9
 (D ZSA
 (D ZSB
 .ret)))
 .skip))
 (D ZSC
 (D (D ZSD
 (E 33
 (D ZSE
 .ret)
 .skip))
 (D (D ZSF
 (.block 0
 (.loop ZOx)))
 (D ZOy
 .ret)))))),
 [.s 5]⟩
theorem ZZo:Zr Proofs.Tryz.prog false ZZn Proofs.Tryz.f136=some ZJH:=by kernel_rfl
def Zfq:List Hint:=[H [0,3],H [0,3,10],H [4,5],H [6,7],H [4,5]]
def ZZp:PC :=
 (R [0,3] [I 3 (.box (.s 1)),I 4 (.mv (.v (.str []))),K 5 0])
def ZZq:PC :=
 (R [0,3,10] [F 8 0 3,L 9 8,I 10 (.bin .eql (.s 9) (.v (.int .u64 0)))])
def ZZr:PC :=
 (R [4,5] [F 11 5 3,L 12 11,M 4 12,K 5 0])
def ZZs:PC :=
 (R [6,7] [M 14 0,F 15 0 3,L 16 15,I 17 (C QX [(.s 14),(.s 16)]),M 13 17,X 18 13 0,X 19 13 1,I 6 (.box (.v ZN)),N 3 6 18,M 7 19])
def ZZt:PC :=
 (R [4,5] [F 20 1 6,L 21 20,M 22 7,M 4 21,M 5 22])
def ZQp:PF:=⟨false,
 (D ZZp
 (D (D ZZq
 (E 10
 (D ZZr
 .ret)
 .skip))
 (D ZZs
 (D ZZt
 .ret)))),
 [.s 4,.s 5]⟩
theorem Zfr:Zr Proofs.Tryz.prog false Zfq Proofs.Tryz.f137=some ZQp:=by kernel_rfl
def ZSH:List Hint:=[H [0,3],H [0,3,13],H [4,5],H [6,7],H [6,7,24],H [4,5],⟨[6,8],[0],[],[],[],[]⟩,H [6,8,27,28,29],H [6,8,27,28,29,30],H [6,8,10,27,28,29],H [6,8,27,28,29],H [6,8,27,28,29],H [8,47],H [4,5],H [4,5]]
def ZMI:PC :=
 (R [0,3] [I 3 (.box (.s 1)),I 4 (.mv (.v .nils)),K 5 0])
def ZMJ:PC :=
 (R [0,3,13] [F 11 0 3,L 12 11,I 13 (.bin .eql (.s 12) (.v (.int .u64 0)))])
def ZMK:PC :=
 (R [4,5] [F 14 6 3,L 15 14,M 4 15,K 5 0])
def ZML:PC :=
 (R [6,7] [M 17 0,F 18 0 3,L 19 18,I 20 (C QX [(.s 17),(.s 19)]),M 16 20,X 21 16 0,X 22 16 1,I 6 (.box (.v ZN)),N 3 6 21,M 7 22])
def ZMM:PC :=
 (R [6,7,24] [M 23 7,W 24 .neq 23 0])
def ZMN:PC :=
 (R [4,5] [M 25 7,I 4 (.mv (.v .nils)),M 5 25])
def ZMO:PC :=
 (R [6,8] [I 8 (.onil 7)])
def ZMP:PC :=
 (R [6,8,27,28,29] [F 26 2 6,L 27 26,I 28 (.len 1 (.s 27)),K 29 0])
def ZMQ:PC :=
 (R [6,8,27,28,29,30] [B 30 .lss 29 28])
def ZMR:PC :=
 (R [6,8,10,27,28,29] [I 31 (.ixS 4 (.s 27) (.s 29)),T 32 4 31,I 10 (.box (.v ZK)),N 4 10 32])
def ZKF:PC :=
 (R [6,8,27,28,29] [M 33 8,F 34 0 10,L 35 34,F 36 0 6,L 37 36,W 38 .sub 37 1,F 39 1 10,T 40 3 39,I 41 (.build [(.int .u64 0),(.int .i64 0),(.int .i64 0),(.int .i64 0),(.int .i64 0),(.str []),.nils] [(0,1,(.s 35)),(1,1,(.s 38)),(2,3,(.s 40))]),I 42 (.bslice false 7 [ZT] [(0,(.s 41))]),I 43 (.app 7 80 (.s 33) (.s 42)),M 8 43])
def ZKG:PC :=
 (R [6,8,27,28,29] [W 44 .add 29 1,M 29 44])
def ZCR:PC :=
 (D ZMQ
 (D (E 30
 .skip
 (.exit 0))
 (D (.block 1
 (D ZMR
 ZKF))
 ZKG)))
def ZKH:PC :=
 (R [8,47] [M 45 8,I 46 (.len 1 (.s 45)),W 47 .eql 46 0])
def ZKI:PC :=
 (R [4,5] [I 4 (.mv (.v .nils)),K 5 23])
def ZKJ:PC :=
 (R [4,5] [M 48 8,M 4 48,K 5 0])
def ZFa:PF:=⟨false,
 (D ZMI
 (D (D ZMJ
 (E 13
 (D ZMK
 .ret)
 .skip))
 (D ZML
 (D (D ZMM
 (E 24
 (D ZMN
 .ret)
 .skip))
 (D ZMO
 (D (D ZMP
 (.block 0
 (.loop ZCR)))
 (D (D ZKH
 (E 47
 (D ZKI
 .ret)
 .skip))
 (D ZKJ
 .ret)))))))),
 [.s 4,.s 5]⟩
theorem ZSI:Zr Proofs.Tryz.prog false ZSH Proofs.Tryz.f138=some ZFa:=by kernel_rfl
def Zfs:List Hint:=[H [1],H [1,3],H [1,3,13],H [2],H [1,3,31],H [2],H [1,3,46],H [2],H [65],H [2],H [2]]
def ZZu:PC :=
 (R [1] [I 1 (.box (.s 0)),K 2 0])
def ZZv:PC :=
 (R [1,3] [F 4 2 1,T 5 3 4,I 6 (.build [(.int .i64 0),(.int .i64 0),(.int .i64 0)] []),I 7 (.eqs false 0 [(0,0),(1,0),(2,0)] (.s 5) (.s 6)),M 8 7,G 9 8 true (.fadr 0 (.s 1)),G 10 8 true (.ld false 1 (.s 9)),G 11 8 true (.bin .eql (.s 10) (.v (.int .u64 0))),I 12 (.pick (.s 8) (.s 11) (.v (.bool false))),M 3 12])
def ZZw:PC :=
 (R [1,3,13] [M 14 3,M 15 14,G 16 15 true (.fadr 1 (.s 1)),G 17 15 true (.ld false 1 (.s 16)),G 18 15 true (.bin .eql (.s 17) (V 0)),I 19 (.pick (.s 15) (.s 18) (.v (.bool false))),M 20 19,G 21 20 true (.fadr 5 (.s 1)),G 22 20 true (.ld false 1 (.s 21)),G 23 20 true (.bin .eql (.s 22) (.v (.str []))),I 24 (.pick (.s 20) (.s 23) (.v (.bool false))),M 25 24,G 26 25 true (.fadr 6 (.s 1)),G 27 25 true (.ld false 1 (.s 26)),G 28 25 true (.len 1 (.s 27)),G 29 25 true (.bin .eql (.s 28) (V 0)),I 30 (.pick (.s 25) (.s 29) (.v (.bool false))),M 13 30])
def ZZx:PC :=
 (R [2] [K 2 1])
def ZZy:PC :=
 (R [1,3,31] [F 32 0 1,L 33 32,I 34 (.bin .neq (.s 33) (.v (.int .u64 0))),M 35 34,G 36 35 true (.fadr 5 (.s 1)),G 37 35 true (.ld false 1 (.s 36)),G 38 35 true (.bin .eql (.s 37) (.v (.str []))),I 39 (.pick (.s 35) (.s 38) (.v (.bool false))),M 40 39,G 41 40 true (.fadr 6 (.s 1)),G 42 40 true (.ld false 1 (.s 41)),G 43 40 true (.len 1 (.s 42)),G 44 40 true (.bin .eql (.s 43) (V 0)),I 45 (.pick (.s 40) (.s 44) (.v (.bool false))),M 31 45])
def ZZz:PC :=
 (R [2] [K 2 2])
def ZZ0:PC :=
 (R [1,3,46] [M 47 3,M 48 47,G 49 48 true (.fadr 1 (.s 1)),G 50 48 true (.ld false 1 (.s 49)),G 51 48 true (.bin .eql (.s 50) (V 0)),I 52 (.pick (.s 48) (.s 51) (.v (.bool false))),M 53 52,G 54 53 true (.fadr 6 (.s 1)),G 55 53 true (.ld false 1 (.s 54)),G 56 53 true (.len 1 (.s 55)),G 57 53 true (.bin .eql (.s 56) (V 0)),I 58 (.pick (.s 53) (.s 57) (.v (.bool false))),M 59 58,G 60 59 true (.fadr 5 (.s 1)),G 61 59 true (.ld false 1 (.s 60)),G 62 59 true (.len 0 (.s 61)),G 63 59 true (.bin .leq (.s 62) (V 16)),I 64 (.pick (.s 59) (.s 63) (.v (.bool false))),M 46 64])
def ZZ1:PC :=
 (R [2] [K 2 3])
def ZZ2:PC :=
 (R [65] [M 66 3,M 67 66,G 68 67 true (.fadr 5 (.s 1)),G 69 67 true (.ld false 1 (.s 68)),G 70 67 true (.bin .eql (.s 69) (.v (.str []))),I 71 (.pick (.s 67) (.s 70) (.v (.bool false))),M 72 71,G 73 72 true (.fadr 1 (.s 1)),G 74 72 true (.ld false 1 (.s 73)),G 75 72 true (.bin .geq (.s 74) (V 1)),I 76 (.pick (.s 72) (.s 75) (.v (.bool false))),M 77 76,G 78 77 true (.fadr 1 (.s 1)),G 79 77 true (.ld false 1 (.s 78)),G 80 77 true (.bin .leq (.s 79) (V 16)),I 81 (.pick (.s 77) (.s 80) (.v (.bool false))),M 82 81,G 83 82 true (.fadr 6 (.s 1)),G 84 82 true (.ld false 1 (.s 83)),G 85 82 true (.len 1 (.s 84)),G 86 82 true (.bin .geq (.s 85) (V 2)),I 87 (.pick (.s 82) (.s 86) (.v (.bool false))),M 88 87,G 89 88 true (.fadr 6 (.s 1)),G 90 88 true (.ld false 1 (.s 89)),G 91 88 true (.len 1 (.s 90)),G 92 88 true (.bin .leq (.s 91) (V 4)),I 93 (.pick (.s 88) (.s 92) (.v (.bool false))),M 65 93])
def ZZ3:PC :=
 (R [2] [K 2 4])
def ZWa:PC :=
 (R [2] [K 2 0])
def ZQq:PF:=⟨false,
 (D ZZu
 (D ZZv
 (D (.block 0
 (D ZZw
 (E 13
 (D ZZx
 .ret)
 (D ZZy
 (E 31
 (D ZZz
 .ret)
 (D ZZ0
 (E 46
 (D ZZ1
 .ret)
 (D ZZ2
 (E 65
 (D ZZ3
 .ret)
 .skip)))))))))
 (D ZWa
 .ret)))),
 [.s 2]⟩
theorem Zft:Zr Proofs.Tryz.prog false Zfs Proofs.Tryz.f139=some ZQq:=by kernel_rfl
def ZdO:List Hint:=[H [0,3],H [0,3,6],H [0,3,6,12],H [4,5],H [0,3,19],H [4,5],H [3,7],H [7],H [4,5]]
def ZWb:PC :=
 (R [0,3] [I 3 (.box (.s 1)),I 4 (.mv (.v .nilptr)),K 5 0])
def ZWc:PC :=
 (R [0,3,6] [M 8 0,T 9 7 3,I 10 (C YI [(.s 8),(.s 9)]),M 6 10])
def ZWd:PC :=
 (R [0,3,6,12] [M 11 6,W 12 .neq 11 0])
def ZWe:PC :=
 (R [4,5] [M 13 6,I 4 (.mv (.v .nilptr)),M 5 13])
def ZWf:PC :=
 (R [0,3,19] [T 14 7 3,I 15 (C ZAS [(.s 14)]),M 16 0,I 17 (C XF [(.s 16)]),I 18 (.fld false 1 1 (.s 17)),B 19 .gtr 15 18])
def ZWg:PC :=
 (R [4,5] [I 4 (.mv (.v .nilptr)),K 5 6])
def ZWh:PC :=
 (R [3,7] [M 20 0,I 21 (.build [.nilptr,.nils,.nilptr] [(0,1,(.s 20))]),I 22 (.box (.s 21)),M 7 22])
def ZWi:PC :=
 (R [7] [M 23 7,M 24 7,T 25 7 3,I 26 (C Qm [(.s 24),(.s 25)]),I 27 (.nilck (.s 23)),F 28 2 27,N 1 28 26])
def ZWj:PC :=
 (R [4,5] [M 29 7,M 4 29,K 5 0])
def ZMS:PF:=⟨true,
 (D ZWb
 (D (D ZWc
 (D ZWd
 (E 12
 (D ZWe
 .ret)
 .skip)))
 (D (D ZWf
 (E 19
 (D ZWg
 .ret)
 .skip))
 (D ZWh
 (D ZWi
 (D ZWj
 .ret)))))),
 [.s 4,.s 5]⟩
theorem ZdP:Zr Proofs.Tryz.prog true ZdO Proofs.Tryz.f140=some ZMS:=by kernel_rfl
def ZSJ:List Hint:=[H [0],H [0,6],H [2,3,4],H [0,12],H [2,3,4],H [0,2,4],H [0,2,4,24],H [2,3,4],H [0,2],H [2,3,4]]
def ZMT:PC :=
 (R [0] [I 2 (.mv (.v (.int .u64 0))),I 3 (.mv (.v (.bool false))),K 4 0])
def ZMU:PC :=
 (R [0,6] [M 5 0,I 6 (.eqs false 3 [] (.s 5) (.v .nilptr))])
def ZMV:PC :=
 (R [2,3,4] [I 2 (.mv (.v (.int .u64 0))),I 3 (.mv (.v (.bool false))),K 4 1])
def ZMW:PC :=
 (R [0,12] [M 7 0,I 8 (.nilck (.s 7)),F 9 1 8,L 10 9,I 11 (.len 1 (.s 10)),W 12 .eql 11 0])
def ZMX:PC :=
 (R [2,3,4] [I 2 (.mv (.v (.int .u64 0))),I 3 (.mv (.v (.bool true))),K 4 0])
def ZMY:PC :=
 (R [0,2,4] [M 14 0,I 15 (.nilck (.s 14)),F 16 1 15,L 17 16,I 18 (.ixS 1 (.s 17) (V 0)),L 19 18,I 20 (.call .norm (.s 19) []),M 13 20,X 21 13 0,X 22 13 1,M 2 21,M 4 22])
def ZMZ:PC :=
 (R [0,2,4,24] [M 23 4,W 24 .neq 23 0])
def ZMa:PC :=
 (R [2,3,4] [M 25 4,I 2 (.mv (.v (.int .u64 0))),I 3 (.mv (.v (.bool false))),M 4 25])
def ZMb:PC :=
 (R [0,2] [M 26 0,M 27 0,I 28 (.nilck (.s 27)),F 29 1 28,L 30 29,I 31 (.slc 1 (.s 30) (some (V 1)) none),I 32 (.nilck (.s 26)),F 33 1 32,N 1 33 31])
def ZMc:PC :=
 (R [2,3,4] [M 34 2,M 35 0,I 36 (.nilck (.s 35)),F 37 1 36,L 38 37,I 39 (.len 1 (.s 38)),W 40 .eql 39 0,M 2 34,M 3 40,K 4 0])
def ZFb:PF:=⟨false,
 (D ZMT
 (D (D ZMU
 (E 6
 (D ZMV
 .ret)
 .skip))
 (D (D ZMW
 (E 12
 (D ZMX
 .ret)
 .skip))
 (D ZMY
 (D (D ZMZ
 (E 24
 (D ZMa
 .ret)
 .skip))
 (D ZMb
 (D ZMc
 .ret))))))),
 [.s 2,.s 3,.s 4]⟩
theorem ZSK:Zr Proofs.Tryz.prog false ZSJ Proofs.Tryz.f141=some ZFb:=by kernel_rfl
def ZSL:List Hint:=[H [0,2],H [0,2,5],H [2,3],H [0,2,12],H [2,3],H [2,3]]
def ZMd:PC :=
 (R [0,2] [I 2 (.box (.v ZR)),K 3 0])
def ZMe:PC :=
 (R [0,2,5] [M 4 0,I 5 (.eqs false 3 [] (.s 4) (.v .nilptr))])
def ZMf:PC :=
 (R [2,3] [I 6 (.build [(.int .u64 0),(.int .i64 0),(.int .i64 0),(.int .i64 0),(.int .i64 0)] []),N 5 2 6,K 3 1])
def ZMg:PC :=
 (R [0,2,12] [M 7 0,I 8 (.nilck (.s 7)),F 9 1 8,L 10 9,I 11 (.len 1 (.s 10)),W 12 .gtr 11 0])
def ZMh:PC :=
 (R [2,3] [I 13 (.build [(.int .u64 0),(.int .i64 0),(.int .i64 0),(.int .i64 0),(.int .i64 0)] []),N 5 2 13,K 3 8])
def ZMi:PC :=
 (R [2,3] [M 14 0,I 15 (.nilck (.s 14)),F 16 2 15,L 17 16,I 18 (.nilck (.s 17)),T 19 5 18,N 5 2 19,K 3 0])
def ZFc:PF:=⟨false,
 (D ZMd
 (D (D ZMe
 (E 5
 (D ZMf
 .ret)
 .skip))
 (D (D ZMg
 (E 12
 (D ZMh
 .ret)
 .skip))
 (D ZMi
 .ret)))),
 [.c 2 true 5,.s 3]⟩
theorem ZSM:Zr Proofs.Tryz.prog false ZSL Proofs.Tryz.f142=some ZFc:=by kernel_rfl
def ZSN:List Hint:=[H [0,1,2,3,4,11],H [0,1,2,3,4,6,7,9],H [0,1,2,3,4,6,7,9,28],H [0,1,2,3,4,6,7,9],H [0,1,2,3,4,6,7,9,30],H [],H [0,1,2,3,4,6],H [0,1,2,3,4,6,46],⟨[0,1,2,3,4],[],[],[],[(4,(.hide [(.s 4)])),(8,(.plain (.s 4)))],[]⟩]
def ZMj:PC :=
 (R [0,1,2,3,4,11] [L 10 1,W 11 .gtr 10 0])
def ZMk:PC :=
 (R [0,1,2,3,4,6,7,9] [L 13 2,T 14 5 3,L 15 4,I 16 (C ZGy [(.s 13),(.s 14),(.s 15)]),M 12 16,X 17 12 0,X 18 12 1,X 19 12 2,X 20 12 3,M 6 17,M 7 18,M 8 19,M 9 20])
def ZMl:PC :=
 (R [0,1,2,3,4,6,7,9,28] [M 21 9,W 22 .eql 21 0,M 23 22,U 24 23 true 7,U 25 23 true 6,G 26 23 true (.len 0 (.s 25)),G 27 23 true (.bin .geq (.s 24) (.s 26)),I 28 (.pick (.s 23) (.s 27) (.v (.bool false)))])
def ZMm:PC :=
 (R [0,1,2,3,4,6,7,9] [K 9 23])
def ZMn:PC :=
 (R [0,1,2,3,4,6,7,9,30] [M 29 9,W 30 .neq 29 0])
def ZMo:PC :=
 (R [] [M 31 0,M 32 9,I 33 (.call .norm (.s 31) [(.v (.str [])),(.s 32)])])
def ZMp:PC :=
 (R [0,1,2,3,4,6] [M 34 6,M 35 7,M 36 6,I 37 (.len 0 (.s 36)),M 38 7,L 39 1,B 40 .add 38 39,I 41 (.mnx false (.s 37) (.s 40)),I 42 (.slcS (.s 34) (some (.s 35)) (some (.s 41))),M 6 42])
def ZMq:PC :=
 (R [0,1,2,3,4,6,46] [M 43 0,M 44 6,I 45 (.call .norm (.s 43) [(.s 44),(V 0)]),I 46 (.un .not (.s 45))])
def ZMr:PC :=
 (R [0,1,2,3,4] [L 47 4,M 48 6,I 49 (.len 0 (.s 48)),B 50 .add 47 49,I 51 (.w (.hide [(.s 4)]) (.ld false 1 (.s 1))),M 52 6,I 53 (.len 0 (.s 52)),B 54 .sub 51 53,J (.w (.plain (.s 4)) (.st 1 (.s 4) (.s 50))),N 1 1 54])
def ZMs:PC :=
 (D (D ZMj
 (E 11
 .skip
 (.exit 0)))
 (.block 1
 (D ZMk
 (D (D ZMl
 (E 28
 ZMm
 .skip))
 (D (D ZMn
 (E 30
 (D ZMo
 .ret)
 .skip))
 (D ZMp
 (D (D ZMq
 (E 46
 .ret
 .skip))
 ZMr)))))))
def ZFd:PF:=⟨false,
 (.block 0
 (.loop ZMs)),
 []⟩
theorem ZSO:Zr Proofs.Tryz.prog false ZSN Proofs.Tryz.f143=some ZFd:=by kernel_rfl
def Zfu:List Hint:=[H [0,2,4],H [0,2,4,10],H [0,2,4,10,16],H [6,7,8,9],H [0,2,4,26],H [6,7,8,9],H [9,11],H [6,7,8,9]]
def ZZ4:PC :=
 (R [0,2,4] [I 4 (.box (.s 1)),I 6 (.mv (.v (.str []))),K 7 0,I 8 (.mv (.v .nils)),K 9 0])
def ZZ5:PC :=
 (R [0,2,4,10] [M 12 0,T 13 5 4,I 14 (C ZBJ [(.s 12),(.s 13)]),M 10 14])
def ZZ6:PC :=
 (R [0,2,4,10,16] [M 15 10,W 16 .neq 15 0])
def ZZ7:PC :=
 (R [6,7,8,9] [M 17 10,I 6 (.mv (.v (.str []))),K 7 0,I 8 (.mv (.v .nils)),M 9 17])
def ZZ8:PC :=
 (R [0,2,4,26] [M 18 2,W 19 .lss 18 0,M 20 19,U 21 20 false 2,G 22 20 false (.fadr 2 (.s 4)),G 23 20 false (.fadr 0 (.s 22)),G 24 20 false (.ld false 1 (.s 23)),G 25 20 false (.bin .geq (.s 21) (.s 24)),I 26 (.pick (.s 20) (.v (.bool true)) (.s 25))])
def ZZ9:PC :=
 (R [6,7,8,9] [I 6 (.mv (.v (.str []))),K 7 0,I 8 (.mv (.v .nils)),K 9 3])
def ZaA:PC :=
 (R [9,11] [M 28 0,T 29 5 4,M 30 2,I 31 (C ZCo [(.s 28),(.s 29),(.s 30),(.v (.func (.func Xr) [] [])),(.v (.func (.func ZAc) [] []))]),M 27 31,X 32 27 0,X 33 27 1,I 11 (.box (.v (.agg [(.str []),(.int .i64 0),.nils]))),N 3 11 32,M 9 33])
def ZaB:PC :=
 (R [6,7,8,9] [F 34 0 11,L 35 34,F 36 1 11,L 37 36,F 38 2 11,L 39 38,M 40 9,M 6 35,M 7 37,M 8 39,M 9 40])
def ZQr:PF:=⟨false,
 (D ZZ4
 (D (D ZZ5
 (D ZZ6
 (E 16
 (D ZZ7
 .ret)
 .skip)))
 (D (D ZZ8
 (E 26
 (D ZZ9
 .ret)
 .skip))
 (D ZaA
 (D ZaB
 .ret))))),
 [.s 6,.s 7,.s 8,.s 9]⟩
theorem Zfv:Zr Proofs.Tryz.prog false Zfu Proofs.Tryz.f144=some ZQr:=by kernel_rfl
def ZHq:List Hint:=[H [1],H [2]]
def ZEt:PC :=
 (R [1] [I 1 (.box (.s 0)),K 2 0])
def ZEu:PC :=
 (R [2] [F 3 1 1,L 4 3,M 2 4])
def ZAo:PF:=⟨false,
 (D ZEt
 (D ZEu
 .ret)),
 [.s 2]⟩
theorem ZHr:Zr Proofs.Tryz.prog false ZHq Proofs.Tryz.f145=some ZAo:=by kernel_rfl
def ZGa:List Hint:=[H [0,1],H [4,5]]
def ZDb:PC :=
 (R [0,1] [K 4 0,K 5 0])
def ZDc:PC :=
 (R [4,5] [M 6 0,M 7 1,I 8 (C Y0 [(.s 6),(.s 7),(.v (.func (.func YA) [] []))]),X 9 8 0,X 10 8 1,M 4 9,M 5 10])
def ZAE:PF:=⟨false,
 (D ZDb
 (D ZDc
 .ret)),
 [.s 4,.s 5]⟩
theorem ZGb:Zr Proofs.Tryz.prog false ZGa Proofs.Tryz.f146=some ZAE:=by kernel_rfl
def Zfw:List Hint:=[H [0,1,2,7],H [2,7,9,10],H [2,7,9,10,19],H [8],H [2,7,9,10,11],H [38],H [8],H [8]]
def ZaC:PC :=
 (R [0,1,2,7] [I 7 (.box (.s 3)),K 8 0])
def ZaD:PC :=
 (R [2,7,9,10] [M 13 0,M 14 1,I 15 (C QX [(.s 13),(.s 14)]),M 12 15,X 16 12 0,X 17 12 1,I 9 (.box (.v ZN)),N 3 9 16,M 10 17])
def ZaE:PC :=
 (R [2,7,9,10,19] [M 18 10,W 19 .neq 18 0])
def ZaF:PC :=
 (R [8] [M 20 10,M 8 20])
def ZaG:PC :=
 (R [2,7,9,10,11] [T 22 3 9,I 23 (C J9 [(.s 22)]),M 21 23,X 24 21 0,X 25 21 1,I 11 (.box (.v ZM)),N 3 11 24,M 10 25])
def ZaH:PC :=
 (R [38] [M 26 10,W 27 .neq 26 0,M 28 27,G 29 28 false (.fadr 0 (.s 9)),G 30 28 false (.ld false 1 (.s 29)),U 31 28 false 2,G 32 28 false (.bin .neq (.s 30) (.s 31)),I 33 (.pick (.s 28) (.v (.bool true)) (.s 32)),M 34 33,G 35 34 false (.ld true 3 (.s 11)),G 36 34 false (.ld true 3 (.s 7)),G 37 34 false (.eqs true 0 [(0,0),(1,0),(2,0)] (.s 35) (.s 36)),I 38 (.pick (.s 34) (.v (.bool true)) (.s 37))])
def ZaI:PC :=
 (R [8] [K 8 23])
def ZaJ:PC :=
 (R [8] [K 8 0])
def ZQs:PF:=⟨false,
 (D ZaC
 (D ZaD
 (D (D ZaE
 (E 19
 (D ZaF
 .ret)
 .skip))
 (D ZaG
 (D (D ZaH
 (E 38
 (D ZaI
 .ret)
 .skip))
 (D ZaJ
 .ret)))))),
 [.s 8]⟩
theorem Zfx:Zr Proofs.Tryz.prog false Zfw Proofs.Tryz.f149=some ZQs:=by kernel_rfl
def ZWk:List Hint:=[H [1,2,3],H [1,2,3,4],H [2,4],H [2,4,8],H []]
def ZOz:PC :=
 (R [1,2,3] [I 3 (.box (.s 0))])
def ZO0:PC :=
 (R [1,2,3,4] [I 4 (.box (.v .nilfunc))])
def ZO1:PC :=
 (R [2,4] [I 5 (.mkf (.func ZAQ) [] [(.s 1),(.s 3),(.s 4)]),N 1 4 5])
def ZO2:PC :=
 (R [2,4,8] [F 6 0 2,L 7 6,I 8 (.bin .neq (.s 7) (.v (.int .u64 0)))])
def ZO3:PC :=
 (R [] [L 9 4,F 10 0 2,L 11 10,I 12 (.call .norm (.s 9) [(.s 11)])])
def ZHs:PF:=⟨false,
 (D ZOz
 (D ZO0
 (D ZO1
 (D ZO2
 (E 8
 ZO3
 .skip))))),
 []⟩
theorem ZWl:Zr Proofs.Tryz.prog false ZWk Proofs.Tryz.f155=some ZHs:=by kernel_rfl
def ZO4:List Hint:=[H [0,1,2,3],H [0,2,3,6,7],H [3,6,26],H [5],H [3,28,29,30],H [3,28,29,30,31],H [3,9,28,29,30],H [3,28,29,30,38],H [5],H [3,28,29,30],H [5]]
def ZKK:PC :=
 (R [0,1,2,3] [I 5 (.mv (.v (.bool false)))])
def ZKL:PC :=
 (R [0,2,3,6,7] [L 11 1,M 12 0,I 13 (C QX [(.s 11),(.s 12)]),M 10 13,X 14 10 0,X 15 10 1,I 6 (.box (.v ZN)),N 3 6 14,M 7 15])
def ZKM:PC :=
 (R [3,6,26] [L 16 2,M 17 0,T 18 3 6,M 19 7,I 20 (.build [(.int .i64 0),(.str []),.nils,(.int .i64 0)] [(0,3,(.s 18)),(3,1,(.s 19))]),I 21 (.call .norm (.s 16) [(.s 17),(.s 20)]),I 22 (.un .not (.s 21)),M 23 22,U 24 23 false 7,G 25 23 false (.bin .neq (.s 24) (V 0)),I 26 (.pick (.s 23) (.v (.bool true)) (.s 25))])
def ZKN:PC :=
 (R [5] [I 5 (.mv (.v (.bool false)))])
def ZKO:PC :=
 (R [3,28,29,30] [F 27 2 6,L 28 27,I 29 (.len 1 (.s 28)),K 30 0])
def ZKP:PC :=
 (R [3,28,29,30,31] [B 31 .lss 30 29])
def ZKQ:PC :=
 (R [3,9,28,29,30] [I 32 (.ixS 4 (.s 28) (.s 30)),T 33 4 32,I 9 (.box (.v ZK)),N 4 9 33])
def ZKR:PC :=
 (R [3,28,29,30,38] [L 34 3,F 35 0 9,L 36 35,I 37 (.call .norm (.s 34) [(.s 36)]),I 38 (.un .not (.s 37))])
def ZKS:PC :=
 (R [5] [I 5 (.mv (.v (.bool false)))])
def ZKT:PC :=
 (R [3,28,29,30] [W 39 .add 30 1,M 30 39])
def ZI2:PC :=
 (D ZKP
 (D (E 31
 .skip
 (.exit 0))
 (D (.block 1
 (D ZKQ
 (D ZKR
 (E 38
 (D ZKS
 .ret)
 .skip))))
 ZKT)))
def ZI3:PC :=
 (R [5] [I 5 (.mv (.v (.bool true)))])
def ZDd:PF:=⟨false,
 (D ZKK
 (D ZKL
 (D (D ZKM
 (E 26
 (D ZKN
 .ret)
 .skip))
 (D (D ZKO
 (.block 0
 (.loop ZI2)))
 (D ZI3
 .ret))))),
 [.s 5]⟩
theorem ZO5:Zr Proofs.Tryz.prog false ZO4 Proofs.Tryz.f156=some ZDd:=by kernel_rfl
def ZdQ:List Hint:=[H [1],H [1,3],H [3,14,15,16],H [3,14,15,16,17],H [3,5,14,15,16],H [3,14,15,16],H [3,14,15,16],H [2]]
def ZWm:PC :=
 (R [1] [I 1 (.box (.s 0)),K 2 0])
def ZWn:PC :=
 (R [1,3] [F 6 2 1,F 7 0 6,L 8 7,F 9 5 1,L 10 9,I 11 (.len 0 (.s 10)),B 12 .add 8 11,M 3 12])
def ZWo:PC :=
 (R [3,14,15,16] [F 13 6 1,L 14 13,I 15 (.len 1 (.s 14)),K 16 0])
def ZWp:PC :=
 (R [3,14,15,16,17] [B 17 .lss 16 15])
def ZWq:PC :=
 (R [3,5,14,15,16] [I 18 (.ixS 7 (.s 14) (.s 16)),T 19 7 18,I 5 (.box (.v ZT)),N 7 5 19])
def ZWr:PC :=
 (R [3,14,15,16] [M 20 3,T 21 7 5,I 22 (C Qq [(.s 21)]),B 23 .add 20 22,M 3 23])
def ZWs:PC :=
 (R [3,14,15,16] [W 24 .add 16 1,M 16 24])
def ZWt:PC :=
 (D ZWp
 (D (E 17
 .skip
 (.exit 0))
 (D (.block 1
 (D ZWq
 ZWr))
 ZWs)))
def ZWu:PC :=
 (R [2] [M 25 3,M 2 25])
def ZMt:PF:=⟨false,
 (D ZWm
 (D ZWn
 (D (D ZWo
 (.block 0
 (.loop ZWt)))
 (D ZWu
 .ret)))),
 [.s 2]⟩
theorem ZdR:Zr Proofs.Tryz.prog false ZdQ Proofs.Tryz.f157=some ZMt:=by kernel_rfl
def Zhb:List Hint:=[H [0,2,4,6,7],H [0,2,4,6,7,18],⟨[6,7,8],[],[],[],[(1,(.hide [(.s 6)])),(2,(.plain (.s 6)))],[]⟩,H [0,2,4,6,7,24],H [6,7,8],H [0,2,4,6,7,29],H [2,6,7,9,10],H [2,6,7,9,10,37],H [6,7,8],H [6,7,10,11,12],H [6,7,8],H [0,2,6,7,8,13],H [0,2,6,7,8,13,60],H [6,7,8],H [0,2,6,7,13,14],H [0,2,6,7,13,14,77],H [0,2,6,7,13,14],H [0,2,6,7,13,14],H [0,2,6,7,13,14,88],⟨[6,7,8],[],[(3,.pure)],[],[],[]⟩,H [0,6,7,8,13,14,15,16],H [0,6,7,8,13,14,15,16,109],H [6,7,8],⟨[0,6,7,8,13,14,16],[],[(4,.pure)],[],[],[]⟩,H [0,6,7,8,13,14,16,124],H [6,7,8],⟨[6,7,8],[],[(6,.pure)],[],[],[]⟩,H [6,7,8,140],H [6,7,8],⟨[6,7,8],[],[],[],[(1,(.hide [(.s 6)])),(2,(.plain (.s 6)))],[]⟩]
def ZdS:PC :=
 (R [0,2,4,6,7] [I 4 (.box (.s 1)),I 6 (.box (.v ZT)),I 7 (.box (.v ZT)),K 8 0])
def ZdT:PC :=
 (R [0,2,4,6,7,18] [M 17 2,W 18 .eql 17 0])
def ZdU:PC :=
 (R [6,7,8] [I 19 (.build [(.int .u64 0),(.int .i64 0),(.int .i64 0),(.int .i64 0),(.int .i64 0),(.str []),.nils] []),I 20 (.w (.hide [(.s 6)]) (.ld true 7 (.s 4))),J (.w (.plain (.s 6)) (.st 7 (.s 6) (.s 19))),N 7 7 20,K 8 0])
def ZdV:PC :=
 (R [0,2,4,6,7,24] [M 21 2,T 22 7 4,I 23 (C Qq [(.s 22)]),B 24 .eql 21 23])
def ZdW:PC :=
 (R [6,7,8] [T 25 7 4,I 26 (.build [(.int .u64 0),(.int .i64 0),(.int .i64 0),(.int .i64 0),(.int .i64 0),(.str []),.nils] []),N 7 6 25,N 7 7 26,K 8 0])
def ZdX:PC :=
 (R [0,2,4,6,7,29] [F 27 1 4,L 28 27,W 29 .eql 28 0])
def ZdY:PC :=
 (R [2,6,7,9,10] [M 31 0,T 32 7 4,I 33 (C Xf [(.s 31),(.s 32)]),M 30 33,X 34 30 0,X 35 30 1,M 9 34,M 10 35])
def ZdZ:PC :=
 (R [2,6,7,9,10,37] [M 36 10,W 37 .neq 36 0])
def Zda:PC :=
 (R [6,7,8] [I 38 (.build [(.int .u64 0),(.int .i64 0),(.int .i64 0),(.int .i64 0),(.int .i64 0),(.str []),.nils] []),I 39 (.build [(.int .u64 0),(.int .i64 0),(.int .i64 0),(.int .i64 0),(.int .i64 0),(.str []),.nils] []),M 40 10,N 7 6 38,N 7 7 39,M 8 40])
def Zdb:PC :=
 (R [6,7,10,11,12] [M 42 9,M 43 2,I 44 (C ZG2 [(.s 42),(.s 43)]),M 41 44,X 45 41 0,X 46 41 1,X 47 41 2,M 11 45,M 12 46,M 10 47])
def ZaK:PC :=
 (R [6,7,8] [M 48 11,I 49 (.build [(.int .u64 0),(.int .i64 0),(.int .i64 0),(.int .i64 0),(.int .i64 0),(.str []),.nils] [(5,1,(.s 48))]),M 50 12,I 51 (.build [(.int .u64 0),(.int .i64 0),(.int .i64 0),(.int .i64 0),(.int .i64 0),(.str []),.nils] [(5,1,(.s 50))]),M 52 10,N 7 6 49,N 7 7 51,M 8 52])
def ZaL:PC :=
 (R [0,2,6,7,8,13] [M 54 0,T 55 7 4,I 56 (C Js [(.s 54),(.s 55)]),M 53 56,X 57 53 0,X 58 53 1,M 13 57,M 8 58])
def ZaM:PC :=
 (R [0,2,6,7,8,13,60] [M 59 8,W 60 .neq 59 0])
def ZaN:PC :=
 (R [6,7,8] [I 61 (.build [(.int .u64 0),(.int .i64 0),(.int .i64 0),(.int .i64 0),(.int .i64 0),(.str []),.nils] []),I 62 (.build [(.int .u64 0),(.int .i64 0),(.int .i64 0),(.int .i64 0),(.int .i64 0),(.str []),.nils] []),M 63 8,N 7 6 61,N 7 7 62,M 8 63])
def ZaO:PC :=
 (R [0,2,6,7,13,14] [K 14 0])
def ZaP:PC :=
 (R [0,2,6,7,13,14,77] [M 64 14,W 65 .add 64 1,M 66 13,I 67 (.len 1 (.s 66)),B 68 .lss 65 67,M 69 68,U 70 69 true 2,U 71 69 true 13,U 72 69 true 14,G 73 69 true (.ixS 7 (.s 71) (.s 72)),G 74 69 true (.ld true 7 (.s 73)),G 75 69 true (C Qq [(.s 74)]),G 76 69 true (.bin .geq (.s 70) (.s 75)),I 77 (.pick (.s 69) (.s 76) (.v (.bool false)))])
def ZaQ:PC :=
 (R [0,2,6,7,13,14] [M 78 2,M 79 13,M 80 14,I 81 (.ixS 7 (.s 79) (.s 80)),T 82 7 81,I 83 (C Qq [(.s 82)]),B 84 .sub 78 83,M 2 84])
def ZaR:PC :=
 (R [0,2,6,7,13,14] [M 85 14,W 86 .add 85 1,M 14 86])
def ZJI:PC :=
 (D (D ZaP
 (E 77
 .skip
 (.exit 0)))
 (.block 1
 (D ZaQ
 ZaR)))
def ZaS:PC :=
 (R [0,2,6,7,13,14,88] [M 87 2,W 88 .eql 87 0])
def ZaT:PC :=
 (R [6,7,8] [M 89 13,M 90 14,I 91 (.slc 7 (.s 89) none (some (.s 90))),I 92 (.call .pure (.v (.func (.func QN) [] [])) [(.s 91)]),M 93 13,M 94 14,I 95 (.slc 7 (.s 93) (some (.s 94)) none),I 96 (C QN [(.s 95)]),N 7 6 92,N 7 7 96,K 8 0])
def ZaU:PC :=
 (R [0,6,7,8,13,14,15,16] [M 98 0,M 99 13,M 100 14,I 101 (.ixS 7 (.s 99) (.s 100)),T 102 7 101,M 103 2,I 104 (C ZAR [(.s 98),(.s 102),(.s 103)]),M 97 104,X 105 97 0,X 106 97 1,X 107 97 2,I 15 (.box (.v ZT)),I 16 (.box (.v ZT)),N 7 15 105,N 7 16 106,M 8 107])
def ZaV:PC :=
 (R [0,6,7,8,13,14,15,16,109] [M 108 8,W 109 .neq 108 0])
def ZaW:PC :=
 (R [6,7,8] [I 110 (.build [(.int .u64 0),(.int .i64 0),(.int .i64 0),(.int .i64 0),(.int .i64 0),(.str []),.nils] []),I 111 (.build [(.int .u64 0),(.int .i64 0),(.int .i64 0),(.int .i64 0),(.int .i64 0),(.str []),.nils] []),M 112 8,N 7 6 110,N 7 7 111,M 8 112])
def ZaX:PC :=
 (R [0,6,7,8,13,14,16] [M 114 0,M 115 13,M 116 14,I 117 (.slc 7 (.s 115) none (some (.s 116))),I 118 (.call .pure (.v (.func (.func QN) [] [])) [(.s 117)]),T 119 7 15,I 120 (C YT [(.s 114),(.s 118),(.s 119)]),M 113 120,X 121 113 0,X 122 113 1,N 7 6 121,M 8 122])
def ZaY:PC :=
 (R [0,6,7,8,13,14,16,124] [M 123 8,W 124 .neq 123 0])
def ZaZ:PC :=
 (R [6,7,8] [I 125 (.build [(.int .u64 0),(.int .i64 0),(.int .i64 0),(.int .i64 0),(.int .i64 0),(.str []),.nils] []),I 126 (.build [(.int .u64 0),(.int .i64 0),(.int .i64 0),(.int .i64 0),(.int .i64 0),(.str []),.nils] []),M 127 8,N 7 6 125,N 7 7 126,M 8 127])
def Zaa:PC :=
 (R [6,7,8] [M 129 0,T 130 7 16,M 131 13,M 132 14,W 133 .add 132 1,I 134 (.slc 7 (.s 131) (some (.s 133)) none),I 135 (.call .pure (.v (.func (.func QN) [] [])) [(.s 134)]),I 136 (C YT [(.s 129),(.s 130),(.s 135)]),M 128 136,X 137 128 0,X 138 128 1,N 7 7 137,M 8 138])
def Zab:PC :=
 (R [6,7,8,140] [M 139 8,W 140 .neq 139 0])
def Zac:PC :=
 (R [6,7,8] [I 141 (.build [(.int .u64 0),(.int .i64 0),(.int .i64 0),(.int .i64 0),(.int .i64 0),(.str []),.nils] []),I 142 (.build [(.int .u64 0),(.int .i64 0),(.int .i64 0),(.int .i64 0),(.int .i64 0),(.str []),.nils] []),M 143 8,N 7 6 141,N 7 7 142,M 8 143])
def Zad:PC :=
 (R [6,7,8] [T 144 7 6,I 145 (.w (.hide [(.s 6)]) (.ld true 7 (.s 7))),J (.w (.plain (.s 6)) (.st 7 (.s 6) (.s 144))),N 7 7 145,K 8 0])
def ZWv:PF:=⟨false,
 (D ZdS
 (D (D ZdT
 (E 18
 (D ZdU
 .ret)
 .skip))
 (D (D ZdV
 (E 24
 (D ZdW
 .ret)
 .skip))
 (D (D ZdX
 (E 29
 (D ZdY
 (D (D ZdZ
 (E 37
 (D Zda
 .ret)
 .skip))
 (D Zdb
 (D ZaK
 .ret))))
 .skip))
 (D ZaL
 (D (D ZaM
 (E 60
 (D ZaN
 .ret)
 .skip))
 (D ZaO
 (D (.block 0
 (.loop ZJI))
 (D (D ZaS
 (E 88
 (D ZaT
 .ret)
 .skip))
 (D ZaU
 (D (D ZaV
 (E 109
 (D ZaW
 .ret)
 .skip))
 (D (D ZaX
 (D ZaY
 (E 124
 (D ZaZ
 .ret)
 .skip)))
 (D (D Zaa
 (D Zab
 (E 140
 (D Zac
 .ret)
 .skip)))
 (D Zad
 .ret)))))))))))))),
 [.c 6 true 7,.c 7 true 7,.s 8]⟩
theorem Zhc:Zr Proofs.Tryz.prog false Zhb Proofs.Tryz.f158=some ZWv:=by kernel_rfl
def Zhd:List Hint:=[H [1,2],H [1,2,9],H [1,2],H [2],H [1,2,3],H [1,2,3,17,18,19],H [1,2,3,17,18,19,20],H [1,2,3,4,5,17,18,19],H [1,2,3,17,18,19],H [1,2,3,17,18,19],H [1,2],H [2]]
def Zdc:PC :=
 (R [1,2] [I 1 (.box (.s 0)),I 2 (.box (.v ZT))])
def Zdd:PC :=
 (R [1,2,9] [F 6 6 1,L 7 6,I 8 (.len 1 (.s 7)),W 9 .eql 8 0])
def Zde:PC :=
 (R [1,2] [F 10 6 1,J (.st 1 (.s 10) (.v .nils))])
def Zdf:PC :=
 (R [2] [T 11 7 1,N 7 2 11])
def Zdg:PC :=
 (R [1,2,3] [F 12 6 1,L 13 12,I 14 (.len 1 (.s 13)),I 15 (.mkslice 7 80 ZT (.s 14) (.s 14)),M 3 15])
def Zdh:PC :=
 (R [1,2,3,17,18,19] [F 16 6 1,L 17 16,I 18 (.len 1 (.s 17)),K 19 0])
def Zdi:PC :=
 (R [1,2,3,17,18,19,20] [B 20 .lss 19 18])
def Zdj:PC :=
 (R [1,2,3,4,5,17,18,19] [M 21 19,I 22 (.ixS 7 (.s 17) (.s 19)),T 23 7 22,I 5 (.box (.v ZT)),M 4 21,N 7 5 23])
def Zdk:PC :=
 (R [1,2,3,17,18,19] [M 24 3,M 25 4,T 26 7 5,I 27 (C ZB5 [(.s 26)]),I 28 (.ixS 7 (.s 24) (.s 25)),N 7 28 27])
def Zdl:PC :=
 (R [1,2,3,17,18,19] [W 29 .add 19 1,M 19 29])
def Zae:PC :=
 (D Zdi
 (D (E 20
 .skip
 (.exit 0))
 (D (.block 1
 (D Zdj
 Zdk))
 Zdl)))
def Zaf:PC :=
 (R [1,2] [M 30 3,F 31 6 1,N 1 31 30])
def Zag:PC :=
 (R [2] [T 32 7 1,N 7 2 32])
def ZWw:PF:=⟨false,
 (D Zdc
 (D (D Zdd
 (E 9
 (D Zde
 (D Zdf
 .ret))
 .skip))
 (D Zdg
 (D (D Zdh
 (.block 0
 (.loop Zae)))
 (D Zaf
 (D Zag
 .ret)))))),
 [.c 2 true 7]⟩
theorem Zhe:Zr Proofs.Tryz.prog false Zhd Proofs.Tryz.f159=some ZWw:=by kernel_rfl
def ZGc:List Hint:=[H [0,1],⟨[0,1,5],[0],[],[],[],[]⟩,H [0,1,5,9],H [4],H [1,5,14,15,16],H [1,5,14,15,16,17],H [1,5,6,7,14,15,16],H [1,5,6,14,15,16,23],H [1,5,14,15,16],H [1,5,14,15,16],H [4]]
def ZDe:PC :=
 (R [0,1] [I 4 (.mv (.v .nils))])
def ZDf:PC :=
 (R [0,1,5] [I 5 (.onil 1)])
def ZDg:PC :=
 (R [0,1,5,9] [M 8 0,I 9 (.eqs false 3 [] (.s 8) (.v .nilptr))])
def ZDh:PC :=
 (R [4] [M 10 5,M 4 10])
def ZDi:PC :=
 (R [1,5,14,15,16] [M 11 0,I 12 (.nilck (.s 11)),F 13 1 12,L 14 13,I 15 (.len 1 (.s 14)),K 16 0])
def ZDj:PC :=
 (R [1,5,14,15,16,17] [B 17 .lss 16 15])
def ZDk:PC :=
 (R [1,5,6,7,14,15,16] [M 18 16,I 19 (.ixS 1 (.s 14) (.s 16)),L 20 19,M 6 18,M 7 20])
def ZDl:PC :=
 (R [1,5,6,14,15,16,23] [M 21 7,M 22 1,B 23 .eql 21 22])
def ZDm:PC :=
 (R [1,5,14,15,16] [M 24 5,M 25 6,I 26 (.bslice false 1 [(.int .i64 0)] [(0,(.s 25))]),I 27 (.app 1 8 (.s 24) (.s 26)),M 5 27])
def ZDn:PC :=
 (R [1,5,14,15,16] [W 28 .add 16 1,M 16 28])
def ZDC:PC :=
 (D ZDj
 (D (E 17
 .skip
 (.exit 0))
 (D (.block 1
 (D ZDk
 (D ZDl
 (E 23
 ZDm
 .skip))))
 ZDn)))
def ZDD:PC :=
 (R [4] [M 29 5,M 4 29])
def ZAF:PF:=⟨false,
 (D ZDe
 (D ZDf
 (D (D ZDg
 (E 9
 (D ZDh
 .ret)
 .skip))
 (D (D ZDi
 (.block 0
 (.loop ZDC)))
 (D ZDD
 .ret))))),
 [.s 4]⟩
theorem ZGd:Zr Proofs.Tryz.prog false ZGc Proofs.Tryz.f164=some ZAF:=by kernel_rfl
def Zfy:List Hint:=[H [0,2,3,4,6,10],H [0,3,4,6,10,12],H [0,3,4,10,12,13],H [0,3,4,10,12,13,14,15],H [0,3,4,10,12,13,14,15,31],H [10,11],H [0,3,4,10,12,14],H [0,3,4,10,12,14,42],H [10,12],H [10,11],H [0,3,4,10,12,14,15,16,17],H [0,3,4,10,12,14,15,16,17,57],H [10,11],H [0,3,4,10,12,14,16,17,63,64,65],H [0,3,4,10,12,14,16,17,63,64,65,66],H [0,3,4,10,12,14,16,17,19,63,64,65],H [0,3,4,10,12,14,16,17,63,64,65],H [0,3,4,10,12,14,16,17,63,64,65],⟨[0,3,4,10,12,13],[],[],[],[(6,(.hide [(.s 12)])),(8,(.plain (.s 12))),(4,(.hide [(.s 12)])),(2,(.hide [(.s 12)]))],[]⟩]
def Zah:PC :=
 (R [0,2,3,4,6,10] [I 6 (.box (.s 1)),I 10 (.box (.v (.agg [(.str []),(.int .i64 0),.nils]))),K 11 0])
def Zai:PC :=
 (R [0,3,4,6,10,12] [M 20 2,I 21 (.build [(.str []),(.int .i64 0),.nils] [(1,1,(.s 20))]),I 12 (.box (.v (.agg [(.str []),(.int .i64 0),.nils]))),N 3 12 21])
def Zaj:PC :=
 (R [0,3,4,10,12,13] [F 22 0 6,L 23 22,M 13 23])
def Zak:PC :=
 (R [0,3,4,10,12,13,14,15] [M 25 0,M 26 13,I 27 (C QX [(.s 25),(.s 26)]),M 24 27,X 28 24 0,X 29 24 1,I 14 (.box (.v ZN)),N 3 14 28,M 15 29])
def Zal:PC :=
 (R [0,3,4,10,12,13,14,15,31] [M 30 15,W 31 .neq 30 0])
def Zam:PC :=
 (R [10,11] [I 32 (.build [(.str []),(.int .i64 0),.nils] []),M 33 15,N 3 10 32,M 11 33])
def ZJJ:PC :=
 (R [0,3,4,10,12,14] [F 34 2 12,L 35 34,M 36 13,I 37 (.bslice false 1 [(.int .u64 0)] [(0,(.s 36))]),I 38 (.app 1 8 (.s 35) (.s 37)),F 39 2 12,N 1 39 38])
def Zan:PC :=
 (R [0,3,4,10,12,14,42] [F 40 0 14,L 41 40,W 42 .eql 41 0])
def Zao:PC :=
 (R [10,12] [F 43 1 14,L 44 43,F 45 0 12,N 1 45 44])
def Zap:PC :=
 (R [10,11] [T 46 3 12,N 3 10 46,K 11 0])
def ZWx:PC :=
 (R [0,3,4,10,12,14,15,16,17] [M 48 3,T 49 3 14,F 50 1 12,L 51 50,I 52 (.call .norm (.s 48) [(.s 49),(.s 51)]),M 47 52,X 53 47 0,X 54 47 1,X 55 47 2,M 16 53,M 17 54,M 15 55])
def ZWy:PC :=
 (R [0,3,4,10,12,14,15,16,17,57] [M 56 15,W 57 .neq 56 0])
def ZWz:PC :=
 (R [10,11] [I 58 (.build [(.str []),(.int .i64 0),.nils] []),M 59 15,N 3 10 58,M 11 59])
def ZW0:PC :=
 (R [0,3,4,10,12,14,16,17,63,64,65] [F 60 2 14,L 61 60,M 62 16,I 63 (.slc 4 (.s 61) none (some (.s 62))),I 64 (.len 1 (.s 63)),K 65 0])
def ZW1:PC :=
 (R [0,3,4,10,12,14,16,17,63,64,65,66] [B 66 .lss 65 64])
def ZW2:PC :=
 (R [0,3,4,10,12,14,16,17,19,63,64,65] [I 67 (.ixS 4 (.s 63) (.s 65)),T 68 4 67,I 19 (.box (.v ZK)),N 4 19 68])
def ZW3:PC :=
 (R [0,3,4,10,12,14,16,17,63,64,65] [M 69 4,F 70 1 19,T 71 3 70,I 72 (.call .norm (.s 69) [(.s 71)])])
def ZW4:PC :=
 (R [0,3,4,10,12,14,16,17,63,64,65] [W 73 .add 65 1,M 65 73])
def p_seek_walk_18:PC :=
 (D ZW1
 (D (E 66
 .skip
 (.exit 2))
 (D (.block 3
 (D ZW2
 ZW3))
 ZW4)))
def ZW5:PC :=
 (R [0,3,4,10,12,13] [M 74 17,F 75 2 14,I 76 (.w (.hide [(.s 12)]) (.ld false 1 (.s 75))),M 77 16,I 78 (.w (.hide [(.s 12)]) (.ixS 4 (.s 76) (.s 77))),F 79 0 78,I 80 (.w (.hide [(.s 12)]) (.ld false 1 (.s 79))),F 81 1 12,J (.w (.plain (.s 12)) (.st 1 (.s 81) (.s 74))),M 13 80])
def ZW6:PC :=
 (.block 1
 (D Zak
 (D (D Zal
 (E 31
 (D Zam
 .ret)
 .skip))
 (D ZJJ
 (D (D Zan
 (E 42
 (D Zao
 (D Zap
 .ret))
 .skip))
 (D ZWx
 (D (D ZWy
 (E 57
 (D ZWz
 .ret)
 .skip))
 (D (D ZW0
 (.block 2
 (.loop p_seek_walk_18)))
 ZW5))))))))
def ZQt:PF:=⟨false,
 (D Zah
 (D Zai
 (D Zaj
 (.block 0
 (.loop ZW6))))),
 [.c 10 true 3,.s 11]⟩
theorem Zfz:Zr Proofs.Tryz.prog false Zfy Proofs.Tryz.f181=some ZQt:=by kernel_rfl
def Zdm:List Hint:=[H [1,2],H [4,5,6]]
def ZW7:PC :=
 (R [1,2] [I 2 (.box (.s 0)),K 4 0,K 5 0,K 6 0])
def ZW8:PC :=
 (R [4,5,6] [T 7 3 2,M 8 1,I 9 (C ZC4 [(.s 7),(.s 8),(.v (.func (.func ZB7) [] []))]),X 10 9 0,X 11 9 1,X 12 9 2,M 4 10,M 5 11,M 6 12])
def ZMu:PF:=⟨false,
 (D ZW7
 (D ZW8
 .ret)),
 [.s 4,.s 5,.s 6]⟩
theorem Zdn:Zr Proofs.Tryz.prog false Zdm Proofs.Tryz.f182=some ZMu:=by kernel_rfl
def ZSP:List Hint:=[H [1,2,3],⟨[],[],[(3,.pure)],[],[],[]⟩]
def ZMv:PC :=
 (R [1,2,3] [I 3 (.box (.s 0))])
def ZMw:PC :=
 (R [] [L 4 1,L 5 2,T 6 3 3,I 7 (.call .pure (.s 5) [(.s 6)]),B 8 .add 4 7,N 1 1 8])
def ZFe:PF:=⟨false,
 (D ZMv
 ZMw),
 []⟩
theorem ZSQ:Zr Proofs.Tryz.prog false ZSP Proofs.Tryz.f183=some ZFe:=by kernel_rfl
def ZO6:List Hint:=[H [0,1,2],H [0,1,2,15],H [6,7],H [6,7]]
def ZKU:PC :=
 (R [0,1,2] [K 6 0,K 7 0])
def ZKV:PC :=
 (R [0,1,2,15] [M 8 1,W 9 .lss 8 0,M 10 9,U 11 10 false 1,U 12 10 false 0,G 13 10 false (.len 0 (.s 12)),G 14 10 false (.bin .gtr (.s 11) (.s 13)),I 15 (.pick (.s 10) (.v (.bool true)) (.s 14))])
def ZKW:PC :=
 (R [6,7] [K 6 0,K 7 3])
def ZKX:PC :=
 (R [6,7] [M 16 0,M 17 1,I 18 (.slcS (.s 16) none (some (.s 17))),M 19 2,I 20 (C XS [(.s 18),(.s 19)]),M 6 20,K 7 0])
def ZDo:PF:=⟨false,
 (D ZKU
 (D (D ZKV
 (E 15
 (D ZKW
 .ret)
 .skip))
 (D ZKX
 .ret))),
 [.s 6,.s 7]⟩
theorem ZO7:Zr Proofs.Tryz.prog false ZO6 Proofs.Tryz.f184=some ZDo:=by kernel_rfl
def ZSR:List Hint:=[H [0],H [2]]
def ZMx:PC :=
 (R [0] [I 2 (.mv (.v (.bool false)))])
def ZMy:PC :=
 (R [2] [M 3 0,I 4 (.bin .eql (.s 3) (.v (.int .u8 10))),M 2 4])
def ZFf:PF:=⟨false,
 (D ZMx
 (D ZMy
 .ret)),
 [.s 2]⟩
theorem ZSS:Zr Proofs.Tryz.prog false ZSR Proofs.Tryz.f185=some ZFf:=by kernel_rfl
def ZW9:List Hint:=[H [1,2],H [1,2,4],H [1,2,4,8],H [2,3],H [2,3]]
def ZO8:PC :=
 (R [1,2] [I 1 (.box (.s 0)),I 2 (.box (.v ZM)),K 3 0])
def ZO9:PC :=
 (R [1,2,4] [T 5 3 1,I 6 (C Xs [(.s 5)]),M 4 6])
def ZPA:PC :=
 (R [1,2,4,8] [M 7 4,W 8 .neq 7 0])
def ZPB:PC :=
 (R [2,3] [I 9 (.build [(.int .i64 0),(.int .i64 0),(.int .i64 0)] []),M 10 4,N 3 2 9,M 3 10])
def ZPC:PC :=
 (R [2,3] [T 11 3 1,I 12 (C ZB8 [(.s 11)]),N 3 2 12,K 3 0])
def ZHt:PF:=⟨false,
 (D ZO8
 (D (D ZO9
 (D ZPA
 (E 8
 (D ZPB
 .ret)
 .skip)))
 (D ZPC
 .ret))),
 [.c 2 true 3,.s 3]⟩
theorem ZXA:Zr Proofs.Tryz.prog false ZW9 Proofs.Tryz.f186=some ZHt:=by kernel_rfl
def Zaq:List Hint:=[H [1,2,3],H [1,2,3,9],H [1,2,3,9,15],H [6,7,8],H [1,2,3,19],H [6,7,8],H [1,2,3,21],H [6,7,8],H [1,2,23,24,25],H [1,2,23,24,25,26],H [1,2,10,11,23,24,25],H [1,2,10,11,23,24,25,35],H [6,7,8],H [1,2,23,24,25],H [1,2,23,24,25],H [6,7,8]]
def ZST:PC :=
 (R [1,2,3] [I 3 (.box (.s 0)),K 6 0,K 7 0,K 8 0])
def ZSU:PC :=
 (R [1,2,3,9] [T 12 3 3,I 13 (C Xs [(.s 12)]),M 9 13])
def ZSV:PC :=
 (R [1,2,3,9,15] [M 14 9,W 15 .neq 14 0])
def ZSW:PC :=
 (R [6,7,8] [M 16 9,K 6 0,K 7 0,M 8 16])
def ZSX:PC :=
 (R [1,2,3,19] [F 17 0 3,L 18 17,W 19 .eql 18 0])
def ZSY:PC :=
 (R [6,7,8] [K 6 0,K 7 0,K 8 8])
def ZSZ:PC :=
 (R [1,2,3,21] [M 20 1,W 21 .lss 20 0])
def ZSa:PC :=
 (R [6,7,8] [K 6 0,K 7 0,K 8 3])
def ZSb:PC :=
 (R [1,2,23,24,25] [F 22 2 3,L 23 22,I 24 (.len 1 (.s 23)),K 25 0])
def ZSc:PC :=
 (R [1,2,23,24,25,26] [B 26 .lss 25 24])
def ZPD:PC :=
 (R [1,2,10,11,23,24,25] [M 27 25,I 28 (.ixS 4 (.s 23) (.s 25)),T 29 4 28,I 11 (.box (.v ZK)),M 10 27,N 4 11 29])
def ZPE:PC :=
 (R [1,2,10,11,23,24,25,35] [M 30 1,M 31 2,F 32 1 11,T 33 3 32,I 34 (.call .norm (.s 31) [(.s 33)]),B 35 .lss 30 34])
def ZPF:PC :=
 (R [6,7,8] [M 36 10,M 37 1,M 6 36,M 7 37,K 8 0])
def ZPG:PC :=
 (R [1,2,23,24,25] [M 38 1,M 39 2,F 40 1 11,T 41 3 40,I 42 (.call .norm (.s 39) [(.s 41)]),B 43 .sub 38 42,M 1 43])
def ZPH:PC :=
 (R [1,2,23,24,25] [W 44 .add 25 1,M 25 44])
def ZPI:PC :=
 (D ZSc
 (D (E 26
 .skip
 (.exit 0))
 (D (.block 1
 (D ZPD
 (D (D ZPE
 (E 35
 (D ZPF
 .ret)
 .skip))
 ZPG)))
 ZPH)))
def ZPJ:PC :=
 (R [6,7,8] [K 6 0,K 7 0,K 8 3])
def ZJK:PF:=⟨false,
 (D ZST
 (D (D ZSU
 (D ZSV
 (E 15
 (D ZSW
 .ret)
 .skip)))
 (D (D ZSX
 (E 19
 (D ZSY
 .ret)
 .skip))
 (D (D ZSZ
 (E 21
 (D ZSa
 .ret)
 .skip))
 (D (D ZSb
 (.block 0
 (.loop ZPI)))
 (D ZPJ
 .ret)))))),
 [.s 6,.s 7,.s 8]⟩
theorem Zar:Zr Proofs.Tryz.prog false Zaq Proofs.Tryz.f188=some ZJK:=by kernel_rfl
def ZXB:List Hint:=[H [0],⟨[0,3],[0],[],[],[],[]⟩,H [0,3,8,9,10],H [0,3,8,9,10,11],H [0,3,5,8,9,10],H [0,3,5,8,9,10],H [0,3,8,9,10],H [0,3,8,9,10],H [2]]
def ZPK:PC :=
 (R [0] [I 2 (.mv (.v .nils))])
def ZPL:PC :=
 (R [0,3] [I 3 (.onil 1)])
def ZPM:PC :=
 (R [0,3,8,9,10] [M 6 0,I 7 (.len 0 (.s 6)),I 8 (C ZAd [(.s 7),(V 16)]),I 9 (.len 1 (.s 8)),K 10 0])
def ZPN:PC :=
 (R [0,3,8,9,10,11] [B 11 .lss 10 9])
def ZPO:PC :=
 (R [0,3,5,8,9,10] [I 12 (.ixS 1 (.s 8) (.s 10)),L 13 12,M 5 13])
def ZPP:PC :=
 (R [0,3,5,8,9,10] [M 14 3,M 15 0,M 16 5,I 17 (.slcS (.s 15) none (some (.s 16))),I 18 (.bslice false 1 [(.str [])] [(0,(.s 17))]),I 19 (.app 1 16 (.s 14) (.s 18)),M 3 19])
def ZPQ:PC :=
 (R [0,3,8,9,10] [M 20 0,M 21 5,I 22 (.slcS (.s 20) (some (.s 21)) none),M 0 22])
def ZPR:PC :=
 (R [0,3,8,9,10] [W 23 .add 10 1,M 10 23])
def ZPS:PC :=
 (D ZPN
 (D (E 11
 .skip
 (.exit 0))
 (D (.block 1
 (D ZPO
 (D ZPP
 ZPQ)))
 ZPR)))
def ZPT:PC :=
 (R [2] [M 24 3,M 2 24])
def ZHu:PF:=⟨false,
 (D ZPK
 (D ZPL
 (D (D ZPM
 (.block 0
 (.loop ZPS)))
 (D ZPT
 .ret)))),
 [.s 2]⟩
theorem ZXC:Zr Proofs.Tryz.prog false ZXB Proofs.Tryz.f197=some ZHu:=by kernel_rfl
def Zdo:List Hint:=[H [0,1],H [0,1,11],H [4,5],H [0,1,13],H [4,5],H [4,5]]
def ZXD:PC :=
 (R [0,1] [I 4 (.mv (.v .nils)),K 5 0])
def ZXE:PC :=
 (R [0,1,11] [M 6 0,W 7 .lss 6 0,M 8 7,U 9 8 false 1,G 10 8 false (.bin .lss (.s 9) (V 1)),I 11 (.pick (.s 8) (.v (.bool true)) (.s 10))])
def ZXF:PC :=
 (R [4,5] [I 4 (.mv (.v .nils)),K 5 2])
def ZXG:PC :=
 (R [0,1,13] [M 12 0,W 13 .gtr 12 65536])
def ZXH:PC :=
 (R [4,5] [I 4 (.mv (.v .nils)),K 5 5])
def ZXI:PC :=
 (R [4,5] [M 14 0,M 15 1,I 16 (C ZAd [(.s 14),(.s 15)]),M 4 16,K 5 0])
def ZMz:PF:=⟨false,
 (D ZXD
 (D (D ZXE
 (E 11
 (D ZXF
 .ret)
 .skip))
 (D (D ZXG
 (E 13
 (D ZXH
 .ret)
 .skip))
 (D ZXI
 .ret)))),
 [.s 4,.s 5]⟩
theorem Zdp:Zr Proofs.Tryz.prog false Zdo Proofs.Tryz.f198=some ZMz:=by kernel_rfl
def Zdq:List Hint:=[H [0,2],H [0,2,3],H [2],H [0,2,8],H [2],⟨[2],[],[],[],[(7,.app0),(5,.imm)],[]⟩]
def ZXJ:PC :=
 (R [0,2] [I 2 (.box (.v ZT))])
def ZXK:PC :=
 (R [0,2,3] [M 4 0,I 5 (.len 1 (.s 4)),W 6 .eql 5 0,M 3 6])
def ZXL:PC :=
 (R [2] [I 7 (.build [(.int .u64 0),(.int .i64 0),(.int .i64 0),(.int .i64 0),(.int .i64 0),(.str []),.nils] []),N 7 2 7])
def ZXM:PC :=
 (R [0,2,8] [M 9 0,I 10 (.len 1 (.s 9)),W 11 .eql 10 1,M 8 11])
def ZXN:PC :=
 (R [2] [M 12 0,I 13 (.ixS 7 (.s 12) (V 0)),T 14 7 13,N 7 2 14])
def ZXO:PC :=
 (R [2] [M 15 0,I 16 (.ixS 7 (.s 15) (V 0)),F 17 1 16,L 18 17,W 19 .add 18 1,I 20 (.w .imm (.bslice false 7 [] [])),M 21 0,I 22 (.w .app0 (.app 7 80 (.s 20) (.s 21))),I 23 (.build [(.int .u64 0),(.int .i64 0),(.int .i64 0),(.int .i64 0),(.int .i64 0),(.str []),.nils] [(1,1,(.s 19)),(6,1,(.s 22))]),N 7 2 23])
def ZM0:PF:=⟨false,
 (D ZXJ
 (D (.block 0
 (D ZXK
 (E 3
 (D ZXL
 .ret)
 (D ZXM
 (E 8
 (D ZXN
 .ret)
 .skip)))))
 (D ZXO
 .ret))),
 [.c 2 true 7]⟩
theorem Zdr:Zr Proofs.Tryz.prog false Zdq Proofs.Tryz.f199=some ZM0:=by kernel_rfl
def Zas:List Hint:=[H [0,1],H [0,1,19],H [4,5],H [4,5]]
def ZSd:PC :=
 (R [0,1] [I 4 (.mv (.v (.int .u64 0))),K 5 0])
def ZSe:PC :=
 (R [0,1,19] [M 6 0,W 7 .lss 6 0,M 8 7,U 9 8 false 0,G 10 8 false (.bin .geq (.s 9) (V 16384)),I 11 (.pick (.s 8) (.v (.bool true)) (.s 10)),M 12 11,U 13 12 false 1,G 14 12 false (.bin .lss (.s 13) (.v (.int .u64 1))),I 15 (.pick (.s 12) (.v (.bool true)) (.s 14)),M 16 15,U 17 16 false 1,G 18 16 false (.bin .gtr (.s 17) (.v (.int .u64 4294967295))),I 19 (.pick (.s 16) (.v (.bool true)) (.s 18))])
def ZSf:PC :=
 (R [4,5] [I 4 (.mv (.v (.int .u64 0))),K 5 3])
def ZSg:PC :=
 (R [4,5] [M 20 1,I 21 (.bin .shl (.s 20) (.v (.int .u64 16))),M 22 0,I 23 (.cint .u64 (.s 22)),B 24 .or 21 23,M 4 24,K 5 0])
def ZJL:PF:=⟨false,
 (D ZSd
 (D (D ZSe
 (E 19
 (D ZSf
 .ret)
 .skip))
 (D ZSg
 .ret))),
 [.s 4,.s 5]⟩
theorem Zat:Zr Proofs.Tryz.prog false Zas Proofs.Tryz.f201=some ZJL:=by kernel_rfl
def Zau:List Hint:=[H [0,4,5,6],H [0,4,5,6,12],H [6,7],H [0,4,5,6,16],H [6,7],H [6,8,9],H [6,8,9,26],H [6,7],H [6,7]]
def ZSh:PC :=
 (R [0,4,5,6] [I 4 (.box (.s 1)),I 5 (.box (.s 2)),I 6 (.box (.v ZT)),K 7 0])
def ZSi:PC :=
 (R [0,4,5,6,12] [T 10 7 4,I 11 (C Qj [(.s 10)]),W 12 .eql 11 1])
def ZSj:PC :=
 (R [6,7] [T 13 7 5,N 7 6 13,K 7 0])
def ZSk:PC :=
 (R [0,4,5,6,16] [T 14 7 5,I 15 (C Qj [(.s 14)]),W 16 .eql 15 1])
def ZSl:PC :=
 (R [6,7] [T 17 7 4,N 7 6 17,K 7 0])
def ZSm:PC :=
 (R [6,8,9] [M 19 0,T 20 7 4,T 21 7 5,I 22 (C Xt [(.s 19),(.s 20),(.s 21)]),M 18 22,X 23 18 0,X 24 18 1,M 8 23,M 9 24])
def ZSn:PC :=
 (R [6,8,9,26] [M 25 9,W 26 .neq 25 0])
def ZSo:PC :=
 (R [6,7] [I 27 (.build [(.int .u64 0),(.int .i64 0),(.int .i64 0),(.int .i64 0),(.int .i64 0),(.str []),.nils] []),M 28 9,N 7 6 27,M 7 28])
def ZSp:PC :=
 (R [6,7] [M 29 8,I 30 (C QN [(.s 29)]),N 7 6 30,K 7 0])
def ZJM:PF:=⟨false,
 (D ZSh
 (D (D ZSi
 (E 12
 (D ZSj
 .ret)
 .skip))
 (D (D ZSk
 (E 16
 (D ZSl
 .ret)
 .skip))
 (D ZSm
 (D (D ZSn
 (E 26
 (D ZSo
 .ret)
 .skip))
 (D ZSp
 .ret)))))),
 [.c 6 true 7,.s 7]⟩
theorem Zav:Zr Proofs.Tryz.prog false Zau Proofs.Tryz.f203=some ZJM:=by kernel_rfl
def Zds:List Hint:=[H [0,2,3,5],H [0,2,3,5,9],H [0,2,5,9,30],H [8],H [0,2,5,32],H [0,2,5,10],H [0,2,5,10,42],H [8],H [0,5,54],H [8],H [0,5,56,57,58],H [0,5,56,57,58,59],H [0,5,12,56,57,58],H [0,5,13,56,57,58],H [0,5,13,56,57,58,69],H [8],H [0,5,56,57,58],H [8]]
def ZXP:PC :=
 (R [0,2,3,5] [I 5 (.box (.s 1)),K 8 0])
def ZXQ:PC :=
 (R [0,2,3,5,9] [T 14 7 5,I 15 (C Qj [(.s 14)]),M 9 15])
def ZXR:PC :=
 (R [0,2,5,9,30] [M 16 9,W 17 .eql 16 0,M 18 17,U 19 18 false 9,G 20 18 false (.bin .eql (.s 19) (V 1)),I 21 (.pick (.s 18) (.v (.bool true)) (.s 20)),M 22 21,U 23 22 false 2,U 24 22 false 23,G 25 24 true (.fadr 1 (.s 5)),G 26 24 true (.ld false 1 (.s 25)),U 27 24 true 3,G 28 24 true (.bin .neq (.s 26) (.s 27)),G 29 22 false (.pick (.s 24) (.s 28) (.v (.bool false))),I 30 (.pick (.s 22) (.v (.bool true)) (.s 29))])
def ZXS:PC :=
 (R [8] [K 8 23])
def ZXT:PC :=
 (R [0,2,5,32] [M 31 9,W 32 .eql 31 2])
def ZXU:PC :=
 (R [0,2,5,10] [M 33 0,F 34 0 5,L 35 34,F 36 1 5,L 37 36,F 38 2 5,T 39 3 38,I 40 (C ZCn [(.s 33),(.s 35),(.s 37),(.s 39)]),M 10 40])
def ZXV:PC :=
 (R [0,2,5,10,42] [M 41 10,W 42 .neq 41 0])
def ZXW:PC :=
 (R [8] [M 43 10,M 8 43])
def ZXX:PC :=
 (R [0,5,54] [M 44 2,M 45 44,G 46 45 true (.fadr 1 (.s 5)),G 47 45 true (.ld false 1 (.s 46)),G 48 45 true (.bin .eql (.s 47) (V 0)),I 49 (.pick (.s 45) (.s 48) (.v (.bool false))),M 50 49,G 51 50 true (.ld true 7 (.s 5)),G 52 50 true (C Qq [(.s 51)]),G 53 50 true (.bin .lss (.s 52) (V 8)),I 54 (.pick (.s 50) (.s 53) (.v (.bool false)))])
def ZXY:PC :=
 (R [8] [K 8 23])
def ZSq:PC :=
 (R [0,5,56,57,58] [F 55 6 5,L 56 55,I 57 (.len 1 (.s 56)),K 58 0])
def ZSr:PC :=
 (R [0,5,56,57,58,59] [B 59 .lss 58 57])
def ZSs:PC :=
 (R [0,5,12,56,57,58] [I 60 (.ixS 7 (.s 56) (.s 58)),T 61 7 60,I 12 (.box (.v ZT)),N 7 12 61])
def ZSt:PC :=
 (R [0,5,13,56,57,58] [M 62 0,T 63 7 12,F 64 1 5,L 65 64,W 66 .sub 65 1,I 67 (C ZBK [(.s 62),(.s 63),(.v (.bool true)),(.s 66)]),M 13 67])
def ZSu:PC :=
 (R [0,5,13,56,57,58,69] [M 68 13,W 69 .neq 68 0])
def ZSv:PC :=
 (R [8] [M 70 13,M 8 70])
def ZSw:PC :=
 (R [0,5,56,57,58] [W 71 .add 58 1,M 58 71])
def ZFg:PC :=
 (D ZSr
 (D (E 59
 .skip
 (.exit 0))
 (D (.block 1
 (D ZSs
 (D ZSt
 (D ZSu
 (E 69
 (D ZSv
 .ret)
 .skip)))))
 ZSw)))
def ZSx:PC :=
 (R [8] [K 8 0])
def ZM1:PF:=⟨false,
 (D ZXP
 (D ZXQ
 (D (D ZXR
 (E 30
 (D ZXS
 .ret)
 .skip))
 (D (D ZXT
 (E 32
 (D ZXU
 (D ZXV
 (E 42
 (D ZXW
 .ret)
 .skip)))
 .skip))
 (D (D ZXX
 (E 54
 (D ZXY
 .ret)
 .skip))
 (D (D ZSq
 (.block 0
 (.loop ZFg)))
 (D ZSx
 .ret))))))),
 [.s 8]⟩
theorem Zdt:Zr Proofs.Tryz.prog false Zds Proofs.Tryz.f204=some ZM1:=by kernel_rfl
def Zhf:List Hint:=[H [1],H [1,3],H [1,3,4],H [1,3,14],H [1,3],H [3,16,17,18],H [3,16,17,18,19],H [3,6,16,17,18],H [3,16,17,18],H [3,16,17,18],H [2]]
def Zdu:PC :=
 (R [1] [I 1 (.box (.s 0)),K 2 0])
def Zdv:PC :=
 (R [1,3] [K 3 0])
def Zdw:PC :=
 (R [1,3,4] [T 7 7 1,I 8 (C Qj [(.s 7)]),M 4 8])
def Zdx:PC :=
 (R [1,3,14] [M 9 4,W 10 .eql 9 3,M 11 10,U 12 11 false 4,G 13 11 false (.bin .eql (.s 12) (V 4)),I 14 (.pick (.s 11) (.v (.bool true)) (.s 13))])
def Zdy:PC :=
 (R [1,3] [K 3 1])
def Zdz:PC :=
 (R [3,16,17,18] [F 15 6 1,L 16 15,I 17 (.len 1 (.s 16)),K 18 0])
def Zd0:PC :=
 (R [3,16,17,18,19] [B 19 .lss 18 17])
def Zd1:PC :=
 (R [3,6,16,17,18] [I 20 (.ixS 7 (.s 16) (.s 18)),T 21 7 20,I 6 (.box (.v ZT)),N 7 6 21])
def Zd2:PC :=
 (R [3,16,17,18] [M 22 3,T 23 7 6,I 24 (C ZAS [(.s 23)]),B 25 .add 22 24,M 3 25])
def Zd3:PC :=
 (R [3,16,17,18] [W 26 .add 18 1,M 18 26])
def Zaw:PC :=
 (D Zd0
 (D (E 19
 .skip
 (.exit 0))
 (D (.block 1
 (D Zd1
 Zd2))
 Zd3)))
def Zax:PC :=
 (R [2] [M 27 3,M 2 27])
def ZXZ:PF:=⟨false,
 (D Zdu
 (D Zdv
 (D (D Zdw
 (D Zdx
 (E 14
 Zdy
 .skip)))
 (D (D Zdz
 (.block 0
 (.loop Zaw)))
 (D Zax
 .ret))))),
 [.s 2]⟩
theorem Zhg:Zr Proofs.Tryz.prog false Zhf Proofs.Tryz.f205=some ZXZ:=by kernel_rfl
def ZXa:List Hint:=[H [0,3],H [0,3,5],H [0,3,5,80],H [0,3,5,95],H [0,5,6],H [0,5,6],H [5],⟨[0,3,5,7],[0],[],[],[],[]⟩,H [0,3,5,7,20,21,22],H [0,3,5,7,20,21,22,23],H [0,3,5,7,9,20,21,22],H [0,3,5,7,10,20,21,22],⟨[0,3,5,7,10,20,21,22],[2],[],[],[],[]⟩,H [0,3,5,7,10,20,21,22],H [0,3,5,7,10,20,21,22],H [0,3,5,7,20,21,22],H [0,3,5,7,20,21,22],H [5],H [4]]
def ZPU:PC :=
 (R [0,3] [I 3 (.box (.s 1)),I 4 (.mv (.v .nilptr))])
def ZPV:PC :=
 (R [0,3,5] [F 11 1 3,L 12 11,F 13 2 3,T 14 3 13,F 15 0 3,L 16 15,I 17 (.build [(.int .u64 0),(.int .i64 0),(.int .i64 0),(.int .i64 0),(.int .i64 0)] [(1,1,(.s 12)),(2,3,(.s 14)),(0,1,(.s 16))]),I 18 (.box (.s 17)),M 5 18])
def ZPW:PC :=
 (R [0,3,5,80] [F 81 0 3,L 82 81,I 83 (.bin .neq (.s 82) (.v (.int .u64 0))),M 84 83,G 85 84 false (.fadr 5 (.s 3)),G 86 84 false (.ld false 1 (.s 85)),G 87 84 false (.bin .eql (.s 86) (.v (.str []))),U 88 84 false 87,G 89 88 true (.fadr 6 (.s 3)),G 90 88 true (.ld false 1 (.s 89)),G 91 88 true (.len 1 (.s 90)),G 92 88 true (.bin .eql (.s 91) (V 0)),G 93 84 false (.pick (.s 88) (.s 92) (.v (.bool false))),I 94 (.pick (.s 84) (.v (.bool true)) (.s 93)),M 80 94])
def ZPX:PC :=
 (R [0,3,5,95] [F 96 1 3,L 97 96,W 98 .eql 97 0,M 95 98])
def ZPY:PC :=
 (R [0,5,6] [F 99 5 3,L 100 99,I 101 (.build [(.int .i64 0),(.str []),.nils] [(1,1,(.s 100))]),I 6 (.box (.v ZN)),N 3 6 101])
def ZPZ:PC :=
 (R [0,5,6] [M 103 5,T 104 3 6,I 105 (C J9 [(.s 104)]),M 102 105,X 106 102 0,X 107 102 1,I 108 (.nilck (.s 103)),F 109 2 108,N 3 109 106])
def ZPa:PC :=
 (R [5] [M 110 0,M 111 5,I 112 (.mkf (.func Jj) [] [(.s 6)]),I 113 (C Xu [(.s 110),(.s 111),(.s 112)])])
def ZPb:PC :=
 (R [0,3,5,7] [I 7 (.boxnil 1)])
def ZPc:PC :=
 (R [0,3,5,7,20,21,22] [F 19 6 3,L 20 19,I 21 (.len 1 (.s 20)),K 22 0])
def ZPd:PC :=
 (R [0,3,5,7,20,21,22,23] [B 23 .lss 22 21])
def ZM2:PC :=
 (R [0,3,5,7,9,20,21,22] [I 24 (.ixS 7 (.s 20) (.s 22)),T 25 7 24,I 9 (.box (.v ZT)),N 7 9 25])
def ZM3:PC :=
 (R [0,3,5,7,10,20,21,22] [M 26 0,T 27 7 9,I 28 (C Qm [(.s 26),(.s 27)]),M 10 28])
def ZM4:PC :=
 (R [0,3,5,7,10,20,21,22] [L 29 7,M 30 10,I 31 (.bslice true 1 [.nilptr] [(0,(.s 30))]),I 32 (.app 1 8 (.s 29) (.s 31)),N 1 7 32])
def ZCs:PC :=
 (R [0,3,5,7,10,20,21,22] [M 33 5,I 34 (.nilck (.s 33)),F 35 2 34,F 36 0 35,L 37 36,M 38 10,I 39 (.nilck (.s 38)),F 40 2 39,F 41 0 40,L 42 41,B 43 .add 37 42,I 44 (.nilck (.s 33)),F 45 2 44,F 46 0 45,N 1 46 43])
def ZCt:PC :=
 (R [0,3,5,7,10,20,21,22] [M 47 5,I 48 (.nilck (.s 47)),F 49 2 48,F 50 1 49,L 51 50,M 52 10,I 53 (.nilck (.s 52)),F 54 2 53,F 55 1 54,L 56 55,B 57 .add 51 56,I 58 (.nilck (.s 47)),F 59 2 58,F 60 1 59,N 1 60 57])
def ZCu:PC :=
 (R [0,3,5,7,20,21,22] [M 61 5,I 62 (.nilck (.s 61)),F 63 2 62,F 64 2 63,L 65 64,M 66 10,I 67 (.nilck (.s 66)),F 68 2 67,F 69 2 68,L 70 69,B 71 .add 65 70,I 72 (.nilck (.s 61)),F 73 2 72,F 74 2 73,N 1 74 71])
def ZM5:PC :=
 (R [0,3,5,7,20,21,22] [W 75 .add 22 1,M 22 75])
def ZM6:PC :=
 (D ZPd
 (D (E 23
 .skip
 (.exit 1))
 (D (.block 2
 (D ZM2
 (D ZM3
 (D ZM4
 (D ZCs
 (D ZCt
 ZCu))))))
 ZM5)))
def ZM7:PC :=
 (R [5] [M 76 0,M 77 5,I 78 (.mkf (.func JN) [] [(.s 3),(.s 7)]),I 79 (C Xu [(.s 76),(.s 77),(.s 78)])])
def ZM8:PC :=
 (R [4] [M 114 5,M 4 114])
def ZHv:PF:=⟨true,
 (D ZPU
 (D ZPV
 (D (.block 0
 (D ZPW
 (E 80
 .skip
 (D ZPX
 (E 95
 (D ZPY
 (D ZPZ
 ZPa))
 (D ZPb
 (D (D ZPc
 (.block 1
 (.loop ZM6)))
 ZM7)))))))
 (D ZM8
 .ret)))),
 [.s 4]⟩
theorem ZXb:Zr Proofs.Tryz.prog true ZXa Proofs.Tryz.f206=some ZHv:=by kernel_rfl
def Zay:List Hint:=[H []]
def ZSy:PC :=
 (R [] [I 1 (.box (.s 0))])
def ZJN:PF:=⟨false,
 ZSy,
 []⟩
theorem Zaz:Zr Proofs.Tryz.prog false Zay Proofs.Tryz.f207=some ZJN:=by kernel_rfl
def ZPe:List Hint:=[H [0],H [2]]
def ZKY:PC :=
 (R [0] [I 2 (.mv (.v (.bool false)))])
def ZKZ:PC :=
 (R [2] [M 3 0,I 4 (.bin .lss (.s 3) (.v (.int .u8 128))),M 5 4,U 6 5 false 0,G 7 5 false (.bin .gtr (.s 6) (.v (.int .u8 191))),I 8 (.pick (.s 5) (.v (.bool true)) (.s 7)),M 2 8])
def ZDp:PF:=⟨false,
 (D ZKY
 (D ZKZ
 .ret)),
 [.s 2]⟩
theorem ZPf:Zr Proofs.Tryz.prog false ZPe Proofs.Tryz.f208=some ZDp:=by kernel_rfl
def Zf0:List Hint:=[H [0,1],H [0,1,9],H [4,5,6],H [0,1,17],H [4,5,6],H [4,5,6]]
def Za0:PC :=
 (R [0,1] [I 4 (.mv (.v (.str []))),I 5 (.mv (.v (.str []))),K 6 0])
def Za1:PC :=
 (R [0,1,9] [M 7 0,I 8 (C Xv [(.s 7)]),I 9 (.un .not (.s 8))])
def Za2:PC :=
 (R [4,5,6] [I 4 (.mv (.v (.str []))),I 5 (.mv (.v (.str []))),K 6 2])
def Za3:PC :=
 (R [0,1,17] [M 10 1,W 11 .lss 10 0,M 12 11,U 13 12 false 1,U 14 12 false 0,G 15 12 false (.len 0 (.s 14)),G 16 12 false (.bin .gtr (.s 13) (.s 15)),I 17 (.pick (.s 12) (.v (.bool true)) (.s 16))])
def Za4:PC :=
 (R [4,5,6] [I 4 (.mv (.v (.str []))),I 5 (.mv (.v (.str []))),K 6 3])
def Za5:PC :=
 (R [4,5,6] [M 18 0,M 19 1,I 20 (.slcS (.s 18) none (some (.s 19))),M 21 0,M 22 1,I 23 (.slcS (.s 21) (some (.s 22)) none),M 4 20,M 5 23,K 6 0])
def ZQu:PF:=⟨false,
 (D Za0
 (D (D Za1
 (E 9
 (D Za2
 .ret)
 .skip))
 (D (D Za3
 (E 17
 (D Za4
 .ret)
 .skip))
 (D Za5
 .ret)))),
 [.s 4,.s 5,.s 6]⟩
theorem Zf1:Zr Proofs.Tryz.prog false Zf0 Proofs.Tryz.f213=some ZQu:=by kernel_rfl
def ZXc:List Hint:=[H [1],H [2]]
def ZPg:PC :=
 (R [1] [I 1 (.box (.s 0)),K 2 0])
def ZPh:PC :=
 (R [2] [F 3 0 1,L 4 3,M 2 4])
def ZHw:PF:=⟨false,
 (D ZPg
 (D ZPh
 .ret)),
 [.s 2]⟩
theorem ZXd:Zr Proofs.Tryz.prog false ZXc Proofs.Tryz.f219=some ZHw:=by kernel_rfl
def ZSz:List Hint:=[H [0,1],H [0,1,5],H [0,1,5,8,9],H [0,1,5,8,9,10],H [0,1,5,6,8,9],H [0,1,5,8,9,16],H [0,1,5,8,9],H [0,1,5,8,9],H [4]]
def ZM9:PC :=
 (R [0,1] [K 4 0])
def ZNA:PC :=
 (R [0,1,5] [K 5 0])
def ZNB:PC :=
 (R [0,1,5,8,9] [M 7 0,I 8 (.len 0 (.s 7)),K 9 0])
def ZNC:PC :=
 (R [0,1,5,8,9,10] [B 10 .lss 9 8])
def ZND:PC :=
 (R [0,1,5,6,8,9] [M 11 9,M 6 11])
def ZNE:PC :=
 (R [0,1,5,8,9,16] [M 12 1,M 13 0,M 14 6,I 15 (.ixStr (.s 13) (.s 14)),I 16 (.call .norm (.s 12) [(.s 15)])])
def ZNF:PC :=
 (R [0,1,5,8,9] [M 17 5,W 18 .add 17 1,M 5 18])
def ZNG:PC :=
 (R [0,1,5,8,9] [W 19 .add 9 1,M 9 19])
def ZNH:PC :=
 (D ZNC
 (D (E 10
 .skip
 (.exit 0))
 (D (.block 1
 (D ZND
 (D ZNE
 (E 16
 ZNF
 .skip))))
 ZNG)))
def ZNI:PC :=
 (R [4] [M 20 5,M 4 20])
def ZFh:PF:=⟨false,
 (D ZM9
 (D ZNA
 (D (D ZNB
 (.block 0
 (.loop ZNH)))
 (D ZNI
 .ret)))),
 [.s 4]⟩
theorem ZS0:Zr Proofs.Tryz.prog false ZSz Proofs.Tryz.f220=some ZFh:=by kernel_rfl
def Zd4:List Hint:=[H [1],H [1,5],H [2],H [9],H [2],H [2]]
def ZXe:PC :=
 (R [1] [I 1 (.box (.s 0)),K 2 0])
def ZXf:PC :=
 (R [1,5] [T 3 3 1,I 4 (C ZAe [(.s 3)]),I 5 (.un .not (.s 4))])
def ZXg:PC :=
 (R [2] [K 2 23])
def ZXh:PC :=
 (R [9] [T 6 3 1,I 7 (C ZB8 [(.s 6)]),I 8 (.fld false 0 1 (.s 7)),W 9 .gtr 8 65536])
def ZXi:PC :=
 (R [2] [K 2 5])
def ZXj:PC :=
 (R [2] [K 2 0])
def ZNJ:PF:=⟨false,
 (D ZXe
 (D (D ZXf
 (E 5
 (D ZXg
 .ret)
 .skip))
 (D (D ZXh
 (E 9
 (D ZXi
 .ret)
 .skip))
 (D ZXj
 .ret)))),
 [.s 2]⟩
theorem Zd5:Zr Proofs.Tryz.prog false Zd4 Proofs.Tryz.f221=some ZNJ:=by kernel_rfl
def Zhh:List Hint:=[H [1,2],H [1,2,8],H [2],⟨[1,2,3],[0],[],[],[],[]⟩,H [2,3,13,14,15],H [2,3,13,14,15,16],H [2,3,5,13,14,15],H [2,3,13,14,15],H [2,3,13,14,15],H [2]]
def Zd6:PC :=
 (R [1,2] [I 1 (.box (.s 0)),I 2 (.box (.v ZM))])
def Zd7:PC :=
 (R [1,2,8] [F 6 0 1,L 7 6,W 8 .eql 7 0])
def Zd8:PC :=
 (R [2] [F 9 1 1,L 10 9,I 11 (C ZET [(.s 10)]),N 3 2 11])
def Zd9:PC :=
 (R [1,2,3] [I 3 (.onil 3)])
def ZeA:PC :=
 (R [2,3,13,14,15] [F 12 2 1,L 13 12,I 14 (.len 1 (.s 13)),K 15 0])
def ZeB:PC :=
 (R [2,3,13,14,15,16] [B 16 .lss 15 14])
def ZeC:PC :=
 (R [2,3,5,13,14,15] [I 17 (.ixS 4 (.s 13) (.s 15)),T 18 4 17,I 5 (.box (.v ZK)),N 4 5 18])
def ZeD:PC :=
 (R [2,3,13,14,15] [M 19 3,F 20 1 5,T 21 3 20,I 22 (.bslice false 3 [ZM] [(0,(.s 21))]),I 23 (.app 3 24 (.s 19) (.s 22)),M 3 23])
def ZeE:PC :=
 (R [2,3,13,14,15] [W 24 .add 15 1,M 15 24])
def ZeF:PC :=
 (D ZeB
 (D (E 16
 .skip
 (.exit 0))
 (D (.block 1
 (D ZeC
 ZeD))
 ZeE)))
def Za6:PC :=
 (R [2] [M 25 3,I 26 (C ZC6 [(.s 25)]),N 3 2 26])
def ZXk:PF:=⟨false,
 (D Zd6
 (D (D Zd7
 (E 8
 (D Zd8
 .ret)
 .skip))
 (D Zd9
 (D (D ZeA
 (.block 0
 (.loop ZeF)))
 (D Za6
 .ret))))),
 [.c 2 true 3]⟩
theorem Zhi:Zr Proofs.Tryz.prog false Zhh Proofs.Tryz.f222=some ZXk:=by kernel_rfl
def Za7:List Hint:=[H [1,2],H [1,2,10],H [4],H [1,2,5],H [2,5,17],H [2,5],H [5,6],H [5,6,7],H [6,7,23,24],H [6,7,23,24,25],H [6,7,8,23,24],H [6,7,23,24],H [6,7,23,24],H [4]]
def ZS1:PC :=
 (R [1,2] [I 2 (.box (.s 0)),I 4 (.mv (.v .nils))])
def ZS2:PC :=
 (R [1,2,10] [L 9 2,W 10 .eql 9 0])
def ZS3:PC :=
 (R [4] [I 4 (.mv (.v .nils))])
def ZS4:PC :=
 (R [1,2,5] [L 11 2,M 12 1,B 13 .quo 11 12,I 5 (.box (V 0)),N 1 5 13])
def ZS5:PC :=
 (R [2,5,17] [L 14 2,M 15 1,B 16 .rem 14 15,W 17 .gtr 16 0])
def ZS6:PC :=
 (R [2,5] [L 18 5,W 19 .add 18 1,N 1 5 19])
def ZS7:PC :=
 (R [5,6] [I 20 (.mkf (.func Ju) [] [(.s 2),(.s 5)]),M 6 20])
def ZS8:PC :=
 (R [5,6,7] [L 21 5,I 22 (.mkslice 1 8 (.int .i64 0) (.s 21) (.s 21)),M 7 22])
def ZS9:PC :=
 (R [6,7,23,24] [L 23 5,K 24 0])
def ZTA:PC :=
 (R [6,7,23,24,25] [B 25 .lss 24 23])
def ZPi:PC :=
 (R [6,7,8,23,24] [M 26 24,M 8 26])
def ZPj:PC :=
 (R [6,7,23,24] [M 27 7,M 28 8,M 29 6,M 30 8,I 31 (.call .norm (.s 29) [(.s 30)]),I 32 (.ixS 1 (.s 27) (.s 28)),N 1 32 31])
def ZPk:PC :=
 (R [6,7,23,24] [W 33 .add 24 1,M 24 33])
def ZDq:PC :=
 (D ZTA
 (D (E 25
 .skip
 (.exit 0))
 (D (.block 1
 (D ZPi
 ZPj))
 ZPk)))
def ZPl:PC :=
 (R [4] [M 34 7,M 4 34])
def ZJO:PF:=⟨false,
 (D ZS1
 (D (D ZS2
 (E 10
 (D ZS3
 .ret)
 .skip))
 (D ZS4
 (D (D ZS5
 (E 17
 ZS6
 .skip))
 (D ZS7
 (D ZS8
 (D (D ZS9
 (.block 0
 (.loop ZDq)))
 (D ZPl
 .ret)))))))),
 [.s 4]⟩
theorem Za8:Zr Proofs.Tryz.prog false Za7 Proofs.Tryz.f223=some ZJO:=by kernel_rfl
def ZeG:List Hint:=[H [0,4,5],H [0,4,5,22],H [6,7],H [0,4,5,8,9],H [0,4,5,8,9],H [0,4,5,8,9,33],H [0,4,5,8,9,10],H [0,4,5,8,9,10,41],H [6,7],H [0,4,5,8,9,47],H [0,4,5,8,9,10],H [0,4,5,8,9,10,55],H [6,7],H [0,4,5,8,9,57],H [6,7],H [0,4,5,8,9,78],H [6,7],H [0,4,5,8,9,87],H [0,5,8,11],H [8,11,12,13],H [8,11,12,13,107],H [6,7],H [6,7],H [9,10,14],H [9,10,14,127],H [6,7],⟨[6,7],[],[],[],[(4,.blind),(2,.app0),(0,.imm)],[]⟩]
def ZXl:PC :=
 (R [0,4,5] [I 4 (.box (.s 1)),I 5 (.box (.s 2)),I 6 (.mv (.v .nils)),K 7 0])
def ZXm:PC :=
 (R [0,4,5,22] [F 15 1 4,L 16 15,W 17 .eql 16 0,M 18 17,G 19 18 true (.fadr 1 (.s 5)),G 20 18 true (.ld false 1 (.s 19)),G 21 18 true (.bin .eql (.s 20) (V 0)),I 22 (.pick (.s 18) (.s 21) (.v (.bool false)))])
def ZXn:PC :=
 (R [6,7] [M 23 0,T 24 7 4,T 25 7 5,I 26 (C ZC7 [(.s 23),(.s 24),(.s 25)]),X 27 26 0,X 28 26 1,M 6 27,M 7 28])
def ZXo:PC :=
 (R [0,4,5,8,9] [I 8 (.mv (.v .nils)),I 9 (.mv (.v .nils))])
def ZXp:PC :=
 (R [0,4,5,8,9] [K 10 0])
def ZXq:PC :=
 (R [0,4,5,8,9,33] [F 29 1 4,L 30 29,F 31 1 5,L 32 31,B 33 .geq 30 32])
def ZXr:PC :=
 (R [0,4,5,8,9,10] [M 35 0,T 36 7 4,I 37 (C Js [(.s 35),(.s 36)]),M 34 37,X 38 34 0,X 39 34 1,M 8 38,M 10 39])
def ZXs:PC :=
 (R [0,4,5,8,9,10,41] [M 40 10,W 41 .neq 40 0])
def ZXt:PC :=
 (R [6,7] [M 42 10,I 6 (.mv (.v .nils)),M 7 42])
def ZXu:PC :=
 (R [0,4,5,8,9,47] [F 43 1 5,L 44 43,F 45 1 4,L 46 45,B 47 .geq 44 46])
def ZTB:PC :=
 (R [0,4,5,8,9,10] [M 49 0,T 50 7 5,I 51 (C Js [(.s 49),(.s 50)]),M 48 51,X 52 48 0,X 53 48 1,M 9 52,M 10 53])
def ZTC:PC :=
 (R [0,4,5,8,9,10,55] [M 54 10,W 55 .neq 54 0])
def ZTD:PC :=
 (R [6,7] [M 56 10,I 6 (.mv (.v .nils)),M 7 56])
def ZTE:PC :=
 (R [0,4,5,8,9,57] [F 58 1 4,L 59 58,F 60 1 5,L 61 60,B 62 .eql 59 61,M 63 62,U 64 63 true 8,G 65 63 true (.len 1 (.s 64)),U 66 63 true 9,G 67 63 true (.len 1 (.s 66)),G 68 63 true (.bin .add (.s 65) (.s 67)),G 69 63 true (.bin .leq (.s 68) (V 4)),I 70 (.pick (.s 63) (.s 69) (.v (.bool false))),M 57 70])
def ZTF:PC :=
 (R [6,7] [I 71 (.bslice false 7 [] []),M 72 8,I 73 (.app 7 80 (.s 71) (.s 72)),M 74 9,I 75 (.app 7 80 (.s 73) (.s 74)),I 76 (C QN [(.s 75)]),I 77 (.bslice false 7 [ZT] [(0,(.s 76))]),M 6 77,K 7 0])
def ZTG:PC :=
 (R [0,4,5,8,9,78] [F 79 1 4,L 80 79,F 81 1 5,L 82 81,B 83 .eql 80 82,M 78 83])
def ZTH:PC :=
 (R [6,7] [T 84 7 4,T 85 7 5,I 86 (.bslice false 7 [ZT,ZT] [(0,(.s 84)),(1,(.s 85))]),M 6 86,K 7 0])
def ZTI:PC :=
 (R [0,4,5,8,9,87] [F 88 1 4,L 89 88,F 90 1 5,L 91 90,B 92 .gtr 89 91,M 87 92])
def ZTJ:PC :=
 (R [0,5,8,11] [M 93 8,I 94 (.len 1 (.s 93)),W 95 .sub 94 1,M 11 95])
def ZTK:PC :=
 (R [8,11,12,13] [M 97 0,M 98 8,M 99 11,I 100 (.ixS 7 (.s 98) (.s 99)),T 101 7 100,T 102 7 5,I 103 (C Xt [(.s 97),(.s 101),(.s 102)]),M 96 103,X 104 96 0,X 105 96 1,M 12 104,M 13 105])
def ZTL:PC :=
 (R [8,11,12,13,107] [M 106 13,W 107 .neq 106 0])
def ZTM:PC :=
 (R [6,7] [M 108 13,I 6 (.mv (.v .nils)),M 7 108])
def ZTN:PC :=
 (R [6,7] [I 109 (.bslice false 7 [] []),M 110 8,M 111 11,I 112 (.slc 7 (.s 110) none (some (.s 111))),I 113 (.app 7 80 (.s 109) (.s 112)),M 114 12,I 115 (.app 7 80 (.s 113) (.s 114)),I 116 (C ZCq [(.s 115)]),M 6 116,K 7 0])
def ZTO:PC :=
 (R [9,10,14] [M 118 0,T 119 7 4,M 120 9,I 121 (.ixS 7 (.s 120) (V 0)),T 122 7 121,I 123 (C Xt [(.s 118),(.s 119),(.s 122)]),M 117 123,X 124 117 0,X 125 117 1,M 14 124,M 10 125])
def ZTP:PC :=
 (R [9,10,14,127] [M 126 10,W 127 .neq 126 0])
def ZTQ:PC :=
 (R [6,7] [M 128 10,I 6 (.mv (.v .nils)),M 7 128])
def ZTR:PC :=
 (R [6,7] [I 129 (.w .imm (.bslice false 7 [] [])),M 130 14,I 131 (.w .app0 (.app 7 80 (.s 129) (.s 130))),M 132 9,I 133 (.w .blind (.slc 7 (.s 132) (some (V 1)) none)),I 134 (.app 7 80 (.s 131) (.s 133)),I 135 (C ZCq [(.s 134)]),M 6 135,K 7 0])
def ZNK:PF:=⟨false,
 (D ZXl
 (D (D ZXm
 (E 22
 (D ZXn
 .ret)
 .skip))
 (D ZXo
 (D ZXp
 (D (D ZXq
 (E 33
 (D ZXr
 (D ZXs
 (E 41
 (D ZXt
 .ret)
 .skip)))
 .skip))
 (D (D ZXu
 (E 47
 (D ZTB
 (D ZTC
 (E 55
 (D ZTD
 .ret)
 .skip)))
 .skip))
 (D (.block 0
 (D ZTE
 (E 57
 (D ZTF
 .ret)
 (D ZTG
 (E 78
 (D ZTH
 .ret)
 (D ZTI
 (E 87
 (D ZTJ
 (D ZTK
 (D (D ZTL
 (E 107
 (D ZTM
 .ret)
 .skip))
 (D ZTN
 .ret))))
 .skip)))))))
 (D ZTO
 (D (D ZTP
 (E 127
 (D ZTQ
 .ret)
 .skip))
 (D ZTR
 .ret)))))))))),
 [.s 6,.s 7]⟩
theorem ZeH:Zr Proofs.Tryz.prog false ZeG Proofs.Tryz.f225=some ZNK:=by kernel_rfl
def ZXv:List Hint:=[H [3,4,5],⟨[],[6],[],[],[(0,(.only (.s 3))),(7,(.grow (.s 3)))],[]⟩]
def ZPm:PC :=
 (R [3,4,5] [I 3 (.box (.s 0)),I 4 (.box (.s 1)),I 5 (.box (.s 2))])
def ZPn:PC :=
 (R [] [I 6 (.w (.only (.s 3)) (.ld false 1 (.s 3))),L 7 3,I 8 (.nilck (.s 7)),F 9 1 8,L 10 9,I 11 (.mkf (.func Y1) [] [(.s 3),(.s 5),(.s 4)]),I 12 (.bslice true 1 [.nilfunc] [(0,(.s 11))]),I 13 (.w (.grow (.s 3)) (.app 1 8 (.s 10) (.s 12))),I 14 (.nilck (.s 6)),F 15 1 14,N 1 15 13])
def ZHx:PF:=⟨true,
 (D ZPm
 ZPn),
 []⟩
theorem ZXw:Zr Proofs.Tryz.prog true ZXv Proofs.Tryz.f226=some ZHx:=by kernel_rfl
def ZPo:List Hint:=[H [0,1],H [1]]
def ZKa:PC :=
 (R [0,1] [I 1 (.box (.v ZN))])
def ZKb:PC :=
 (R [1] [T 2 3 0,N 3 1 2])
def ZDr:PF:=⟨false,
 (D ZKa
 (D ZKb
 .ret)),
 [.c 1 true 3]⟩
theorem ZPp:Zr Proofs.Tryz.prog false ZPo Proofs.Tryz.f227=some ZDr:=by kernel_rfl
def ZPq:List Hint:=[H [0,1,2],H [1,2,3],H [2,3,9,10,11],H [2,3,9,10,11,12],H [2,3,5,9,10,11],⟨[2,3,9,10,11],[],[],[],[(11,.imm)],[]⟩,H [2,3,9,10,11],H [2]]
def ZKc:PC :=
 (R [0,1,2] [I 2 (.box (.v ZN))])
def ZKd:PC :=
 (R [1,2,3] [F 6 1 0,L 7 6,I 8 (.build [(.int .i64 0),(.str []),.nils] [(0,1,(.s 7))]),I 3 (.box (.v ZN)),N 3 3 8])
def ZKe:PC :=
 (R [2,3,9,10,11] [L 9 1,I 10 (.len 1 (.s 9)),K 11 0])
def ZKf:PC :=
 (R [2,3,9,10,11,12] [B 12 .lss 11 10])
def ZKg:PC :=
 (R [2,3,5,9,10,11] [I 13 (.ixS 1 (.s 9) (.s 11)),L 14 13,M 5 14])
def ZKh:PC :=
 (R [2,3,9,10,11] [F 15 2 3,L 16 15,M 17 5,I 18 (.nilck (.s 17)),F 19 0 18,L 20 19,M 21 5,I 22 (.nilck (.s 21)),F 23 2 22,T 24 3 23,I 25 (.build [(.int .u64 0),(.int .i64 0),(.int .i64 0),(.int .i64 0)] [(0,1,(.s 20)),(1,3,(.s 24))]),I 26 (.w .imm (.bslice false 4 [ZK] [(0,(.s 25))])),I 27 (.app 4 32 (.s 16) (.s 26)),F 28 2 3,N 1 28 27])
def ZKi:PC :=
 (R [2,3,9,10,11] [W 29 .add 11 1,M 11 29])
def ZKj:PC :=
 (D ZKf
 (D (E 12
 .skip
 (.exit 0))
 (D (.block 1
 (D ZKg
 ZKh))
 ZKi)))
def ZKk:PC :=
 (R [2] [T 30 3 3,N 3 2 30])
def ZDs:PF:=⟨false,
 (D ZKc
 (D ZKd
 (D (D ZKe
 (.block 0
 (.loop ZKj)))
 (D ZKk
 .ret)))),
 [.c 2 true 3]⟩
theorem ZPr:Zr Proofs.Tryz.prog false ZPq Proofs.Tryz.f228=some ZDs:=by kernel_rfl
def ZeI:List Hint:=[H [0],H [2]]
def ZXx:PC :=
 (R [0] [I 2 (.mv (.v (.bool false)))])
def ZXy:PC :=
 (R [2] [M 3 0,I 4 (.len 0 (.s 3)),W 5 .geq 4 1,M 6 5,U 7 6 true 0,G 8 6 true (.len 0 (.s 7)),G 9 6 true (.bin .leq (.s 8) (V 16)),I 10 (.pick (.s 6) (.s 9) (.v (.bool false))),M 2 10])
def ZNL:PF:=⟨false,
 (D ZXx
 (D ZXy
 .ret)),
 [.s 2]⟩
theorem ZeJ:Zr Proofs.Tryz.prog false ZeI Proofs.Tryz.f229=some ZNL:=by kernel_rfl
def Za9:List Hint:=[H [1],H [1,9],H [2],H [1,50],H [2],H [1,3,4],H [3,4,59,60,61],H [3,4,59,60,61,62],H [3,4,6,59,60,61],H [3,4,59,60,61,112],H [2],H [3,4,59,60,61],H [2]]
def ZTS:PC :=
 (R [1] [I 1 (.box (.s 0)),I 2 (.mv (.v (.bool false)))])
def ZTT:PC :=
 (R [1,9] [F 7 0 1,L 8 7,W 9 .eql 8 0])
def ZTU:PC :=
 (R [2] [F 10 1 1,L 11 10,I 12 (.len 0 (.s 11)),W 13 .geq 12 1,M 14 13,G 15 14 true (.fadr 1 (.s 1)),G 16 14 true (.ld false 1 (.s 15)),G 17 14 true (.len 0 (.s 16)),G 18 14 true (.bin .leq (.s 17) (V 16)),I 19 (.pick (.s 14) (.s 18) (.v (.bool false))),M 20 19,G 21 20 true (.fadr 2 (.s 1)),G 22 20 true (.ld false 1 (.s 21)),G 23 20 true (.len 1 (.s 22)),G 24 20 true (.bin .eql (.s 23) (V 0)),I 25 (.pick (.s 20) (.s 24) (.v (.bool false))),M 2 25])
def ZTV:PC :=
 (R [1,50] [F 26 0 1,L 27 26,W 28 .lss 27 1,M 29 28,G 30 29 false (.fadr 0 (.s 1)),G 31 29 false (.ld false 1 (.s 30)),G 32 29 false (.bin .gtr (.s 31) (V 16)),I 33 (.pick (.s 29) (.v (.bool true)) (.s 32)),M 34 33,G 35 34 false (.fadr 1 (.s 1)),G 36 34 false (.ld false 1 (.s 35)),G 37 34 false (.bin .neq (.s 36) (.v (.str []))),I 38 (.pick (.s 34) (.v (.bool true)) (.s 37)),M 39 38,G 40 39 false (.fadr 2 (.s 1)),G 41 39 false (.ld false 1 (.s 40)),G 42 39 false (.len 1 (.s 41)),G 43 39 false (.bin .lss (.s 42) (V 2)),I 44 (.pick (.s 39) (.v (.bool true)) (.s 43)),M 45 44,G 46 45 false (.fadr 2 (.s 1)),G 47 45 false (.ld false 1 (.s 46)),G 48 45 false (.len 1 (.s 47)),G 49 45 false (.bin .gtr (.s 48) (V 4)),I 50 (.pick (.s 45) (.v (.bool true)) (.s 49))])
def ZTW:PC :=
 (R [2] [I 2 (.mv (.v (.bool false)))])
def ZTX:PC :=
 (R [1,3,4] [F 52 0 1,L 53 52,W 54 .sub 53 1,I 55 (C ZC8 [(.s 54)]),M 51 55,X 56 51 0,X 57 51 1,M 3 56,M 4 57])
def ZTY:PC :=
 (R [3,4,59,60,61] [F 58 2 1,L 59 58,I 60 (.len 1 (.s 59)),K 61 0])
def ZTZ:PC :=
 (R [3,4,59,60,61,62] [B 62 .lss 61 60])
def ZTa:PC :=
 (R [3,4,6,59,60,61] [I 63 (.ixS 4 (.s 59) (.s 61)),T 64 4 63,I 6 (.box (.v ZK)),N 4 6 64])
def ZTb:PC :=
 (R [3,4,59,60,61,112] [F 65 0 6,L 66 65,I 67 (C ZB9 [(.s 66)]),W 68 .neq 67 0,M 69 68,G 70 69 false (.fadr 1 (.s 6)),G 71 69 false (.fadr 0 (.s 70)),G 72 69 false (.ld false 1 (.s 71)),U 73 69 false 3,G 74 69 false (.bin .lss (.s 72) (.s 73)),I 75 (.pick (.s 69) (.v (.bool true)) (.s 74)),M 76 75,G 77 76 false (.fadr 1 (.s 6)),G 78 76 false (.fadr 0 (.s 77)),G 79 76 false (.ld false 1 (.s 78)),U 80 76 false 4,G 81 76 false (.bin .gtr (.s 79) (.s 80)),I 82 (.pick (.s 76) (.v (.bool true)) (.s 81)),M 83 82,G 84 83 false (.fadr 1 (.s 6)),G 85 83 false (.fadr 1 (.s 84)),G 86 83 false (.ld false 1 (.s 85)),G 87 83 false (.bin .lss (.s 86) (V 0)),I 88 (.pick (.s 83) (.v (.bool true)) (.s 87)),M 89 88,G 90 89 false (.fadr 1 (.s 6)),G 91 89 false (.fadr 1 (.s 90)),G 92 89 false (.ld false 1 (.s 91)),G 93 89 false (.fadr 1 (.s 6)),G 94 89 false (.fadr 0 (.s 93)),G 95 89 false (.ld false 1 (.s 94)),G 96 89 false (.bin .gtr (.s 92) (.s 95)),I 97 (.pick (.s 89) (.v (.bool true)) (.s 96)),M 98 97,G 99 98 false (.fadr 1 (.s 6)),G 100 98 false (.fadr 2 (.s 99)),G 101 98 false (.ld false 1 (.s 100)),G 102 98 false (.bin .lss (.s 101) (V 0)),I 103 (.pick (.s 98) (.v (.bool true)) (.s 102)),M 104 103,G 105 104 false (.fadr 1 (.s 6)),G 106 104 false (.fadr 2 (.s 105)),G 107 104 false (.ld false 1 (.s 106)),G 108 104 false (.fadr 1 (.s 6)),G 109 104 false (.fadr 1 (.s 108)),G 110 104 false (.ld false 1 (.s 109)),G 111 104 false (.bin .gtr (.s 107) (.s 110)),I 112 (.pick (.s 104) (.v (.bool true)) (.s 111))])
def ZPs:PC :=
 (R [2] [I 2 (.mv (.v (.bool false)))])
def ZPt:PC :=
 (R [3,4,59,60,61] [W 113 .add 61 1,M 61 113])
def ZPu:PC :=
 (D ZTZ
 (D (E 62
 .skip
 (.exit 0))
 (D (.block 1
 (D ZTa
 (D ZTb
 (E 112
 (D ZPs
 .ret)
 .skip))))
 ZPt)))
def ZPv:PC :=
 (R [2] [I 2 (.mv (.v (.bool true)))])
def ZJP:PF:=⟨false,
 (D ZTS
 (D (D ZTT
 (E 9
 (D ZTU
 .ret)
 .skip))
 (D (D ZTV
 (E 50
 (D ZTW
 .ret)
 .skip))
 (D ZTX
 (D (D ZTY
 (.block 0
 (.loop ZPu)))
 (D ZPv
 .ret)))))),
 [.s 2]⟩
theorem ZbA:Zr Proofs.Tryz.prog false Za9 Proofs.Tryz.f240=some ZJP:=by kernel_rfl
def ZeK:List Hint:=[H [0,2],H [0,2,3],H [0,2,3,6,7],H [0,2,3,6,7,8],H [0,2,3,4,5,6,7],H [0,2,3,6,7],H [0,2,3,6,7],H [2]]
def ZXz:PC :=
 (R [0,2] [I 2 (.box (.v ZM))])
def ZX0:PC :=
 (R [0,2,3] [I 3 (.box (.v ZM))])
def ZX1:PC :=
 (R [0,2,3,6,7] [I 6 (.build [.nilfunc,.nilfunc,.nilfunc] [(0,1,(.v (.func (.func XT) [] []))),(1,1,(.v (.func (.func YA) [] []))),(2,1,(.v (.func (.func YP) [] [])))]),K 7 0])
def ZX2:PC :=
 (R [0,2,3,6,7,8] [W 8 .lss 7 3])
def ZX3:PC :=
 (R [0,2,3,4,5,6,7] [M 9 7,I 10 (.ixArr false 3 1 (.s 6) (.s 7)),M 4 9,M 5 10])
def ZX4:PC :=
 (R [0,2,3,6,7] [M 11 4,M 12 0,M 13 5,I 14 (C XS [(.s 12),(.s 13)]),I 15 (.ixA 3 1 (.s 3) (.s 11)),N 1 15 14])
def ZX5:PC :=
 (R [0,2,3,6,7] [W 16 .add 7 1,M 7 16])
def ZX6:PC :=
 (D ZX2
 (D (E 8
 .skip
 (.exit 0))
 (D (.block 1
 (D ZX3
 ZX4))
 ZX5)))
def ZX7:PC :=
 (R [2] [T 17 3 3,I 18 (C YJ [(.s 17)]),N 3 2 18])
def ZNM:PF:=⟨false,
 (D ZXz
 (D ZX0
 (D (D ZX1
 (.block 0
 (.loop ZX6)))
 (D ZX7
 .ret)))),
 [.c 2 true 3]⟩
theorem ZeL:Zr Proofs.Tryz.prog false ZeK Proofs.Tryz.f241=some ZNM:=by kernel_rfl
def ZbB:List Hint:=[H [0,2],H [0,2,3],H [2,3,8,9,10],H [2,3,8,9,10,11],H [2,3,5,8,9,10],H [2,3,8,9,10,20,21],H [2,3,8,9,10,20,21,22],H [2,3,6,7,8,9,10,20,21],H [2,3,8,9,10,20,21],H [2,3,8,9,10,20,21],H [2,3,8,9,10],H [2]]
def ZTc:PC :=
 (R [0,2] [I 2 (.box (.v ZM))])
def ZTd:PC :=
 (R [0,2,3] [I 3 (.box (.v ZM))])
def ZTe:PC :=
 (R [2,3,8,9,10] [M 8 0,I 9 (.len 1 (.s 8)),K 10 0])
def ZTf:PC :=
 (R [2,3,8,9,10,11] [B 11 .lss 10 9])
def ZTg:PC :=
 (R [2,3,5,8,9,10] [I 12 (.ixS 3 (.s 8) (.s 10)),T 13 3 12,I 5 (.box (.v ZM)),N 3 5 13])
def ZTh:PC :=
 (R [2,3,8,9,10,20,21] [F 14 0 5,L 15 14,F 16 1 5,L 17 16,F 18 2 5,L 19 18,I 20 (.build [(.int .i64 0),(.int .i64 0),(.int .i64 0)] [(0,1,(.s 15)),(1,1,(.s 17)),(2,1,(.s 19))]),K 21 0])
def ZTi:PC :=
 (R [2,3,8,9,10,20,21,22] [W 22 .lss 21 3])
def ZTj:PC :=
 (R [2,3,6,7,8,9,10,20,21] [M 23 21,I 24 (.ixArr false 3 1 (.s 20) (.s 21)),M 6 23,M 7 24])
def ZTk:PC :=
 (R [2,3,8,9,10,20,21] [M 25 6,I 26 (.ixA 3 1 (.s 3) (.s 25)),L 27 26,M 28 7,B 29 .add 27 28,I 30 (.ixA 3 1 (.s 3) (.s 25)),N 1 30 29])
def ZTl:PC :=
 (R [2,3,8,9,10,20,21] [W 31 .add 21 1,M 21 31])
def ZPw:PC :=
 (D ZTi
 (D (E 22
 .skip
 (.exit 2))
 (D (.block 3
 (D ZTj
 ZTk))
 ZTl)))
def ZPx:PC :=
 (R [2,3,8,9,10] [W 32 .add 10 1,M 10 32])
def ZPy:PC :=
 (D ZTf
 (D (E 11
 .skip
 (.exit 0))
 (D (.block 1
 (D ZTg
 (D ZTh
 (.block 2
 (.loop ZPw)))))
 ZPx)))
def ZPz:PC :=
 (R [2] [T 33 3 3,I 34 (C YJ [(.s 33)]),N 3 2 34])
def ZJQ:PF:=⟨false,
 (D ZTc
 (D ZTd
 (D (D ZTe
 (.block 0
 (.loop ZPy)))
 (D ZPz
 .ret)))),
 [.c 2 true 3]⟩
theorem ZbC:Zr Proofs.Tryz.prog false ZbB Proofs.Tryz.f242=some ZJQ:=by kernel_rfl
def ZTm:List Hint:=[H [0,1,2],H [1,2,9],H [4],H [4]]
def ZNN:PC :=
 (R [0,1,2] [K 4 0])
def ZNO:PC :=
 (R [1,2,9] [M 5 0,L 6 1,L 7 2,B 8 .rem 6 7,B 9 .lss 5 8])
def ZNP:PC :=
 (R [4] [L 10 1,L 11 2,B 12 .quo 10 11,W 13 .add 12 1,M 4 13])
def ZNQ:PC :=
 (R [4] [L 14 1,L 15 2,B 16 .quo 14 15,M 4 16])
def ZFi:PF:=⟨false,
 (D ZNN
 (D (D ZNO
 (E 9
 (D ZNP
 .ret)
 .skip))
 (D ZNQ
 .ret))),
 [.s 4]⟩
theorem ZTn:Zr Proofs.Tryz.prog false ZTm Proofs.Tryz.f243=some ZFi:=by kernel_rfl
def ZbD:List Hint:=[H [0,4,5],⟨[0,4,5,8,9],[],[(1,.pure)],[],[],[]⟩,H [0,4,5,32],H [6,7],H [0,5,10,11],H [0,5,10,11,43],H [6,7],H [10,11,12],H [10,11,12,52],H [6,7],H [11,13],H [11,13,61],H [6,7],⟨[13,14],[0],[],[],[],[]⟩,H [14,63,64,65],H [14,63,64,65,66],H [14,16,63,64,65],H [14,63,64,65],H [14,63,64,65],H [6,7]]
def ZTo:PC :=
 (R [0,4,5] [I 4 (.box (.s 1)),I 5 (.box (.s 2)),I 6 (.mv (.v .nils)),K 7 0])
def ZTp:PC :=
 (R [0,4,5,8,9] [T 17 7 4,I 18 (.call .pure (.v (.func (.func Qq) [] [])) [(.s 17)]),T 19 7 5,I 20 (C Qq [(.s 19)]),M 8 18,M 9 20])
def ZTq:PC :=
 (R [0,4,5,32] [M 21 8,M 22 9,B 23 .add 21 22,W 24 .gtr 23 16,M 25 24,U 26 25 true 8,G 27 25 true (.bin .geq (.s 26) (V 8)),I 28 (.pick (.s 25) (.s 27) (.v (.bool false))),M 29 28,U 30 29 true 9,G 31 29 true (.bin .geq (.s 30) (V 8)),I 32 (.pick (.s 29) (.s 31) (.v (.bool false)))])
def ZTr:PC :=
 (R [6,7] [T 33 7 4,T 34 7 5,I 35 (.bslice false 7 [ZT,ZT] [(0,(.s 33)),(1,(.s 34))]),M 6 35,K 7 0])
def ZTs:PC :=
 (R [0,5,10,11] [M 37 0,T 38 7 4,I 39 (C Xf [(.s 37),(.s 38)]),M 36 39,X 40 36 0,X 41 36 1,M 10 40,M 11 41])
def ZTt:PC :=
 (R [0,5,10,11,43] [M 42 11,W 43 .neq 42 0])
def ZTu:PC :=
 (R [6,7] [M 44 11,I 6 (.mv (.v .nils)),M 7 44])
def ZTv:PC :=
 (R [10,11,12] [M 46 0,T 47 7 5,I 48 (C Xf [(.s 46),(.s 47)]),M 45 48,X 49 45 0,X 50 45 1,M 12 49,M 11 50])
def ZTw:PC :=
 (R [10,11,12,52] [M 51 11,W 52 .neq 51 0])
def ZTx:PC :=
 (R [6,7] [M 53 11,I 6 (.mv (.v .nils)),M 7 53])
def ZP0:PC :=
 (R [11,13] [M 55 10,M 56 12,I 57 (C ZEU [(.s 55),(.s 56)]),M 54 57,X 58 54 0,X 59 54 1,M 13 58,M 11 59])
def ZP1:PC :=
 (R [11,13,61] [M 60 11,W 61 .neq 60 0])
def ZP2:PC :=
 (R [6,7] [M 62 11,I 6 (.mv (.v .nils)),M 7 62])
def ZP3:PC :=
 (R [13,14] [I 14 (.onil 7)])
def ZP4:PC :=
 (R [14,63,64,65] [M 63 13,I 64 (.len 1 (.s 63)),K 65 0])
def ZP5:PC :=
 (R [14,63,64,65,66] [B 66 .lss 65 64])
def ZP6:PC :=
 (R [14,16,63,64,65] [I 67 (.ixS 1 (.s 63) (.s 65)),L 68 67,M 16 68])
def ZP7:PC :=
 (R [14,63,64,65] [M 69 14,M 70 16,I 71 (.build [(.int .u64 0),(.int .i64 0),(.int .i64 0),(.int .i64 0),(.int .i64 0),(.str []),.nils] [(5,1,(.s 70))]),I 72 (.bslice false 7 [ZT] [(0,(.s 71))]),I 73 (.app 7 80 (.s 69) (.s 72)),M 14 73])
def ZP8:PC :=
 (R [14,63,64,65] [W 74 .add 65 1,M 65 74])
def ZDt:PC :=
 (D ZP5
 (D (E 66
 .skip
 (.exit 0))
 (D (.block 1
 (D ZP6
 ZP7))
 ZP8)))
def ZP9:PC :=
 (R [6,7] [M 75 14,M 6 75,K 7 0])
def ZJR:PF:=⟨false,
 (D ZTo
 (D ZTp
 (D (D ZTq
 (E 32
 (D ZTr
 .ret)
 .skip))
 (D ZTs
 (D (D ZTt
 (E 43
 (D ZTu
 .ret)
 .skip))
 (D ZTv
 (D (D ZTw
 (E 52
 (D ZTx
 .ret)
 .skip))
 (D ZP0
 (D (D ZP1
 (E 61
 (D ZP2
 .ret)
 .skip))
 (D ZP3
 (D (D ZP4
 (.block 0
 (.loop ZDt)))
 (D ZP9
 .ret)))))))))))),
 [.s 6,.s 7]⟩
theorem ZbE:Zr Proofs.Tryz.prog false ZbD Proofs.Tryz.f245=some ZJR:=by kernel_rfl
def Zf2:List Hint:=[H [0],H [0,6],H [2],H [0,3],⟨[2],[],[(3,.pure)],[],[],[]⟩]
def ZbF:PC :=
 (R [0] [I 2 (.mv (.v .nils))])
def ZbG:PC :=
 (R [0,6] [M 4 0,I 5 (.len 1 (.s 4)),W 6 .leq 5 4])
def ZbH:PC :=
 (R [2] [M 7 0,I 8 (C QN [(.s 7)]),I 9 (.bslice false 7 [ZT] [(0,(.s 8))]),M 2 9])
def ZbI:PC :=
 (R [0,3] [M 10 0,I 11 (.len 1 (.s 10)),W 12 .add 11 1,W 13 .quo 12 2,M 3 13])
def ZbJ:PC :=
 (R [2] [M 14 0,M 15 3,I 16 (.slc 7 (.s 14) none (some (.s 15))),I 17 (.call .pure (.v (.func (.func QN) [] [])) [(.s 16)]),M 18 0,M 19 3,I 20 (.slc 7 (.s 18) (some (.s 19)) none),I 21 (C QN [(.s 20)]),I 22 (.bslice false 7 [ZT,ZT] [(0,(.s 17)),(1,(.s 21))]),M 2 22])
def ZQv:PF:=⟨false,
 (D ZbF
 (D (D ZbG
 (E 6
 (D ZbH
 .ret)
 .skip))
 (D ZbI
 (D ZbJ
 .ret)))),
 [.s 2]⟩
theorem Zf3:Zr Proofs.Tryz.prog false Zf2 Proofs.Tryz.f246=some ZQv:=by kernel_rfl
def ZQA:List Hint:=[H [0,1,2],⟨[2,5,6],[],[(5,.pure)],[],[],[]⟩,H [2,5,6,18],H [5,6],H [3,4]]
def ZKl:PC :=
 (R [0,1,2] [I 3 (.mv (.v (.int .u64 0))),K 4 0])
def ZKm:PC :=
 (R [2,5,6] [L 8 0,I 9 (.nilck (.s 8)),F 10 0 9,L 11 10,L 12 1,I 13 (.call .pure (.s 12) []),I 14 (C JZ [(.s 11),(.s 13)]),M 7 14,X 15 7 0,X 16 7 1,M 5 15,M 6 16])
def ZKn:PC :=
 (R [2,5,6,18] [M 17 6,W 18 .eql 17 0])
def ZKo:PC :=
 (R [5,6] [L 19 2,M 20 5,I 21 (.nilck (.s 19)),F 22 0 21,N 1 22 20])
def ZKp:PC :=
 (R [3,4] [M 23 5,M 24 6,M 3 23,M 4 24])
def ZDu:PF:=⟨false,
 (D ZKl
 (D ZKm
 (D (D ZKn
 (E 18
 ZKo
 .skip))
 (D ZKp
 .ret)))),
 [.s 3,.s 4]⟩
theorem ZQB:Zr Proofs.Tryz.prog false ZQA Proofs.Tryz.f247=some ZDu:=by kernel_rfl
def ZI4:List Hint:=[H [0,3],H [0,3,16],H [4,5],H [0,3,6],H [0,3,6,20],H [4,5],H [0,3,23,24,25],H [0,3,23,24,25,26],H [0,3,8,23,24,25],H [0,3,8,9,10,23,24,25],H [0,3,8,9,23,24,25,40],H [4,5],H [0,3,8,9,11,12,23,24,25],H [0,3,23,24,25,61],H [4,5],H [0,3,23,24,25],H [0,3,13,14],H [0,3,13,14,72],H [4,5],H [0,3,13],H [0,13],H [13],H [4,5]]
def ZGe:PC :=
 (R [0,3] [I 3 (.box (.s 1)),I 4 (.mv (.v (.int .u64 0))),K 5 0])
def ZGf:PC :=
 (R [0,3,16] [M 15 0,I 16 (.eqs false 3 [] (.s 15) (.v .nilptr))])
def ZGg:PC :=
 (R [4,5] [I 4 (.mv (.v (.int .u64 0))),K 5 1])
def ZGh:PC :=
 (R [0,3,6] [T 17 3 3,I 18 (C Xs [(.s 17)]),M 6 18])
def ZGi:PC :=
 (R [0,3,6,20] [M 19 6,W 20 .neq 19 0])
def ZGj:PC :=
 (R [4,5] [M 21 6,I 4 (.mv (.v (.int .u64 0))),M 5 21])
def ZGk:PC :=
 (R [0,3,23,24,25] [F 22 2 3,L 23 22,I 24 (.len 1 (.s 23)),K 25 0])
def ZGl:PC :=
 (R [0,3,23,24,25,26] [B 26 .lss 25 24])
def ZGm:PC :=
 (R [0,3,8,23,24,25] [I 27 (.ixS 4 (.s 23) (.s 25)),T 28 4 27,I 8 (.box (.v ZK)),N 4 8 28])
def ZGn:PC :=
 (R [0,3,8,9,10,23,24,25] [M 30 0,I 31 (.nilck (.s 30)),F 32 2 31,L 33 32,F 34 0 8,L 35 34,I 36 (.look 0 ZN true (.s 33) (.s 35)),M 29 36,X 37 29 0,X 38 29 1,I 9 (.box (.v ZN)),N 3 9 37,M 10 38])
def ZEv:PC :=
 (R [0,3,8,9,23,24,25,40] [M 39 10,I 40 (.un .not (.s 39))])
def ZEw:PC :=
 (R [4,5] [I 4 (.mv (.v (.int .u64 0))),K 5 10])
def ZEx:PC :=
 (R [0,3,8,9,11,12,23,24,25] [T 42 3 9,I 43 (C J9 [(.s 42)]),M 41 43,X 44 41 0,X 45 41 1,I 11 (.box (.v ZM)),N 3 11 44,M 12 45])
def ZEy:PC :=
 (R [0,3,23,24,25,61] [M 46 12,W 47 .neq 46 0,M 48 47,G 49 48 false (.fadr 0 (.s 9)),G 50 48 false (.ld false 1 (.s 49)),G 51 48 false (.fadr 0 (.s 3)),G 52 48 false (.ld false 1 (.s 51)),G 53 48 false (.bin .sub (.s 52) (V 1)),G 54 48 false (.bin .neq (.s 50) (.s 53)),I 55 (.pick (.s 48) (.v (.bool true)) (.s 54)),M 56 55,G 57 56 false (.ld true 3 (.s 11)),G 58 56 false (.fadr 1 (.s 8)),G 59 56 false (.ld true 3 (.s 58)),G 60 56 false (.eqs true 0 [(0,0),(1,0),(2,0)] (.s 57) (.s 59)),I 61 (.pick (.s 56) (.v (.bool true)) (.s 60))])
def ZEz:PC :=
 (R [4,5] [I 4 (.mv (.v (.int .u64 0))),K 5 23])
def ZE0:PC :=
 (R [0,3,23,24,25] [W 62 .add 25 1,M 25 62])
def ZE1:PC :=
 (D ZGl
 (D (E 26
 .skip
 (.exit 0))
 (D (.block 1
 (D ZGm
 (D ZGn
 (D (D ZEv
 (E 40
 (D ZEw
 .ret)
 .skip))
 (D ZEx
 (D ZEy
 (E 61
 (D ZEz
 .ret)
 .skip)))))))
 ZE0)))
def ZE2:PC :=
 (R [0,3,13,14] [M 64 0,I 65 (.nilck (.s 64)),F 66 1 65,L 67 66,I 68 (C Yr [(.s 67)]),M 63 68,X 69 63 0,X 70 63 1,M 13 69,M 14 70])
def ZE3:PC :=
 (R [0,3,13,14,72] [M 71 14,W 72 .neq 71 0])
def ZE4:PC :=
 (R [4,5] [M 73 14,I 4 (.mv (.v (.int .u64 0))),M 5 73])
def Xw:PC :=
 (R [0,3,13] [F 74 2 3,L 75 74,I 76 (C QA [(.s 75)]),F 77 2 3,N 1 77 76])
def Xx:PC :=
 (R [0,13] [M 78 0,I 79 (.nilck (.s 78)),F 80 2 79,L 81 80,M 82 13,T 83 3 3,J (.mupd 0 (.s 81) (.s 82) (.s 83))])
def Xy:PC :=
 (R [13] [M 84 0,I 85 (.nilck (.s 84)),F 86 3 85,L 87 86,W 88 .add 87 1,I 89 (.nilck (.s 84)),F 90 3 89,N 1 90 88])
def Xz:PC :=
 (R [4,5] [M 91 13,M 4 91,K 5 0])
def ZA8:PF:=⟨false,
 (D ZGe
 (D (D ZGf
 (E 16
 (D ZGg
 .ret)
 .skip))
 (D (D ZGh
 (D ZGi
 (E 20
 (D ZGj
 .ret)
 .skip)))
 (D (D ZGk
 (.block 0
 (.loop ZE1)))
 (D ZE2
 (D (D ZE3
 (E 72
 (D ZE4
 .ret)
 .skip))
 (D Xw
 (D Xx
 (D Xy
 (D Xz
 .ret)))))))))),
 [.s 4,.s 5]⟩
theorem ZI5:Zr Proofs.Tryz.prog false ZI4 Proofs.Tryz.f248=some ZA8:=by kernel_rfl
def ZbK:List Hint:=[H [0],H [0,2,3],H [2,3,4,5],H [2,3,4,5,6],H [2,3,4,5],H [2,3,4,5],H [2,3,4,5],H [2,3]]
def ZTy:PC :=
 (R [0] [K 2 0,K 3 0])
def ZTz:PC :=
 (R [0,2,3] [K 2 8,K 3 16])
def ZT0:PC :=
 (R [2,3,4,5] [M 4 0,K 5 0])
def ZT1:PC :=
 (R [2,3,4,5,6] [B 6 .lss 5 4])
def ZT2:PC :=
 (R [2,3,4,5] [M 7 2,W 8 .mul 7 2,M 2 8])
def ZT3:PC :=
 (R [2,3,4,5] [M 9 3,W 10 .mul 9 4,I 11 (.mnx false (.s 10) (V 65536)),M 3 11])
def ZT4:PC :=
 (R [2,3,4,5] [W 12 .add 5 1,M 5 12])
def ZT5:PC :=
 (D ZT1
 (D (E 6
 .skip
 (.exit 0))
 (D (.block 1
 (D ZT2
 ZT3))
 ZT4)))
def ZT6:PC :=
 (R [2,3] [M 13 2,M 14 3,I 15 (.mnx false (.s 14) (V 65536)),M 2 13,M 3 15])
def ZJS:PF:=⟨false,
 (D ZTy
 (D ZTz
 (D (D ZT0
 (.block 0
 (.loop ZT5)))
 (D ZT6
 .ret)))),
 [.s 2,.s 3]⟩
theorem ZbL:Zr Proofs.Tryz.prog false ZbK Proofs.Tryz.f254=some ZJS:=by kernel_rfl
def ZX8:List Hint:=[H [0],H [3,4],H [19],H [2],H [2]]
def ZQC:PC :=
 (R [0] [K 2 0])
def ZQD:PC :=
 (R [3,4] [M 6 0,I 7 (C ZCA [(.s 6)]),M 5 7,X 8 5 0,X 9 5 1,M 3 8,M 4 9])
def ZQE:PC :=
 (R [19] [M 10 3,W 11 .geq 10 16384,M 12 11,U 13 12 false 4,G 14 12 false (.bin .lss (.s 13) (.v (.int .u64 1))),I 15 (.pick (.s 12) (.v (.bool true)) (.s 14)),M 16 15,U 17 16 false 4,G 18 16 false (.bin .gtr (.s 17) (.v (.int .u64 4294967295))),I 19 (.pick (.s 16) (.v (.bool true)) (.s 18))])
def ZQF:PC :=
 (R [2] [K 2 2])
def ZQG:PC :=
 (R [2] [K 2 0])
def ZHy:PF:=⟨false,
 (D ZQC
 (D (D ZQD
 (D ZQE
 (E 19
 (D ZQF
 .ret)
 .skip)))
 (D ZQG
 .ret))),
 [.s 2]⟩
theorem ZX9:Zr Proofs.Tryz.prog false ZX8 Proofs.Tryz.f255=some ZHy:=by kernel_rfl
def ZT7:List Hint:=[H [],H [2]]
def ZNR:PC :=
 (R [] [I 2 (.mv (.v (.bool false)))])
def ZNS:PC :=
 (R [2] [I 2 (.mv (.v (.bool true)))])
def ZFj:PF:=⟨false,
 (D ZNR
 (D ZNS
 .ret)),
 [.s 2]⟩
theorem ZT8:Zr Proofs.Tryz.prog false ZT7 Proofs.Tryz.f256=some ZFj:=by kernel_rfl
def ZKq:List Hint:=[H [1,2],H [1,2,5],H [2],H [2]]
def ZHz:PC :=
 (R [1,2] [I 1 (.box (.s 0)),I 2 (.box (.v ZM))])
def ZH0:PC :=
 (R [1,2,5] [T 3 3 1,I 4 (.build [(.int .i64 0),(.int .i64 0),(.int .i64 0)] []),I 5 (.eqs false 0 [(0,0),(1,0),(2,0)] (.s 3) (.s 4))])
def ZH1:PC :=
 (R [2] [I 6 (.build [(.int .i64 0),(.int .i64 0),(.int .i64 0)] []),N 3 2 6])
def ZH2:PC :=
 (R [2] [I 7 (.ixA 3 1 (.s 1) (V 0)),L 8 7,I 9 (.ixA 3 1 (.s 1) (V 1)),L 10 9,I 11 (.ixA 3 1 (.s 1) (V 2)),L 12 11,I 13 (.build [(.int .i64 0),(.int .i64 0),(.int .i64 0)] [(0,1,(.s 8)),(1,1,(.s 10)),(2,1,(.s 12))]),N 3 2 13])
def ZCS:PF:=⟨false,
 (D ZHz
 (D (D ZH0
 (E 5
 (D ZH1
 .ret)
 .skip))
 (D ZH2
 .ret))),
 [.c 2 true 3]⟩
theorem ZKr:Zr Proofs.Tryz.prog false ZKq Proofs.Tryz.f257=some ZCS:=by kernel_rfl
def ZeM:List Hint:=[H [0,1],H [0,1,15],H [4,5],H [0,1,6],H [0,1,6,21],H [4,5],H [0,1,6,31],H [4,5],H [6,7],H [4,5]]
def ZYA:PC :=
 (R [0,1] [I 4 (.mv (.v .nils)),K 5 0])
def ZYB:PC :=
 (R [0,1,15] [M 8 0,I 9 (C Xv [(.s 8)]),I 10 (.un .not (.s 9)),M 11 10,U 12 11 false 1,G 13 11 false (C Xv [(.s 12)]),G 14 11 false (.un .not (.s 13)),I 15 (.pick (.s 11) (.v (.bool true)) (.s 14))])
def ZYC:PC :=
 (R [4,5] [I 4 (.mv (.v .nils)),K 5 2])
def ZYD:PC :=
 (R [0,1,6] [M 16 0,M 17 1,B 18 .add 16 17,M 6 18])
def ZYE:PC :=
 (R [0,1,6,21] [M 19 6,I 20 (.len 0 (.s 19)),W 21 .leq 20 16])
def ZYF:PC :=
 (R [4,5] [M 22 6,I 23 (.bslice false 1 [(.str [])] [(0,(.s 22))]),M 4 23,K 5 0])
def ZYG:PC :=
 (R [0,1,6,31] [M 24 0,I 25 (.len 0 (.s 24)),W 26 .geq 25 8,M 27 26,U 28 27 true 1,G 29 27 true (.len 0 (.s 28)),G 30 27 true (.bin .geq (.s 29) (V 8)),I 31 (.pick (.s 27) (.s 30) (.v (.bool false)))])
def ZYH:PC :=
 (R [4,5] [M 32 0,M 33 1,I 34 (.bslice false 1 [(.str []),(.str [])] [(0,(.s 32)),(1,(.s 33))]),M 4 34,K 5 0])
def ZYI:PC :=
 (R [6,7] [M 35 6,I 36 (.len 0 (.s 35)),W 37 .add 36 1,W 38 .quo 37 2,M 7 38])
def ZYJ:PC :=
 (R [4,5] [M 39 6,M 40 7,I 41 (.slcS (.s 39) none (some (.s 40))),M 42 6,M 43 7,I 44 (.slcS (.s 42) (some (.s 43)) none),I 45 (.bslice false 1 [(.str []),(.str [])] [(0,(.s 41)),(1,(.s 44))]),M 4 45,K 5 0])
def ZNT:PF:=⟨false,
 (D ZYA
 (D (D ZYB
 (E 15
 (D ZYC
 .ret)
 .skip))
 (D ZYD
 (D (D ZYE
 (E 21
 (D ZYF
 .ret)
 .skip))
 (D (D ZYG
 (E 31
 (D ZYH
 .ret)
 .skip))
 (D ZYI
 (D ZYJ
 .ret))))))),
 [.s 4,.s 5]⟩
theorem ZeN:Zr Proofs.Tryz.prog false ZeM Proofs.Tryz.f260=some ZNT:=by kernel_rfl
def ZH3:List Hint:=[H [0],H [0,6],H [2,3],H [0,12],H [2,3],H [0,4],H [0,4],H [0,4],H [2,3]]
def ZE5:PC :=
 (R [0] [I 2 (.mv (.v (.int .u64 0))),K 3 0])
def ZE6:PC :=
 (R [0,6] [M 5 0,I 6 (.eqs false 3 [] (.s 5) (.v .nilptr))])
def ZE7:PC :=
 (R [2,3] [I 2 (.mv (.v (.int .u64 0))),K 3 1])
def ZE8:PC :=
 (R [0,12] [M 7 0,I 8 (.nilck (.s 7)),F 9 0 8,L 10 9,I 11 (.len 1 (.s 10)),W 12 .eql 11 0])
def ZE9:PC :=
 (R [2,3] [I 2 (.mv (.v (.int .u64 0))),K 3 6])
def ZFA:PC :=
 (R [0,4] [M 13 0,I 14 (.nilck (.s 13)),F 15 0 14,L 16 15,M 17 0,I 18 (.nilck (.s 17)),F 19 0 18,L 20 19,I 21 (.len 1 (.s 20)),W 22 .sub 21 1,I 23 (.ixS 1 (.s 16) (.s 22)),L 24 23,M 4 24])
def ZFB:PC :=
 (R [0,4] [M 25 0,M 26 0,I 27 (.nilck (.s 26)),F 28 0 27,L 29 28,M 30 0,I 31 (.nilck (.s 30)),F 32 0 31,L 33 32,I 34 (.len 1 (.s 33)),W 35 .sub 34 1,I 36 (.slc 1 (.s 29) none (some (.s 35))),I 37 (.nilck (.s 25)),F 38 0 37,N 1 38 36])
def ZFC:PC :=
 (R [0,4] [M 39 0,I 40 (.nilck (.s 39)),F 41 1 40,L 42 41,M 43 4,I 44 (.ixS 1 (.s 42) (.s 43)),J (.st 1 (.s 44) (.v (.int .u8 1)))])
def ZFD:PC :=
 (R [2,3] [M 45 4,M 46 0,I 47 (.nilck (.s 46)),F 48 2 47,L 49 48,M 50 4,I 51 (.ixS 1 (.s 49) (.s 50)),L 52 51,I 53 (C ZC5 [(.s 45),(.s 52)]),X 54 53 0,X 55 53 1,M 2 54,M 3 55])
def ZAp:PF:=⟨false,
 (D ZE5
 (D (D ZE6
 (E 6
 (D ZE7
 .ret)
 .skip))
 (D (D ZE8
 (E 12
 (D ZE9
 .ret)
 .skip))
 (D ZFA
 (D ZFB
 (D ZFC
 (D ZFD
 .ret))))))),
 [.s 2,.s 3]⟩
theorem ZH4:Zr Proofs.Tryz.prog false ZH3 Proofs.Tryz.f261=some ZAp:=by kernel_rfl
def ZYK:List Hint:=[H [0],H [2,3]]
def ZQH:PC :=
 (R [0] [K 2 0,I 3 (.mv (.v (.int .u64 0)))])
def ZQI:PC :=
 (R [2,3] [M 4 0,I 5 (.bin .and (.s 4) (.v (.int .u64 65535))),I 6 (.cint .i64 (.s 5)),M 7 0,I 8 (.bin .shr (.s 7) (.v (.int .u64 16))),M 2 6,M 3 8])
def ZH5:PF:=⟨false,
 (D ZQH
 (D ZQI
 .ret)),
 [.s 2,.s 3]⟩
theorem ZYL:Zr Proofs.Tryz.prog false ZYK Proofs.Tryz.f263=some ZH5:=by kernel_rfl
end Go.Q15
