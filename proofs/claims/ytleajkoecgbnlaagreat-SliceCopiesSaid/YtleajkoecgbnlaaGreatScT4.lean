/- Resolved code, printed by program. No condition. -/
import Derived.Test.YtleajkoecgbnlaaGreatProg
import Derived.KernelRfl
import Derived.Test.YtleajkoecgbnlaaGreatScT3
set_option linter.unusedVariables false
set_option linter.unusedSimpArgs false
namespace Go.Q15
open Go Go.QAbs
set_option maxRecDepth 100000
abbrev Jy:FuncId:=5
abbrev Yv:FuncId:=14
abbrev Q9:FuncId:=15
abbrev YQ:FuncId:=16
abbrev Jv:FuncId:=17
abbrev ZBn:FuncId:=18
abbrev ZCQ:FuncId:=19
abbrev ZCR:FuncId:=21
abbrev ZEj:FuncId:=25
abbrev ZA7:FuncId:=26
abbrev Xx:FuncId:=27
abbrev Xy:FuncId:=28
abbrev ZAw:FuncId:=29
abbrev YC:FuncId:=30
abbrev Ye:FuncId:=31
abbrev Qi:FuncId:=32
abbrev XE:FuncId:=35
abbrev ZDC:FuncId:=57
abbrev ZCS:FuncId:=58
abbrev Xb:FuncId:=68
abbrev Xc:FuncId:=69
abbrev XF:FuncId:=70
abbrev YS:FuncId:=71
abbrev XG:FuncId:=72
abbrev ZG8:FuncId:=73
abbrev Y5:FuncId:=74
abbrev JP:FuncId:=75
abbrev XI:FuncId:=76
abbrev ZDU:FuncId:=77
abbrev J5:FuncId:=82
abbrev Qs:FuncId:=84
abbrev Xz:FuncId:=85
abbrev X3:FuncId:=86
abbrev ZAY:FuncId:=87
abbrev ZCT:FuncId:=88
abbrev ZDV:FuncId:=89
abbrev Xd:FuncId:=90
abbrev Yw:FuncId:=94
abbrev Jz:FuncId:=95
abbrev QS:FuncId:=111
abbrev ZEk:FuncId:=116
abbrev ZCU:FuncId:=126
abbrev X4:FuncId:=127
abbrev ZCV:FuncId:=134
abbrev Jk:FuncId:=135
abbrev YZ:FuncId:=136
abbrev Xn:FuncId:=137
abbrev J0:FuncId:=138
abbrev Qj:FuncId:=139
abbrev Y6:FuncId:=140
abbrev XQ:FuncId:=141
abbrev ZA8:FuncId:=142
abbrev J1:FuncId:=143
abbrev ZG9:FuncId:=144
abbrev ZDD:FuncId:=149
abbrev Qm:FuncId:=155
abbrev YG:FuncId:=156
abbrev Qb:FuncId:=157
abbrev Xe:FuncId:=158
abbrev Xf:FuncId:=159
abbrev ZHA:FuncId:=160
abbrev JU:FuncId:=161
abbrev YH:FuncId:=162
abbrev YI:FuncId:=163
abbrev Yf:FuncId:=164
abbrev Z6:FuncId:=179
abbrev ZHC:FuncId:=181
abbrev ZBo:FuncId:=182
abbrev XR:FuncId:=185
abbrev YJ:FuncId:=186
abbrev ZDW:FuncId:=188
abbrev ZCW:FuncId:=197
abbrev ZEl:FuncId:=198
abbrev QP:FuncId:=199
abbrev ZDX:FuncId:=201
abbrev Ya:FuncId:=203
abbrev ZBp:FuncId:=204
abbrev ZAZ:FuncId:=205
abbrev Qn:FuncId:=206
abbrev ZAm:FuncId:=207
abbrev Y7:FuncId:=208
abbrev ZHD:FuncId:=213
abbrev Yb:FuncId:=214
abbrev ZCX:FuncId:=219
abbrev ZA9:FuncId:=220
abbrev X5:FuncId:=221
abbrev ZCY:FuncId:=222
abbrev ZAn:FuncId:=223
abbrev X6:FuncId:=225
abbrev X7:FuncId:=226
abbrev Js:FuncId:=227
abbrev JQ:FuncId:=228
abbrev X8:FuncId:=229
abbrev ZAo:FuncId:=240
abbrev ZEm:FuncId:=241
abbrev ZDY:FuncId:=242
abbrev J2:FuncId:=243
abbrev ZDZ:FuncId:=245
abbrev ZDF:FuncId:=246
abbrev Y8:FuncId:=247
abbrev Jg:FuncId:=248
abbrev ZDa:FuncId:=254
abbrev ZCZ:FuncId:=255
abbrev XS:FuncId:=256
abbrev YT:FuncId:=257
abbrev ZEn:FuncId:=260
abbrev Yx:FuncId:=261
abbrev ZCa:FuncId:=263
abbrev I (d:Nat) (o:PO):PI:=⟨some d,none,false,o⟩
abbrev G (d g:Nat) (b:Bool) (o:PO):PI:=⟨some d,some (g,b),false,o⟩
abbrev J (o:PO):PI:=⟨none,none,false,o⟩
abbrev C (f:FuncId) (a:List Opd):PO:=.call .norm (.v (.func (.func f) [] [])) a
abbrev H (k:List Nat):Hint:=⟨k,[],[],[],[],[]⟩
abbrev V (i:Int):Opd:=.v (.int .i64 i)
abbrev M (d s:Nat):PI:=I d (.mv (.s s))
abbrev X (d s i:Nat):PI:=I d (.ext (.s s) i)
abbrev L (d s:Nat):PI:=I d (.ld false 1 (.s s))
abbrev T (d n s:Nat):PI:=I d (.ld true n (.s s))
abbrev F (d n s:Nat):PI:=I d (.fadr n (.s s))
abbrev U (d g:Nat) (b:Bool) (s:Nat):PI:=G d g b (.mv (.s s))
abbrev W (d:Nat) (o:BinOp) (s:Nat) (i:Int):PI:=I d (.bin o (.s s) (V i))
abbrev B (d:Nat) (o:BinOp) (s t:Nat):PI:=I d (.bin o (.s s) (.s t))
abbrev K (d:Nat) (i:Int):PI:=I d (.mv (V i))
abbrev N (n a x:Nat):PI:=J (.st n (.s a) (.s x))
abbrev E (c:Nat) (a b:PC):PC:=.ite (.s c) a b
abbrev D (a b:PC):PC:=.seq a b
abbrev R (k:List Nat) (l:List PI):PC:=.reg k l
abbrev ZT:AV:=.agg [(.int .u64 0),(.int .i64 0),(.int .i64 0),(.int .i64 0),(.int .i64 0),(.str []),.nils]
abbrev ZR:AV:=.agg [(.int .u64 0),(.int .i64 0),(.int .i64 0),(.int .i64 0),(.int .i64 0)]
abbrev ZM:AV:=.agg [(.int .i64 0),(.int .i64 0),(.int .i64 0)]
abbrev ZN:AV:=.agg [(.int .i64 0),(.str []),.nils]
abbrev ZK:AV:=.agg [(.int .u64 0),(.int .i64 0),(.int .i64 0),(.int .i64 0)]
def ZC0:List Hint:=[H [0,1,2,3,4],H [0,1,2,3,4,33],H [10],H [2,3,4,11,12,13,14],H [2,3,4,11,12,13,44],H [10],H [2,3,4,11,12,13,47],H [10],H [3,4,11,12,13,15],⟨[3,4,11,16,17],[],[],[],[(7,(.only (.s 13))),(9,(.off (.s 13))),(6,(.only (.s 13)))],[]⟩,H [3,4,11,16,17],H [3,4,11,16,17],H [3,4,11,16,17,18,19],H [3,4,11,16,17,18,19,20,21],H [3,4,11,16,17,18,19,20,21,87],H [10],H [3,4,11,16,17,18,19,20,21,22,23],H [3,4,11,16,17,18,19,20,21,22,23,24,25],H [3,4,11,16,17,18,19,20,21,22,23,24,25,26,27],H [11,16,17,18,20,24,141],H [10],⟨[11,16,17,18,20,24,148],[],[(4,.pure)],[],[],[]⟩,H [10],H [11,16,17,18,20,24,28],H [11,16,17,18,20,24,28,152],⟨[11,16,17,18,20,24,28,168],[],[(5,.pure)],[],[],[]⟩,H [10],H [11,16,17,18,20,24,28],H [11,16,17,20,24,29],H [11,16,17,20,24,29,173],H [11,16,17,20,24,29,183],H [10],H [11,16,17,20,24,29],H [16,19,30],H [10]]
def ZBq:PC :=
 (R [0,1,2,3,4] [I 10 (.mv (.v (.bool false)))])
def ZBr:PC :=
 (R [0,1,2,3,4,33] [M 31 0,M 32 1,I 33 (C Yv [(.s 31),(.s 32)])])
def ZBs:PC :=
 (R [10] [I 34 (C Q9 []),M 10 34])
def ZBt:PC :=
 (R [2,3,4,11,12,13,14] [M 36 0,M 37 1,I 38 (C YQ [(.s 36),(.s 37)]),M 35 38,X 39 35 0,X 40 35 1,X 41 35 2,X 42 35 3,M 11 39,M 12 40,M 13 41,M 14 42])
def ZBu:PC :=
 (R [2,3,4,11,12,13,44] [M 43 14,I 44 (.un .not (.s 43))])
def ZBv:PC :=
 (R [10] [I 10 (.mv (.v (.bool false)))])
def ZBw:PC :=
 (R [2,3,4,11,12,13,47] [M 45 12,I 46 (.len 1 (.s 45)),W 47 .eql 46 0])
def ZBx:PC :=
 (R [10] [I 48 (C Q9 []),M 10 48])
def ZBy:PC :=
 (R [3,4,11,12,13,15] [M 49 2,M 50 12,I 51 (.len 1 (.s 50)),W 52 .sub 51 1,I 53 (C Jv [(.s 49),(.s 52)]),M 15 53])
def ZBz:PC :=
 (R [3,4,11,16,17] [M 54 12,M 55 15,I 56 (.ixS 5 (.s 54) (.s 55)),T 57 5 56,M 58 13,M 59 15,I 60 (.w (.only (.s 13)) (.ixS 1 (.s 58) (.s 59))),I 61 (.w (.only (.s 13)) (.ld false 1 (.s 60))),I 16 (.box (.v ZR)),J (.w (.off (.s 13)) (.st 5 (.s 16) (.s 57))),M 17 61])
def ZBA:PC :=
 (R [3,4,11,16,17] [M 62 3,M 63 17,I 64 (.len 0 (.s 63)),I 65 (C Jv [(.s 62),(.s 64)]),M 3 65])
def ZBB:PC :=
 (R [3,4,11,16,17] [M 66 4,M 67 17,I 68 (.len 0 (.s 67)),M 69 3,B 70 .sub 68 69,I 71 (C Jv [(.s 66),(.s 70)]),M 4 71])
def ZBC:PC :=
 (R [3,4,11,16,17,18,19] [M 73 11,T 74 5 16,I 75 (C Xx [(.s 73),(.s 74)]),M 72 75,X 76 72 0,X 77 72 1,M 18 76,M 19 77])
def ZBD:PC :=
 (R [3,4,11,16,17,18,19,20,21] [M 79 11,T 80 5 16,M 81 3,M 82 4,I 83 (C Xy [(.s 79),(.s 80),(.s 81),(.s 82)]),M 78 83,X 84 78 0,X 85 78 1,I 20 (.box (.v (.agg [(.int .u64 0),(.int .i64 0),(.int .i64 0),(.int .i64 0),(.int .i64 0),.nils,.nils]))),N 7 20 84,M 21 85])
def ZBE:PC :=
 (R [3,4,11,16,17,18,19,20,21,87] [M 86 21,W 87 .eql 86 6])
def ZBF:PC :=
 (R [10] [I 88 (C Q9 []),M 10 88])
def ZBG:PC :=
 (R [3,4,11,16,17,18,19,20,21,22,23] [M 90 11,F 91 0 20,T 92 5 91,I 93 (C ZAw [(.s 90),(.s 92)]),M 89 93,X 94 89 0,X 95 89 1,M 22 94,M 23 95])
def ZBH:PC :=
 (R [3,4,11,16,17,18,19,20,21,22,23,24,25] [M 97 11,F 98 0 20,T 99 5 98,I 100 (C Xx [(.s 97),(.s 99)]),M 96 100,X 101 96 0,X 102 96 1,M 24 101,M 25 102])
def ZBI:PC :=
 (R [3,4,11,16,17,18,19,20,21,22,23,24,25,26,27] [M 104 11,T 105 5 16,I 106 (C ZAw [(.s 104),(.s 105)]),M 103 106,X 107 103 0,X 108 103 1,M 26 107,M 27 108])
def ZBJ:PC :=
 (R [11,16,17,18,20,24,141] [M 109 19,W 110 .neq 109 0,M 111 110,U 112 111 false 21,G 113 111 false (.bin .neq (.s 112) (V 0)),I 114 (.pick (.s 111) (.v (.bool true)) (.s 113)),M 115 114,U 116 115 false 23,G 117 115 false (.bin .neq (.s 116) (V 0)),I 118 (.pick (.s 115) (.v (.bool true)) (.s 117)),M 119 118,U 120 119 false 25,G 121 119 false (.bin .neq (.s 120) (V 0)),I 122 (.pick (.s 119) (.v (.bool true)) (.s 121)),M 123 122,U 124 123 false 27,G 125 123 false (.bin .neq (.s 124) (V 0)),I 126 (.pick (.s 123) (.v (.bool true)) (.s 125)),M 127 126,U 128 127 false 22,U 129 127 false 17,U 130 127 false 3,U 131 127 false 3,U 132 127 false 4,G 133 127 false (.bin .add (.s 131) (.s 132)),G 134 127 false (.slcS (.s 129) (some (.s 130)) (some (.s 133))),G 135 127 false (.bin .neq (.s 128) (.s 134)),I 136 (.pick (.s 127) (.v (.bool true)) (.s 135)),M 137 136,U 138 137 false 26,U 139 137 false 17,G 140 137 false (.bin .neq (.s 138) (.s 139)),I 141 (.pick (.s 137) (.v (.bool true)) (.s 140))])
def ZBK:PC :=
 (R [10] [I 10 (.mv (.v (.bool false)))])
def ZBL:PC :=
 (R [11,16,17,18,20,24,148] [F 142 6 20,L 143 142,M 144 18,M 145 24,I 146 (.call .pure (.v (.func (.func Ye) [] [])) [(.s 144),(.s 145)]),I 147 (C YC [(.s 143),(.s 146)]),I 148 (.un .not (.s 147))])
def ZBM:PC :=
 (R [10] [I 10 (.mv (.v (.bool false)))])
def ZBN:PC :=
 (R [11,16,17,18,20,24,28] [K 28 0])
def ZBO:PC :=
 (R [11,16,17,18,20,24,28,152] [M 149 28,M 150 24,I 151 (.len 1 (.s 150)),B 152 .lss 149 151])
def ZBP:PC :=
 (R [11,16,17,18,20,24,28,168] [M 155 18,M 156 24,M 157 28,I 158 (.ixS 1 (.s 156) (.s 157)),L 159 158,I 160 (.call .pure (.v (.func (.func Qi) [] [])) [(.s 155),(.s 159)]),F 161 5 20,L 162 161,M 163 24,M 164 28,I 165 (.ixS 1 (.s 163) (.s 164)),L 166 165,I 167 (C Qi [(.s 162),(.s 166)]),I 168 (.eqs false 6 [] (.s 160) (.s 167))])
def ZBQ:PC :=
 (R [10] [I 10 (.mv (.v (.bool false)))])
def ZBR:PC :=
 (R [11,16,17,18,20,24,28] [M 153 28,W 154 .add 153 1,M 28 154])
def p_quartolaw18_SliceCopies_28:PC :=
 (D (D ZBO
 (E 152
 .skip
 (.exit 0)))
 (D (.block 1
 (D ZBP
 (E 168
 (D ZBQ
 .ret)
 .skip)))
 ZBR))
def ZBS:PC :=
 (R [11,16,17,20,24,29] [K 29 0])
def ZBT:PC :=
 (R [11,16,17,20,24,29,173] [M 169 29,F 170 5 20,L 171 170,I 172 (.len 1 (.s 171)),B 173 .lss 169 172])
def ZBU:PC :=
 (R [11,16,17,20,24,29,183] [M 176 24,F 177 5 20,L 178 177,M 179 29,I 180 (.ixS 1 (.s 178) (.s 179)),L 181 180,I 182 (C Qi [(.s 176),(.s 181)]),I 183 (.un .not (.s 182))])
def ZBV:PC :=
 (R [10] [I 10 (.mv (.v (.bool false)))])
def ZBW:PC :=
 (R [11,16,17,20,24,29] [M 174 29,W 175 .add 174 1,M 29 175])
def p_quartolaw18_SliceCopies_34:PC :=
 (D (D ZBT
 (E 173
 .skip
 (.exit 2)))
 (D (.block 3
 (D ZBU
 (E 183
 (D ZBV
 .ret)
 .skip)))
 ZBW))
def ZBX:PC :=
 (R [16,19,30] [M 185 11,T 186 5 16,M 187 17,I 188 (.len 0 (.s 187)),I 189 (C Xy [(.s 185),(.s 186),(V 0),(.s 188)]),M 184 189,X 190 184 0,X 191 184 1,I 30 (.box (.v (.agg [(.int .u64 0),(.int .i64 0),(.int .i64 0),(.int .i64 0),(.int .i64 0),.nils,.nils]))),N 7 30 190,M 19 191])
def ZBY:PC :=
 (R [10] [M 192 19,W 193 .eql 192 0,M 194 193,G 195 194 true (.fadr 0 (.s 30)),G 196 194 true (.ld true 5 (.s 195)),G 197 194 true (.ld true 5 (.s 16)),G 198 194 true (.eqs false 0 [(0,0),(1,0),(2,0),(3,0),(4,0)] (.s 196) (.s 197)),I 199 (.pick (.s 194) (.s 198) (.v (.bool false))),M 200 199,G 201 200 true (.fadr 5 (.s 30)),G 202 200 true (.ld false 1 (.s 201)),G 203 200 true (.len 1 (.s 202)),G 204 200 true (.fadr 6 (.s 30)),G 205 200 true (.ld false 1 (.s 204)),G 206 200 true (.len 1 (.s 205)),G 207 200 true (.bin .add (.s 203) (.s 206)),G 208 200 true (.bin .eql (.s 207) (V 0)),I 209 (.pick (.s 200) (.s 208) (.v (.bool false))),M 210 209,G 211 210 true (C Q9 []),I 212 (.pick (.s 210) (.s 211) (.v (.bool false))),M 10 212])
def XA:PF:=⟨false,
 (D ZBq
 (D (D ZBr
 (E 33
 (D ZBs
 .ret)
 .skip))
 (D ZBt
 (D (D ZBu
 (E 44
 (D ZBv
 .ret)
 .skip))
 (D (D ZBw
 (E 47
 (D ZBx
 .ret)
 .skip))
 (D ZBy
 (D ZBz
 (D ZBA
 (D ZBB
 (D ZBC
 (D ZBD
 (D (D ZBE
 (E 87
 (D ZBF
 .ret)
 .skip))
 (D ZBG
 (D ZBH
 (D ZBI
 (D (D ZBJ
 (E 141
 (D ZBK
 .ret)
 .skip))
 (D (D ZBL
 (E 148
 (D ZBM
 .ret)
 .skip))
 (D (D ZBN
 (.block 0
 (.loop p_quartolaw18_SliceCopies_28)))
 (D (D ZBS
 (.block 2
 (.loop p_quartolaw18_SliceCopies_34)))
 (D ZBX
 (D ZBY
 .ret))))))))))))))))))))),
 [.s 10]⟩
theorem ZC1:Zr Proofs.Tryz.prog false ZC0 Proofs.Tryz.f5=some XA:=by kernel_rfl
def ZHF:List Hint:=[H [0,1],H [4]]
def ZEo:PC :=
 (R [0,1] [I 4 (.mv (.v (.bool false)))])
def ZEp:PC :=
 (R [4] [M 5 0,I 6 (C Xb [(.s 5)]),M 7 6,U 8 7 false 1,G 9 7 false (C Xc [(.s 8)]),I 10 (.pick (.s 7) (.v (.bool true)) (.s 9)),M 11 10,U 12 11 false 1,G 13 11 false (.len 1 (.s 12)),G 14 11 false (.bin .gtr (.s 13) (V 12)),I 15 (.pick (.s 11) (.v (.bool true)) (.s 14)),M 4 15])
def ZAx:PF:=⟨false,
 (D ZEo
 (D ZEp
 .ret)),
 [.s 4]⟩
theorem ZHG:Zr Proofs.Tryz.prog false ZHF Proofs.Tryz.f14=some ZAx:=by kernel_rfl
def ZI3:List Hint:=[H [],H [1,2,3],H [1,2,15],H [0],H [1,2,4,5],H [4,5,6,7,8],H [0]]
def ZF2:PC :=
 (R [] [I 0 (.mv (.v (.bool false)))])
def ZF3:PC :=
 (R [1,2,3] [I 10 (C XF []),M 9 10,X 11 9 0,X 12 9 1,X 13 9 2,I 2 (.box (.v ZR)),M 1 11,N 5 2 12,M 3 13])
def ZF4:PC :=
 (R [1,2,15] [M 14 3,I 15 (.un .not (.s 14))])
def ZF5:PC :=
 (R [0] [I 0 (.mv (.v (.bool false)))])
def ZF6:PC :=
 (R [1,2,4,5] [M 17 1,T 18 5 2,I 19 (C ZBn [(.s 17),(.s 18),(V 7),(V 4)]),M 16 19,X 20 16 0,X 21 16 1,M 4 20,M 5 21])
def ZF7:PC :=
 (R [4,5,6,7,8] [M 23 1,T 24 5 2,I 25 (C ZEj [(.s 23),(.s 24),(.v (.str [105,106])),(V 0)]),M 22 25,X 26 22 0,X 27 22 1,X 28 22 2,M 6 26,M 7 27,M 8 28])
def ZF8:PC :=
 (R [0] [M 29 5,W 30 .eql 29 0,M 31 30,U 32 31 true 8,G 33 31 true (.bin .eql (.s 32) (V 0)),I 34 (.pick (.s 31) (.s 33) (.v (.bool false))),M 35 34,U 36 35 true 4,G 37 35 true (.bin .eql (.s 36) (.v (.str [104,105,106,107]))),I 38 (.pick (.s 35) (.s 37) (.v (.bool false))),M 39 38,U 40 39 true 6,G 41 39 true (.bin .eql (.s 40) (V 8)),I 42 (.pick (.s 39) (.s 41) (.v (.bool false))),M 43 42,U 44 43 true 7,I 45 (.pick (.s 43) (.s 44) (.v (.bool false))),M 0 45])
def ZBa:PF:=⟨false,
 (D ZF2
 (D ZF3
 (D (D ZF4
 (E 15
 (D ZF5
 .ret)
 .skip))
 (D ZF6
 (D ZF7
 (D ZF8
 .ret)))))),
 [.s 0]⟩
theorem ZI4:Zr Proofs.Tryz.prog false ZI3 Proofs.Tryz.f15=some ZBa:=by kernel_rfl
def ZKG:List Hint:=[H [0,1],H [0,1,8,9,10],H [0,1,8,9,26],H [4,5,6,7],H [1,8,9,11],H [1,8,9,11,12],H [1,8,9,11,12,33],H [1,8,9,11,12,13,14],H [1,8,9,11,12,13,48],H [4,5,6,7],H [1,8,9,11,12,13,15,16],H [1,8,9,11,12,13,15,58],H [4,5,6,7],H [1,8,9,11,12,15,16,17],H [1,8,9,11,12,15,16,17,69],H [1,8,9,11,12,15,17,71],H [4,5,6,7],H [1,8,9,11,12,15],H [1,8,9,11,12],H [1,8,9,11,12],H [4,5,6,7]]
def ZHH:PC :=
 (R [0,1] [I 4 (.mv (.v .nilptr)),I 5 (.mv (.v .nils)),I 6 (.mv (.v .nils)),I 7 (.mv (.v (.bool false)))])
def ZHI:PC :=
 (R [0,1,8,9,10] [M 20 0,I 21 (C YS [(.s 20)]),M 19 21,X 22 19 0,X 23 19 1,X 24 19 2,M 8 22,M 9 23,M 10 24])
def ZHJ:PC :=
 (R [0,1,8,9,26] [M 25 10,I 26 (.un .not (.s 25))])
def ZHK:PC :=
 (R [4,5,6,7] [I 4 (.mv (.v .nilptr)),I 5 (.mv (.v .nils)),I 6 (.mv (.v .nils)),I 7 (.mv (.v (.bool false)))])
def ZHL:PC :=
 (R [1,8,9,11] [I 27 (.bslice false 1 [] []),M 28 0,I 29 (.app 1 16 (.s 27) (.s 28)),M 11 29])
def ZHM:PC :=
 (R [1,8,9,11,12] [K 12 0])
def ZHN:PC :=
 (R [1,8,9,11,12,33] [M 30 12,M 31 1,I 32 (.len 1 (.s 31)),B 33 .lss 30 32])
def ZHO:PC :=
 (R [1,8,9,11,12,13,14] [M 37 8,M 38 9,M 39 1,M 40 12,M 41 12,W 42 .add 41 1,I 43 (.slc 5 (.s 39) (some (.s 40)) (some (.s 42))),I 44 (C XG [(.s 37),(.s 38),(.s 43)]),M 36 44,X 45 36 0,X 46 36 1,M 13 45,M 14 46])
def ZHP:PC :=
 (R [1,8,9,11,12,13,48] [M 47 14,I 48 (.un .not (.s 47))])
def ZHQ:PC :=
 (R [4,5,6,7] [I 4 (.mv (.v .nilptr)),I 5 (.mv (.v .nils)),I 6 (.mv (.v .nils)),I 7 (.mv (.v (.bool false)))])
def ZF9:PC :=
 (R [1,8,9,11,12,13,15,16] [M 50 8,M 51 13,I 52 (.ixS 7 (.s 51) (V 0)),T 53 7 52,I 54 (C ZG8 [(.s 50),(.s 53)]),M 49 54,X 55 49 0,X 56 49 1,M 15 55,M 16 56])
def ZGA:PC :=
 (R [1,8,9,11,12,13,15,58] [M 57 16,W 58 .neq 57 0])
def ZGB:PC :=
 (R [4,5,6,7] [I 4 (.mv (.v .nilptr)),I 5 (.mv (.v .nils)),I 6 (.mv (.v .nils)),I 7 (.mv (.v (.bool false)))])
def ZGC:PC :=
 (R [1,8,9,11,12,15,16,17] [M 60 8,M 61 13,I 62 (.ixS 7 (.s 61) (V 0)),T 63 7 62,I 64 (C Y5 [(.s 60),(.s 63)]),M 59 64,X 65 59 0,X 66 59 1,X 67 59 2,I 17 (.box (.v ZR)),N 5 17 65,M 18 66,M 16 67])
def ZGD:PC :=
 (R [1,8,9,11,12,15,16,17,69] [M 68 16,W 69 .eql 68 6])
def ZGE:PC :=
 (R [1,8,9,11,12,15,17,71] [M 70 16,W 71 .neq 70 0])
def ZGF:PC :=
 (R [4,5,6,7] [I 4 (.mv (.v .nilptr)),I 5 (.mv (.v .nils)),I 6 (.mv (.v .nils)),I 7 (.mv (.v (.bool false)))])
def ZGG:PC :=
 (R [1,8,9,11,12,15] [M 72 9,T 73 5 17,I 74 (.bslice false 5 [ZR] [(0,(.s 73))]),I 75 (.app 5 40 (.s 72) (.s 74)),M 9 75])
def ZGH:PC :=
 (R [1,8,9,11,12] [M 76 11,M 77 15,I 78 (.bslice false 1 [(.str [])] [(0,(.s 77))]),I 79 (.app 1 16 (.s 76) (.s 78)),M 11 79])
def ZGI:PC :=
 (R [1,8,9,11,12] [M 34 12,W 35 .add 34 1,M 12 35])
def ZGJ:PC :=
 (D (D ZHN
 (E 33
 .skip
 (.exit 0)))
 (D (.block 1
 (D ZHO
 (D (D ZHP
 (E 48
 (D ZHQ
 .ret)
 .skip))
 (D ZF9
 (D (D ZGA
 (E 58
 (D ZGB
 .ret)
 .skip))
 (D ZGC
 (D (D ZGD
 (E 69
 (.exit 1)
 .skip))
 (D (D ZGE
 (E 71
 (D ZGF
 .ret)
 .skip))
 (D ZGG
 ZGH)))))))))
 ZGI))
def ZGK:PC :=
 (R [4,5,6,7] [M 80 8,M 81 9,M 82 11,M 4 80,M 5 81,M 6 82,I 7 (.mv (.v (.bool true)))])
def Xg:PF:=⟨true,
 (D ZHH
 (D ZHI
 (D (D ZHJ
 (E 26
 (D ZHK
 .ret)
 .skip))
 (D ZHL
 (D (D ZHM
 (.block 0
 (.loop ZGJ)))
 (D ZGK
 .ret)))))),
 [.s 4,.s 5,.s 6,.s 7]⟩
theorem ZKH:Zr Proofs.Tryz.prog true ZKG Proofs.Tryz.f16=some Xg:=by kernel_rfl
def ZKI:List Hint:=[H [0,1],H [4]]
def ZHR:PC :=
 (R [0,1] [K 4 0])
def ZHS:PC :=
 (R [4] [M 5 0,M 6 1,I 7 (C JP [(.s 5),(.s 6)]),M 4 7])
def ZCb:PF:=⟨false,
 (D ZHR
 (D ZHS
 .ret)),
 [.s 4]⟩
theorem ZKJ:Zr Proofs.Tryz.prog false ZKI Proofs.Tryz.f17=some ZCb:=by kernel_rfl
def ZeF:List Hint:=[H [0,2,3,5],H [10,11],H [8,9]]
def ZVr:PC :=
 (R [0,2,3,5] [I 5 (.box (.s 1)),I 8 (.mv (.v (.str []))),K 9 0])
def ZVs:PC :=
 (R [10,11] [M 13 0,T 14 5 5,M 15 2,M 16 3,I 17 (C ZCQ [(.s 13),(.s 14),(.s 15),(.s 16)]),M 12 17,X 18 12 0,X 19 12 1,M 10 18,M 11 19])
def ZVt:PC :=
 (R [8,9] [M 20 10,I 21 (C ZCR [(.s 20),(.v (.str []))]),M 22 11,M 8 21,M 9 22])
def ZLk:PF:=⟨false,
 (D ZVr
 (D ZVs
 (D ZVt
 .ret))),
 [.s 8,.s 9]⟩
theorem ZeG:Zr Proofs.Tryz.prog false ZeF Proofs.Tryz.f18=some ZLk:=by kernel_rfl
def ZVu:List Hint:=[H [0,2,3,5,28,29],H [0,2,3,5,10,28,29],H [0,2,3,5,10,21,28,29],H [8,9],⟨[0,2,3,5,11,28,29],[0],[],[],[],[]⟩,H [0,2,3,5,11,12,28,29],H [11,12,27,28,29],H [11,12,13,29],H [11,12,13,14],H [11,12,13,14,31],H [11,12],H [11,12],H [8,9]]
def ZOZ:PC :=
 (R [0,2,3,5,28,29] [I 5 (.box (.s 1)),I 8 (.mv (.v .nils)),K 9 0])
def ZOa:PC :=
 (R [0,2,3,5,10,28,29] [M 15 0,T 16 5 5,M 17 2,M 18 3,I 19 (C XI [(.s 15),(.s 16),(.s 17),(.s 18)]),M 10 19])
def ZOb:PC :=
 (R [0,2,3,5,10,21,28,29] [M 20 10,W 21 .neq 20 0])
def ZOc:PC :=
 (R [8,9] [M 22 10,I 8 (.mv (.v .nils)),M 9 22])
def ZOd:PC :=
 (R [0,2,3,5,11,28,29] [I 11 (.boxnil 1)])
def ZOe:PC :=
 (R [0,2,3,5,11,12,28,29] [I 12 (.box (V 0)),J (.st 1 (.s 12) (V 0))])
def ZOf:PC :=
 (R [11,12,27,28,29] [M 23 0,T 24 5 5,M 25 2,M 26 3,I 27 (C ZDU [(.s 23),(.s 24),(.s 25),(.s 26)])])
def ZOg:PC :=
 (R [11,12,13,29] [M 13 28])
def ZOh:PC :=
 (R [11,12,13,14] [M 14 29])
def ZOi:PC :=
 (R [11,12,13,14,31] [M 30 14,W 31 .neq 30 0])
def ZLl:PC :=
 (R [11,12] [M 32 14,J (.st 1 (.s 11) (.v .nils)),N 1 12 32])
def ZLm:PC :=
 (R [11,12] [L 33 11,M 34 13,I 35 (.bslice false 1 [(.str [])] [(0,(.s 34))]),I 36 (.app 1 16 (.s 33) (.s 35)),N 1 11 36])
def ZLn:PC :=
 (R [8,9] [L 37 11,L 38 12,M 8 37,M 9 38])
def p_slice_Pieces:RF:=⟨39,
 (D ZOZ
 (D (D ZOa
 (D ZOb
 (E 21
 (D ZOc
 .ret)
 .skip)))
 (D ZOd
 (D ZOe
 (D .skip
 (D ZOf
 .skip)))))),
 ⟨(.s 27),[28,29],
 (D ZOg
 ZOh),
 (.block 1
 (D (D ZOi
 (E 31
 (D ZLl
 (.exit 0))
 .skip))
 ZLm))⟩,
 (D .skip
 (D ZLn
 .ret)),
 [.s 8,.s 9]⟩
theorem ZVv:ZOT Proofs.Tryz.prog ZVu Proofs.Tryz.f19=some p_slice_Pieces:=by kernel_rfl
def ZeH:List Hint:=[H [0,2,3,5],H [0,2,3,5,11],H [0,2,3,5,11,20],H [8,9,10],H [2,3,12,13],H [2,3,12,13,35],H [8,9,10],H [3,14],H [3,14,41],H [8,9,10],H [8,9,10]]
def ZVw:PC :=
 (R [0,2,3,5] [I 5 (.box (.s 1)),K 8 0,I 9 (.mv (.v (.bool false))),K 10 0])
def ZVx:PC :=
 (R [0,2,3,5,11] [M 15 0,T 16 5 5,M 17 3,I 18 (C XI [(.s 15),(.s 16),(.s 17),(V 0)]),M 11 18])
def ZVy:PC :=
 (R [0,2,3,5,11,20] [M 19 11,W 20 .neq 19 0])
def ZVz:PC :=
 (R [8,9,10] [M 21 11,K 8 0,I 9 (.mv (.v (.bool false))),M 10 21])
def ZV0:PC :=
 (R [2,3,12,13] [M 23 0,T 24 5 5,M 25 3,F 26 2 5,F 27 0 26,L 28 27,M 29 3,B 30 .sub 28 29,I 31 (C ZBn [(.s 23),(.s 24),(.s 25),(.s 30)]),M 22 31,X 32 22 0,X 33 22 1,M 12 32,M 13 33])
def ZV1:PC :=
 (R [2,3,12,13,35] [M 34 13,W 35 .neq 34 0])
def ZV2:PC :=
 (R [8,9,10] [M 36 13,K 8 0,I 9 (.mv (.v (.bool false))),M 10 36])
def ZV3:PC :=
 (R [3,14] [M 37 12,M 38 2,I 39 (C ZA7 [(.s 37),(.s 38)]),M 14 39])
def ZV4:PC :=
 (R [3,14,41] [M 40 14,W 41 .lss 40 0])
def ZV5:PC :=
 (R [8,9,10] [K 8 0,I 9 (.mv (.v (.bool false))),K 10 0])
def ZRc:PC :=
 (R [8,9,10] [M 42 3,M 43 14,B 44 .add 42 43,M 8 44,I 9 (.mv (.v (.bool true))),K 10 0])
def ZLo:PF:=⟨false,
 (D ZVw
 (D (D ZVx
 (D ZVy
 (E 20
 (D ZVz
 .ret)
 .skip)))
 (D ZV0
 (D (D ZV1
 (E 35
 (D ZV2
 .ret)
 .skip))
 (D ZV3
 (D (D ZV4
 (E 41
 (D ZV5
 .ret)
 .skip))
 (D ZRc
 .ret))))))),
 [.s 8,.s 9,.s 10]⟩
theorem ZeI:Zr Proofs.Tryz.prog false ZeH Proofs.Tryz.f25=some ZLo:=by kernel_rfl
def ZRd:List Hint:=[H [0,1],H [4]]
def ZLp:PC :=
 (R [0,1] [K 4 0])
def ZLq:PC :=
 (R [4] [M 5 0,M 6 1,I 7 (C Qs [(.s 5),(.s 6)]),M 4 7])
def ZFk:PF:=⟨false,
 (D ZLp
 (D ZLq
 .ret)),
 [.s 4]⟩
theorem ZRe:Zr Proofs.Tryz.prog false ZRd Proofs.Tryz.f26=some ZFk:=by kernel_rfl
def ZeJ:List Hint:=[H [0,3,20],H [0,3,6,20],H [0,3,6,14,20],H [4,5],⟨[0,3,7,20],[0],[],[],[],[]⟩,H [0,3,7,8,20],H [7,8,19,20],H [7,8,9],H [7,8,9,25],H [7,9],H [7],H [4,5]]
def ZV6:PC :=
 (R [0,3,20] [I 3 (.box (.s 1)),I 4 (.mv (.v .nils)),K 5 0])
def ZV7:PC :=
 (R [0,3,6,20] [M 10 0,T 11 5 3,I 12 (C Xz [(.s 10),(.s 11)]),M 6 12])
def ZV8:PC :=
 (R [0,3,6,14,20] [M 13 6,W 14 .neq 13 0])
def ZV9:PC :=
 (R [4,5] [M 15 6,I 4 (.mv (.v .nils)),M 5 15])
def ZWA:PC :=
 (R [0,3,7,20] [I 7 (.boxnil 1)])
def ZWB:PC :=
 (R [0,3,7,8,20] [I 16 (.mkmap),I 8 (.box (.v .nilmap)),N 1 8 16])
def ZWC:PC :=
 (R [7,8,19,20] [M 17 0,T 18 5 3,I 19 (C X3 [(.s 17),(.s 18)])])
def ZWD:PC :=
 (R [7,8,9] [M 9 20])
def ZWE:PC :=
 (R [7,8,9,25] [L 22 8,M 23 9,I 24 (.look 0 (.bool false) false (.s 22) (.s 23)),I 25 (.un .not (.s 24))])
def ZWF:PC :=
 (R [7,9] [L 26 8,M 27 9,J (.mupd 0 (.s 26) (.s 27) (.v (.bool true)))])
def ZRf:PC :=
 (R [7] [L 28 7,M 29 9,I 30 (.bslice false 1 [(.int .u64 0)] [(0,(.s 29))]),I 31 (.app 1 8 (.s 28) (.s 30)),N 1 7 31])
def ZRg:PC :=
 (R [4,5] [L 32 7,M 4 32,K 5 0])
def p_rope_Nodes:RF:=⟨33,
 (D ZV6
 (D (D ZV7
 (D ZV8
 (E 14
 (D ZV9
 .ret)
 .skip)))
 (D ZWA
 (D ZWB
 (D ZWC
 .skip))))),
 ⟨(.s 19),[20,21],
 ZWD,
 (.block 1
 (D ZWE
 (E 25
 (D ZWF
 ZRf)
 .skip)))⟩,
 (D .skip
 (D ZRg
 .ret)),
 [.s 4,.s 5]⟩
theorem ZeK:ZOT Proofs.Tryz.prog ZeJ Proofs.Tryz.f27=some p_rope_Nodes:=by kernel_rfl
def ZeL:List Hint:=[H [0,2,3,5,8],H [0,2,3,5,8,10],H [0,2,3,5,8,10,26],H [8,9],H [0,2,3,5,8,11,12],H [0,2,3,5,8,11,12,36],H [8,9],H [0,3,5,8,12,14],H [0,3,5,8,12,14,48],H [8,9],H [0,5,8,12,15],H [0,5,8,12,15,60],H [8,9],H [0,8,12,15,17],H [0,8,12,15,17,71],H [8,9],H [8,12,17,18,19],H [8,12,17,18,19,82],H [8,9],H [8,9]]
def ZWG:PC :=
 (R [0,2,3,5,8] [I 5 (.box (.s 1)),I 8 (.box (.v (.agg [(.int .u64 0),(.int .i64 0),(.int .i64 0),(.int .i64 0),(.int .i64 0),.nils,.nils]))),K 9 0])
def ZWH:PC :=
 (R [0,2,3,5,8,10] [M 20 0,T 21 5 5,M 22 2,M 23 3,I 24 (C XI [(.s 20),(.s 21),(.s 22),(.s 23)]),M 10 24])
def ZWI:PC :=
 (R [0,2,3,5,8,10,26] [M 25 10,W 26 .neq 25 0])
def ZWJ:PC :=
 (R [8,9] [I 27 (.build [(.int .u64 0),(.int .i64 0),(.int .i64 0),(.int .i64 0),(.int .i64 0),.nils,.nils] []),M 28 10,N 7 8 27,M 9 28])
def ZWK:PC :=
 (R [0,2,3,5,8,11,12] [M 30 0,T 31 5 5,I 32 (C J5 [(.s 30),(.s 31)]),M 29 32,X 33 29 0,X 34 29 1,I 11 (.box (.v ZT)),N 7 11 33,M 12 34])
def ZWL:PC :=
 (R [0,2,3,5,8,11,12,36] [M 35 12,W 36 .neq 35 0])
def ZWM:PC :=
 (R [8,9] [I 37 (.build [(.int .u64 0),(.int .i64 0),(.int .i64 0),(.int .i64 0),(.int .i64 0),.nils,.nils] []),M 38 12,N 7 8 37,M 9 38])
def ZWN:PC :=
 (R [0,3,5,8,12,14] [M 40 0,T 41 7 11,M 42 2,I 43 (C ZAY [(.s 40),(.s 41),(.s 42)]),M 39 43,X 44 39 0,X 45 39 1,X 46 39 2,I 13 (.box (.v ZT)),I 14 (.box (.v ZT)),N 7 13 44,N 7 14 45,M 12 46])
def ZWO:PC :=
 (R [0,3,5,8,12,14,48] [M 47 12,W 48 .neq 47 0])
def ZWP:PC :=
 (R [8,9] [I 49 (.build [(.int .u64 0),(.int .i64 0),(.int .i64 0),(.int .i64 0),(.int .i64 0),.nils,.nils] []),M 50 12,N 7 8 49,M 9 50])
def ZRh:PC :=
 (R [0,5,8,12,15] [M 52 0,T 53 7 14,M 54 3,I 55 (C ZAY [(.s 52),(.s 53),(.s 54)]),M 51 55,X 56 51 0,X 57 51 1,X 58 51 2,I 15 (.box (.v ZT)),I 16 (.box (.v ZT)),N 7 15 56,N 7 16 57,M 12 58])
def ZRi:PC :=
 (R [0,5,8,12,15,60] [M 59 12,W 60 .neq 59 0])
def ZRj:PC :=
 (R [8,9] [I 61 (.build [(.int .u64 0),(.int .i64 0),(.int .i64 0),(.int .i64 0),(.int .i64 0),.nils,.nils] []),M 62 12,N 7 8 61,M 9 62])
def ZRk:PC :=
 (R [0,8,12,15,17] [M 64 0,T 65 5 5,T 66 7 15,I 67 (C ZCT [(.s 64),(.s 65),(.s 66)]),M 63 67,X 68 63 0,X 69 63 1,M 17 68,M 12 69])
def ZRl:PC :=
 (R [0,8,12,15,17,71] [M 70 12,W 71 .neq 70 0])
def ZRm:PC :=
 (R [8,9] [I 72 (.build [(.int .u64 0),(.int .i64 0),(.int .i64 0),(.int .i64 0),(.int .i64 0),.nils,.nils] []),M 73 12,N 7 8 72,M 9 73])
def ZRn:PC :=
 (R [8,12,17,18,19] [M 75 0,T 76 7 15,I 77 (C Y5 [(.s 75),(.s 76)]),M 74 77,X 78 74 0,X 79 74 1,X 80 74 2,I 18 (.box (.v ZR)),N 5 18 78,M 19 79,M 12 80])
def ZRo:PC :=
 (R [8,12,17,18,19,82] [M 81 12,W 82 .neq 81 0])
def ZRp:PC :=
 (R [8,9] [I 83 (.build [(.int .u64 0),(.int .i64 0),(.int .i64 0),(.int .i64 0),(.int .i64 0),.nils,.nils] []),M 84 12,N 7 8 83,M 9 84])
def ZRq:PC :=
 (R [8,9] [T 85 5 18,M 86 19,M 87 17,I 88 (.build [(.int .u64 0),(.int .i64 0),(.int .i64 0),(.int .i64 0),(.int .i64 0),.nils,.nils] [(0,5,(.s 85)),(5,1,(.s 86)),(6,1,(.s 87))]),N 7 8 88,K 9 0])
def ZLr:PF:=⟨false,
 (D ZWG
 (D (D ZWH
 (D ZWI
 (E 26
 (D ZWJ
 .ret)
 .skip)))
 (D ZWK
 (D (D ZWL
 (E 36
 (D ZWM
 .ret)
 .skip))
 (D ZWN
 (D (D ZWO
 (E 48
 (D ZWP
 .ret)
 .skip))
 (D ZRh
 (D (D ZRi
 (E 60
 (D ZRj
 .ret)
 .skip))
 (D ZRk
 (D (D ZRl
 (E 71
 (D ZRm
 .ret)
 .skip))
 (D ZRn
 (D (D ZRo
 (E 82
 (D ZRp
 .ret)
 .skip))
 (D ZRq
 .ret))))))))))))),
 [.c 8 true 7,.s 9]⟩
theorem ZeM:Zr Proofs.Tryz.prog false ZeL Proofs.Tryz.f28=some ZLr:=by kernel_rfl
def ZhI:List Hint:=[H [0,3],H [6,7],H [6,7,18],H [4,5],⟨[6,8],[0],[],[],[],[]⟩,H [8,20,21,22],H [8,20,21,22,23],H [8,10,20,21,22],H [8,20,21,22],H [8,20,21,22],H [4,5]]
def ZaH:PC :=
 (R [0,3] [I 3 (.box (.s 1)),I 4 (.mv (.v (.str []))),K 5 0])
def ZaI:PC :=
 (R [6,7] [M 12 0,T 13 5 3,I 14 (C ZDV [(.s 12),(.s 13)]),M 11 14,X 15 11 0,X 16 11 1,M 6 15,M 7 16])
def ZaJ:PC :=
 (R [6,7,18] [M 17 7,W 18 .neq 17 0])
def ZaK:PC :=
 (R [4,5] [M 19 7,I 4 (.mv (.v (.str []))),M 5 19])
def ZaL:PC :=
 (R [6,8] [I 8 (.onil 1)])
def ZaM:PC :=
 (R [8,20,21,22] [M 20 6,I 21 (.len 1 (.s 20)),K 22 0])
def ZaN:PC :=
 (R [8,20,21,22,23] [B 23 .lss 22 21])
def ZaO:PC :=
 (R [8,10,20,21,22] [I 24 (.ixS 1 (.s 20) (.s 22)),L 25 24,M 10 25])
def ZaP:PC :=
 (R [8,20,21,22] [M 26 8,M 27 10,I 28 (.app 1 1 (.s 26) (.s 27)),M 8 28])
def ZaQ:PC :=
 (R [8,20,21,22] [W 29 .add 22 1,M 22 29])
def ZWQ:PC :=
 (D ZaN
 (D (E 23
 .skip
 (.exit 0))
 (D (.block 1
 (D ZaO
 ZaP))
 ZaQ)))
def ZWR:PC :=
 (R [4,5] [M 30 8,I 31 (.b2s (.s 30)),M 4 31,K 5 0])
def ZHT:PF:=⟨false,
 (D ZaH
 (D ZaI
 (D (D ZaJ
 (E 18
 (D ZaK
 .ret)
 .skip))
 (D ZaL
 (D (D ZaM
 (.block 0
 (.loop ZWQ)))
 (D ZWR
 .ret)))))),
 [.s 4,.s 5]⟩
theorem ZhJ:Zr Proofs.Tryz.prog false ZhI Proofs.Tryz.f29=some ZHT:=by kernel_rfl
def ZDb:List Hint:=[H [0,1],H [0,1,10],H [4],H [0,1,5],H [0,1,5,14],H [0,1,5,25],H [4],H [0,1,5],H [4]]
def ZCc:PC :=
 (R [0,1] [I 4 (.mv (.v (.bool false)))])
def ZCd:PC :=
 (R [0,1,10] [M 6 0,I 7 (.len 1 (.s 6)),M 8 1,I 9 (.len 1 (.s 8)),B 10 .neq 7 9])
def ZCe:PC :=
 (R [4] [I 4 (.mv (.v (.bool false)))])
def ZCf:PC :=
 (R [0,1,5] [K 5 0])
def ZCg:PC :=
 (R [0,1,5,14] [M 11 5,M 12 0,I 13 (.len 1 (.s 12)),B 14 .lss 11 13])
def ZCh:PC :=
 (R [0,1,5,25] [M 17 0,M 18 5,I 19 (.ixS 1 (.s 17) (.s 18)),L 20 19,M 21 1,M 22 5,I 23 (.ixS 1 (.s 21) (.s 22)),L 24 23,B 25 .neq 20 24])
def ZCi:PC :=
 (R [4] [I 4 (.mv (.v (.bool false)))])
def ZCj:PC :=
 (R [0,1,5] [M 15 5,W 16 .add 15 1,M 5 16])
def ZCk:PC :=
 (D (D ZCg
 (E 14
 .skip
 (.exit 0)))
 (D (.block 1
 (D ZCh
 (E 25
 (D ZCi
 .ret)
 .skip)))
 ZCj))
def ZCl:PC :=
 (R [4] [I 4 (.mv (.v (.bool true)))])
def XJ:PF:=⟨false,
 (D ZCc
 (D (D ZCd
 (E 10
 (D ZCe
 .ret)
 .skip))
 (D (D ZCf
 (.block 0
 (.loop ZCk)))
 (D ZCl
 .ret)))),
 [.s 4]⟩
theorem ZDc:Zr Proofs.Tryz.prog false ZDb Proofs.Tryz.f30=some XJ:=by kernel_rfl
def ZGL:List Hint:=[H [0,1],⟨[0,1,5],[0],[],[],[],[]⟩,H [0,1,5,6],H [0,1,5,6,10],H [0,1,5,6,19],H [0,1,5,6],H [0,1,5,6],H [4]]
def ZDp:PC :=
 (R [0,1] [I 4 (.mv (.v .nils))])
def ZDq:PC :=
 (R [0,1,5] [I 5 (.onil 1)])
def ZDr:PC :=
 (R [0,1,5,6] [K 6 0])
def ZDs:PC :=
 (R [0,1,5,6,10] [M 7 6,M 8 0,I 9 (.len 1 (.s 8)),B 10 .lss 7 9])
def ZDt:PC :=
 (R [0,1,5,6,19] [M 13 1,M 14 0,M 15 6,I 16 (.ixS 1 (.s 14) (.s 15)),L 17 16,I 18 (C Qi [(.s 13),(.s 17)]),I 19 (.un .not (.s 18))])
def ZDu:PC :=
 (R [0,1,5,6] [M 20 5,M 21 0,M 22 6,I 23 (.ixS 1 (.s 21) (.s 22)),L 24 23,I 25 (.bslice false 1 [(.int .u64 0)] [(0,(.s 24))]),I 26 (.app 1 8 (.s 20) (.s 25)),M 5 26])
def ZDv:PC :=
 (R [0,1,5,6] [M 11 6,W 12 .add 11 1,M 6 12])
def ZDw:PC :=
 (D (D ZDs
 (E 10
 .skip
 (.exit 0)))
 (D (.block 1
 (D ZDt
 (E 19
 ZDu
 .skip)))
 ZDv))
def ZDx:PC :=
 (R [4] [M 27 5,I 28 (C Xd [(.s 27)]),M 4 28])
def ZAM:PF:=⟨false,
 (D ZDp
 (D ZDq
 (D (D ZDr
 (.block 0
 (.loop ZDw)))
 (D ZDx
 .ret)))),
 [.s 4]⟩
theorem ZGM:Zr Proofs.Tryz.prog false ZGL Proofs.Tryz.f31=some ZAM:=by kernel_rfl
def ZLs:List Hint:=[H [0,1],H [0,1,5],H [0,1,5,9],H [0,1,5,17],H [4],H [0,1,5],H [4]]
def ZI5:PC :=
 (R [0,1] [I 4 (.mv (.v (.bool false)))])
def ZI6:PC :=
 (R [0,1,5] [K 5 0])
def ZI7:PC :=
 (R [0,1,5,9] [M 6 5,M 7 0,I 8 (.len 1 (.s 7)),B 9 .lss 6 8])
def ZI8:PC :=
 (R [0,1,5,17] [M 12 0,M 13 5,I 14 (.ixS 1 (.s 12) (.s 13)),L 15 14,M 16 1,B 17 .eql 15 16])
def ZI9:PC :=
 (R [4] [I 4 (.mv (.v (.bool true)))])
def ZJA:PC :=
 (R [0,1,5] [M 10 5,W 11 .add 10 1,M 5 11])
def ZJB:PC :=
 (D (D ZI7
 (E 9
 .skip
 (.exit 0)))
 (D (.block 1
 (D ZI8
 (E 17
 (D ZI9
 .ret)
 .skip)))
 ZJA))
def ZJC:PC :=
 (R [4] [I 4 (.mv (.v (.bool false)))])
def ZDG:PF:=⟨false,
 (D ZI5
 (D (D ZI6
 (.block 0
 (.loop ZJB)))
 (D ZJC
 .ret))),
 [.s 4]⟩
theorem ZLt:Zr Proofs.Tryz.prog false ZLs Proofs.Tryz.f32=some ZDG:=by kernel_rfl
def ZJD:List Hint:=[H [0,2],H [0,2,4],H [2],⟨[2],[],[(8,.pure),(19,.pure)],[],[],[]⟩]
def ZGN:PC :=
 (R [0,2] [I 2 (.box (.v (.agg [(.int .i64 0),(.int .i64 0),(.int .i64 0),(.int .i64 0),(.int .i64 0),(.int .i64 0),(.int .i64 0)])))])
def ZGO:PC :=
 (R [0,2,4] [M 3 0,I 4 (.eqs false 3 [] (.s 3) (.v .nilptr))])
def ZGP:PC :=
 (R [2] [I 5 (.build [(.int .i64 0),(.int .i64 0),(.int .i64 0),(.int .i64 0),(.int .i64 0),(.int .i64 0),(.int .i64 0)] []),N 7 2 5])
def ZGQ:PC :=
 (R [2] [M 6 0,I 7 (.nilck (.s 6)),F 8 0 7,L 9 8,M 10 0,I 11 (.nilck (.s 10)),F 12 1 11,L 13 12,I 14 (.call .pure (.v (.func (.func Yw) [] [])) [(.s 13)]),I 15 (.len 1 (.s 14)),M 16 0,I 17 (.nilck (.s 16)),F 18 2 17,L 19 18,I 20 (.len 2 (.s 19)),M 21 0,I 22 (.nilck (.s 21)),F 23 1 22,L 24 23,I 25 (.call .pure (.v (.func (.func Jz) [] [])) [(.s 24)]),I 26 (.len 1 (.s 25)),M 27 0,I 28 (.nilck (.s 27)),F 29 3 28,L 30 29,M 31 0,I 32 (.nilck (.s 31)),F 33 4 32,L 34 33,M 35 0,I 36 (.nilck (.s 35)),F 37 5 36,L 38 37,I 39 (.build [(.int .i64 0),(.int .i64 0),(.int .i64 0),(.int .i64 0),(.int .i64 0),(.int .i64 0),(.int .i64 0)] [(0,1,(.s 9)),(1,1,(.s 15)),(2,1,(.s 20)),(3,1,(.s 26)),(4,1,(.s 30)),(5,1,(.s 34)),(6,1,(.s 38))]),N 7 2 39])
def ZBb:PF:=⟨false,
 (D ZGN
 (D (D ZGO
 (E 4
 (D ZGP
 .ret)
 .skip))
 (D ZGQ
 .ret))),
 [.c 2 true 7]⟩
theorem ZJE:Zr Proofs.Tryz.prog false ZJD Proofs.Tryz.f35=some ZBb:=by kernel_rfl
def ZhK:List Hint:=[H [0,1],H [0,6,7],H [0,6,7,15],H [4,5],H [4,5]]
def ZaR:PC :=
 (R [0,1] [I 4 (.mv (.v .nilptr)),K 5 0])
def ZaS:PC :=
 (R [0,6,7] [M 9 0,M 10 1,I 11 (C ZCU [(.s 9),(.s 10)]),M 8 11,X 12 8 0,X 13 8 1,M 6 12,M 7 13])
def ZaT:PC :=
 (R [0,6,7,15] [M 14 7,W 15 .neq 14 0])
def ZaU:PC :=
 (R [4,5] [M 16 7,I 4 (.mv (.v .nilptr)),M 5 16])
def ZaV:PC :=
 (R [4,5] [M 17 0,M 18 6,I 19 (.mkmap),I 20 (.build [(.int .i64 0),.nilptr,.nilmap,(.int .i64 0),(.int .i64 0),(.int .i64 0)] [(0,1,(.s 17)),(1,1,(.s 18)),(2,1,(.s 19))]),I 21 (.box (.s 20)),M 4 21,K 5 0])
def ZRD:PF:=⟨true,
 (D ZaR
 (D ZaS
 (D (D ZaT
 (E 15
 (D ZaU
 .ret)
 .skip))
 (D ZaV
 .ret)))),
 [.s 4,.s 5]⟩
theorem ZhL:Zr Proofs.Tryz.prog true ZhK Proofs.Tryz.f57=some ZRD:=by kernel_rfl
def ZjF:List Hint:=[H [0,1,4],H [0,1,4,11],H [4,5],H [0,4,6,7],H [0,4,6,7,19],H [4,5],H [4,7,8],H [4,5]]
def ZeN:PC :=
 (R [0,1,4] [I 4 (.box (.v ZR)),K 5 0])
def ZeO:PC :=
 (R [0,1,4,11] [M 10 0,I 11 (.eqs false 3 [] (.s 10) (.v .nilptr))])
def ZeP:PC :=
 (R [4,5] [I 12 (.build [(.int .u64 0),(.int .i64 0),(.int .i64 0),(.int .i64 0),(.int .i64 0)] []),N 5 4 12,K 5 1])
def ZeQ:PC :=
 (R [0,4,6,7] [M 14 1,I 15 (C X4 [(.s 14)]),M 13 15,X 16 13 0,X 17 13 1,I 6 (.box (.v ZT)),N 7 6 16,M 7 17])
def ZeR:PC :=
 (R [0,4,6,7,19] [M 18 7,W 19 .neq 18 0])
def ZeS:PC :=
 (R [4,5] [I 20 (.build [(.int .u64 0),(.int .i64 0),(.int .i64 0),(.int .i64 0),(.int .i64 0)] []),M 21 7,N 5 4 20,M 5 21])
def ZeT:PC :=
 (R [4,7,8] [M 23 0,T 24 7 6,I 25 (C Y5 [(.s 23),(.s 24)]),M 22 25,X 26 22 0,X 27 22 1,X 28 22 2,I 8 (.box (.v ZR)),N 5 8 26,M 9 27,M 7 28])
def ZeU:PC :=
 (R [4,5] [T 29 5 8,M 30 7,N 5 4 29,M 5 30])
def ZWS:PF:=⟨false,
 (D ZeN
 (D (D ZeO
 (E 11
 (D ZeP
 .ret)
 .skip))
 (D ZeQ
 (D (D ZeR
 (E 19
 (D ZeS
 .ret)
 .skip))
 (D ZeT
 (D ZeU
 .ret)))))),
 [.c 4 true 5,.s 5]⟩
theorem ZjG:Zr Proofs.Tryz.prog false ZjF Proofs.Tryz.f58=some ZWS:=by kernel_rfl
def ZKK:List Hint:=[H [0],H [0,3],H [0,3,4],H [0,3,4,12],H [0,3,4],H [0,3,4],H [2]]
def ZHU:PC :=
 (R [0] [I 2 (.mv (.v (.bool false)))])
def ZHV:PC :=
 (R [0,3] [K 3 0])
def ZHW:PC :=
 (R [0,3,4] [K 4 0])
def ZHX:PC :=
 (R [0,3,4,12] [M 5 4,M 6 0,I 7 (.len 1 (.s 6)),B 8 .lss 5 7,M 9 8,U 10 9 true 3,G 11 9 true (.bin .leq (.s 10) (V 900)),I 12 (.pick (.s 9) (.s 11) (.v (.bool false)))])
def ZHY:PC :=
 (R [0,3,4] [M 15 3,M 16 0,M 17 4,I 18 (.ixS 1 (.s 16) (.s 17)),L 19 18,I 20 (.len 0 (.s 19)),I 21 (.mnx false (.s 20) (V 1000)),B 22 .add 15 21,M 3 22])
def ZHZ:PC :=
 (R [0,3,4] [M 13 4,W 14 .add 13 1,M 4 14])
def ZHa:PC :=
 (D (D ZHX
 (E 12
 .skip
 (.exit 0)))
 (D (.block 1
 ZHY)
 ZHZ))
def ZHb:PC :=
 (R [2] [M 23 0,I 24 (.len 1 (.s 23)),W 25 .gtr 24 4,M 26 25,U 27 26 false 3,G 28 26 false (.bin .gtr (.s 27) (V 900)),I 29 (.pick (.s 26) (.v (.bool true)) (.s 28)),M 2 29])
def ZCm:PF:=⟨false,
 (D ZHU
 (D ZHV
 (D (D ZHW
 (.block 0
 (.loop ZHa)))
 (D ZHb
 .ret)))),
 [.s 2]⟩
theorem ZKL:Zr Proofs.Tryz.prog false ZKK Proofs.Tryz.f68=some ZCm:=by kernel_rfl
def ZKM:List Hint:=[H [0],H [0,3],H [0,3,11],H [0,3,20],H [2],H [0,3],H [2]]
def ZHc:PC :=
 (R [0] [I 2 (.mv (.v (.bool false)))])
def ZHd:PC :=
 (R [0,3] [K 3 0])
def ZHe:PC :=
 (R [0,3,11] [M 4 3,M 5 0,I 6 (.len 1 (.s 5)),B 7 .lss 4 6,M 8 7,U 9 8 true 3,G 10 8 true (.bin .lss (.s 9) (V 100)),I 11 (.pick (.s 8) (.s 10) (.v (.bool false)))])
def ZHf:PC :=
 (R [0,3,20] [M 14 0,M 15 3,I 16 (.ixS 5 (.s 14) (.s 15)),F 17 4 16,L 18 17,I 19 (.len 0 (.s 18)),W 20 .gtr 19 200])
def ZHg:PC :=
 (R [2] [I 2 (.mv (.v (.bool true)))])
def ZHh:PC :=
 (R [0,3] [M 12 3,W 13 .add 12 1,M 3 13])
def ZHi:PC :=
 (D (D ZHe
 (E 11
 .skip
 (.exit 0)))
 (D (.block 1
 (D ZHf
 (E 20
 (D ZHg
 .ret)
 .skip)))
 ZHh))
def ZHj:PC :=
 (R [2] [M 21 0,I 22 (.len 1 (.s 21)),W 23 .gtr 22 60,M 2 23])
def ZCn:PF:=⟨false,
 (D ZHc
 (D (D ZHd
 (.block 0
 (.loop ZHi)))
 (D ZHj
 .ret))),
 [.s 2]⟩
theorem ZKN:Zr Proofs.Tryz.prog false ZKM Proofs.Tryz.f69=some ZCn:=by kernel_rfl
def ZJF:List Hint:=[H [1],H [1,3,4],H [1,3,15],H [0,1,2],H [1,3,4,5],⟨[0,1,2],[],[],[],[(6,(.hide [(.s 1)])),(10,(.plain (.s 1)))],[]⟩]
def ZGR:PC :=
 (R [1] [I 0 (.mv (.v .nilptr)),I 1 (.box (.v ZR)),I 2 (.mv (.v (.bool false)))])
def ZGS:PC :=
 (R [1,3,4] [I 7 (C ZDC [(V 8),(.v (.int .u64 4))]),M 6 7,X 8 6 0,X 9 6 1,M 3 8,M 4 9])
def ZGT:PC :=
 (R [1,3,15] [M 10 3,I 11 (.eqs false 3 [] (.s 10) (.v .nilptr)),M 12 11,U 13 12 false 4,G 14 12 false (.bin .neq (.s 13) (V 0)),I 15 (.pick (.s 12) (.v (.bool true)) (.s 14))])
def ZGU:PC :=
 (R [0,1,2] [I 16 (.build [(.int .u64 0),(.int .i64 0),(.int .i64 0),(.int .i64 0),(.int .i64 0)] []),I 0 (.mv (.v .nilptr)),N 5 1 16,I 2 (.mv (.v (.bool false)))])
def ZGV:PC :=
 (R [1,3,4,5] [M 18 3,I 19 (C ZCS [(.s 18),(.v (.str [97,98,99,100,101,102,103,104,105,106,107,108,109,110,111,112,113]))]),M 17 19,X 20 17 0,X 21 17 1,I 5 (.box (.v ZR)),N 5 5 20,M 4 21])
def ZGW:PC :=
 (R [0,1,2] [M 22 3,T 23 5 5,M 24 4,W 25 .eql 24 0,M 26 25,G 27 26 true (.fadr 0 (.s 5)),G 28 26 true (.w (.hide [(.s 1)]) (.ld false 1 (.s 27))),G 29 26 true (.bin .eql (.s 28) (.v (.int .u64 65538))),I 30 (.pick (.s 26) (.s 29) (.v (.bool false))),M 0 22,J (.w (.plain (.s 1)) (.st 5 (.s 1) (.s 23))),M 2 30])
def ZBc:PF:=⟨true,
 (D ZGR
 (D ZGS
 (D (D ZGT
 (E 15
 (D ZGU
 .ret)
 .skip))
 (D ZGV
 (D ZGW
 .ret))))),
 [.s 0,.c 1 true 5,.s 2]⟩
theorem ZJG:Zr Proofs.Tryz.prog true ZJF Proofs.Tryz.f70=some ZBc:=by kernel_rfl
def ZKO:List Hint:=[H [0],H [0,5,6],H [0,5,20],H [2,3,4],⟨[0,5,7],[0],[],[],[],[]⟩,H [0,5,7,8],H [0,5,7,8,24],H [0,5,7,8,9,10],H [0,5,7,8,9,37],H [2,3,4],H [0,5,7,8],H [0,5,7,8],H [2,3,4]]
def ZHk:PC :=
 (R [0] [I 2 (.mv (.v .nilptr)),I 3 (.mv (.v .nils)),I 4 (.mv (.v (.bool false)))])
def ZHl:PC :=
 (R [0,5,6] [I 12 (C ZDC [(V 1500),(.v (.int .u64 3))]),M 11 12,X 13 11 0,X 14 11 1,M 5 13,M 6 14])
def ZHm:PC :=
 (R [0,5,20] [M 15 5,I 16 (.eqs false 3 [] (.s 15) (.v .nilptr)),M 17 16,U 18 17 false 6,G 19 17 false (.bin .neq (.s 18) (V 0)),I 20 (.pick (.s 17) (.v (.bool true)) (.s 19))])
def ZHn:PC :=
 (R [2,3,4] [I 2 (.mv (.v .nilptr)),I 3 (.mv (.v .nils)),I 4 (.mv (.v (.bool false)))])
def ZHo:PC :=
 (R [0,5,7] [I 7 (.onil 5)])
def ZHp:PC :=
 (R [0,5,7,8] [K 8 0])
def ZHq:PC :=
 (R [0,5,7,8,24] [M 21 8,M 22 0,I 23 (.len 1 (.s 22)),B 24 .lss 21 23])
def ZHr:PC :=
 (R [0,5,7,8,9,10] [M 28 5,M 29 0,M 30 8,I 31 (.ixS 1 (.s 29) (.s 30)),L 32 31,I 33 (C ZCS [(.s 28),(.s 32)]),M 27 33,X 34 27 0,X 35 27 1,I 9 (.box (.v ZR)),N 5 9 34,M 10 35])
def ZHs:PC :=
 (R [0,5,7,8,9,37] [M 36 10,W 37 .neq 36 0])
def ZHt:PC :=
 (R [2,3,4] [I 2 (.mv (.v .nilptr)),I 3 (.mv (.v .nils)),I 4 (.mv (.v (.bool false)))])
def ZGX:PC :=
 (R [0,5,7,8] [M 38 7,T 39 5 9,I 40 (.bslice false 5 [ZR] [(0,(.s 39))]),I 41 (.app 5 40 (.s 38) (.s 40)),M 7 41])
def ZGY:PC :=
 (R [0,5,7,8] [M 25 8,W 26 .add 25 1,M 8 26])
def ZGZ:PC :=
 (D (D ZHq
 (E 24
 .skip
 (.exit 0)))
 (D (.block 1
 (D ZHr
 (D (D ZHs
 (E 37
 (D ZHt
 .ret)
 .skip))
 ZGX)))
 ZGY))
def ZGa:PC :=
 (R [2,3,4] [M 42 5,M 43 7,M 2 42,M 3 43,I 4 (.mv (.v (.bool true)))])
def ZCo:PF:=⟨true,
 (D ZHk
 (D ZHl
 (D (D ZHm
 (E 20
 (D ZHn
 .ret)
 .skip))
 (D ZHo
 (D (D ZHp
 (.block 0
 (.loop ZGZ)))
 (D ZGa
 .ret)))))),
 [.s 2,.s 3,.s 4]⟩
theorem ZKP:Zr Proofs.Tryz.prog true ZKO Proofs.Tryz.f71=some ZCo:=by kernel_rfl
def ZJH:List Hint:=[H [0,1,2],⟨[0,1,2,8],[0],[],[],[],[]⟩,H [0,1,2,8,9],H [0,1,2,8,9,19],H [0,1,2,8,9,24],H [0,1,2,8,9,10,11],H [0,1,2,8,9,10,35],H [6,7],H [0,1,2,8,9],H [0,1,2,8,9,12],H [0,1,2,8,9,12,13,14],H [0,1,2,8,9,12,13,59],H [6,7],H [0,1,2,8,9,12,13,15],⟨[0,1,2,8,9,13,14],[],[(13,.pure)],[],[],[]⟩,H [0,1,2,8,9,13,93],H [6,7],H [0,1,2,8,9],H [0,1,2,8,9],H [6,7]]
def ZGb:PC :=
 (R [0,1,2] [I 6 (.mv (.v .nils)),I 7 (.mv (.v (.bool false)))])
def ZGc:PC :=
 (R [0,1,2,8] [I 8 (.onil 7)])
def ZGd:PC :=
 (R [0,1,2,8,9] [K 9 0])
def ZGe:PC :=
 (R [0,1,2,8,9,19] [M 16 9,M 17 2,I 18 (.len 1 (.s 17)),B 19 .lss 16 18])
def ZGf:PC :=
 (R [0,1,2,8,9,24] [M 22 1,I 23 (.len 1 (.s 22)),W 24 .eql 23 0])
def ZGg:PC :=
 (R [0,1,2,8,9,10,11] [M 26 2,M 27 9,I 28 (.ixS 5 (.s 26) (.s 27)),F 29 4 28,L 30 29,I 31 (C X4 [(.s 30)]),M 25 31,X 32 25 0,X 33 25 1,I 10 (.box (.v ZT)),N 7 10 32,M 11 33])
def ZGh:PC :=
 (R [0,1,2,8,9,10,35] [M 34 11,W 35 .neq 34 0])
def ZGi:PC :=
 (R [6,7] [I 6 (.mv (.v .nils)),I 7 (.mv (.v (.bool false)))])
def ZGj:PC :=
 (R [0,1,2,8,9] [M 36 8,T 37 7 10,I 38 (.bslice false 7 [ZT] [(0,(.s 37))]),I 39 (.app 7 80 (.s 36) (.s 38)),M 8 39])
def ZGk:PC :=
 (R [0,1,2,8,9,12] [M 40 1,M 41 2,M 42 9,I 43 (.ixS 5 (.s 41) (.s 42)),F 44 1 43,L 45 44,M 46 1,I 47 (.len 1 (.s 46)),W 48 .sub 47 1,I 49 (C JP [(.s 45),(.s 48)]),I 50 (.ixS 5 (.s 40) (.s 49)),T 51 5 50,I 12 (.box (.v ZR)),N 5 12 51])
def ZEq:PC :=
 (R [0,1,2,8,9,12,13,14] [M 53 0,T 54 5 12,I 55 (C J5 [(.s 53),(.s 54)]),M 52 55,X 56 52 0,X 57 52 1,I 13 (.box (.v ZT)),N 7 13 56,M 14 57])
def ZEr:PC :=
 (R [0,1,2,8,9,12,13,59] [M 58 14,W 59 .neq 58 0])
def ZEs:PC :=
 (R [6,7] [I 6 (.mv (.v .nils)),I 7 (.mv (.v (.bool false)))])
def ZEt:PC :=
 (R [0,1,2,8,9,12,13,15] [M 60 2,M 61 9,I 62 (.ixS 5 (.s 60) (.s 61)),F 63 2 62,L 64 63,F 65 2 12,F 66 0 65,L 67 66,I 68 (C JP [(.s 64),(.s 67)]),M 15 68])
def ZEu:PC :=
 (R [0,1,2,8,9,13,14] [M 70 0,T 71 7 13,M 72 15,M 73 2,M 74 9,I 75 (.ixS 5 (.s 73) (.s 74)),F 76 3 75,L 77 76,F 78 2 12,F 79 0 78,L 80 79,M 81 15,B 82 .sub 80 81,I 83 (.call .pure (.v (.func (.func JP) [] [])) [(.s 77),(.s 82)]),M 84 2,M 85 9,I 86 (.ixS 5 (.s 84) (.s 85)),F 87 4 86,L 88 87,I 89 (C ZCV [(.s 70),(.s 71),(.s 72),(.s 83),(.s 88)]),M 69 89,X 90 69 0,X 91 69 1,N 7 13 90,M 14 91])
def ZEv:PC :=
 (R [0,1,2,8,9,13,93] [M 92 14,W 93 .neq 92 0])
def ZEw:PC :=
 (R [6,7] [I 6 (.mv (.v .nils)),I 7 (.mv (.v (.bool false)))])
def ZEx:PC :=
 (R [0,1,2,8,9] [M 94 8,T 95 7 13,I 96 (.bslice false 7 [ZT] [(0,(.s 95))]),I 97 (.app 7 80 (.s 94) (.s 96)),M 8 97])
def ZEy:PC :=
 (R [0,1,2,8,9] [M 20 9,W 21 .add 20 1,M 9 21])
def ZEz:PC :=
 (D (D ZGe
 (E 19
 .skip
 (.exit 0)))
 (D (.block 1
 (D (D ZGf
 (E 24
 (D ZGg
 (D (D ZGh
 (E 35
 (D ZGi
 .ret)
 .skip))
 (D ZGj
 (.exit 1))))
 .skip))
 (D ZGk
 (D ZEq
 (D (D ZEr
 (E 59
 (D ZEs
 .ret)
 .skip))
 (D ZEt
 (D ZEu
 (D (D ZEv
 (E 93
 (D ZEw
 .ret)
 .skip))
 ZEx))))))))
 ZEy))
def ZE0:PC :=
 (R [6,7] [M 98 8,M 6 98,I 7 (.mv (.v (.bool true)))])
def ZBd:PF:=⟨false,
 (D ZGb
 (D ZGc
 (D (D ZGd
 (.block 0
 (.loop ZEz)))
 (D ZE0
 .ret)))),
 [.s 6,.s 7]⟩
theorem ZJI:Zr Proofs.Tryz.prog false ZJH Proofs.Tryz.f72=some ZBd:=by kernel_rfl
def ZhM:List Hint:=[H [2,3],H [2,3,6],H [2,3,6,14],H [4,5],⟨[2,3,7],[0],[],[],[],[]⟩,H [2,3,7,8],H [3,7,8],H [3,7,8,19],H [4,5],H [7,9],H [7,9,24],H [4,5],H [4,5]]
def ZaW:PC :=
 (R [2,3] [I 2 (.box (.s 0)),I 3 (.box (.s 1)),I 4 (.mv (.v (.str []))),K 5 0])
def ZaX:PC :=
 (R [2,3,6] [L 10 2,T 11 7 3,I 12 (C Jk [(.s 10),(.s 11)]),M 6 12])
def ZaY:PC :=
 (R [2,3,6,14] [M 13 6,W 14 .neq 13 0])
def ZaZ:PC :=
 (R [4,5] [M 15 6,I 4 (.mv (.v (.str []))),M 5 15])
def Zaa:PC :=
 (R [2,3,7] [I 7 (.boxnil 1)])
def Zab:PC :=
 (R [2,3,7,8] [I 8 (.box (.v .nilfunc))])
def Zac:PC :=
 (R [3,7,8] [I 16 (.mkf (.func YZ) [] [(.s 2),(.s 7),(.s 8)]),N 1 8 16])
def Zad:PC :=
 (R [3,7,8,19] [T 17 7 3,I 18 (C Qj [(.s 17)]),W 19 .eql 18 1])
def Zae:PC :=
 (R [4,5] [I 4 (.mv (.v (.str []))),K 5 0])
def Zaf:PC :=
 (R [7,9] [L 20 8,T 21 7 3,I 22 (.call .norm (.s 20) [(.s 21)]),M 9 22])
def ZWT:PC :=
 (R [7,9,24] [M 23 9,W 24 .neq 23 0])
def ZWU:PC :=
 (R [4,5] [M 25 9,I 4 (.mv (.v (.str []))),M 5 25])
def ZWV:PC :=
 (R [4,5] [L 26 7,I 27 (.b2s (.s 26)),M 4 27,K 5 0])
def ZRE:PF:=⟨false,
 (D ZaW
 (D (D ZaX
 (D ZaY
 (E 14
 (D ZaZ
 .ret)
 .skip)))
 (D Zaa
 (D Zab
 (D Zac
 (D (D Zad
 (E 19
 (D Zae
 .ret)
 .skip))
 (D (D Zaf
 (D ZWT
 (E 24
 (D ZWU
 .ret)
 .skip)))
 (D ZWV
 .ret)))))))),
 [.s 4,.s 5]⟩
theorem ZhN:Zr Proofs.Tryz.prog false ZhM Proofs.Tryz.f73=some ZRE:=by kernel_rfl
def ZeV:List Hint:=[⟨[0,3,4,5],[2],[],[],[],[]⟩,H [4,5,6,7],H [4,5,6,7,18],⟨[4,5,6],[3],[],[],[],[]⟩,H [4,5,7,26],H [4,5,7,8,10],H [4,5,7,8,10,34],⟨[4,5,6],[3],[],[],[],[]⟩,H [4,5,7],H [4,5,6],H [4,5,6]]
def ZWW:PC :=
 (R [0,3,4,5] [I 3 (.box (.s 1)),I 4 (.box (.v ZR)),I 5 (.onil 1),K 6 0])
def ZWX:PC :=
 (R [4,5,6,7] [M 12 0,T 13 7 3,I 14 (C Y6 [(.s 12),(.s 13)]),M 11 14,X 15 11 0,X 16 11 1,M 7 15,M 6 16])
def ZWY:PC :=
 (R [4,5,6,7,18] [M 17 6,W 18 .neq 17 0])
def ZWZ:PC :=
 (R [4,5,6] [I 19 (.build [(.int .u64 0),(.int .i64 0),(.int .i64 0),(.int .i64 0),(.int .i64 0)] []),M 20 6,N 5 4 19,I 5 (.onil 1),M 6 20])
def ZWa:PC :=
 (R [4,5,7,26] [M 21 7,I 22 (.nilck (.s 21)),F 23 1 22,L 24 23,I 25 (.len 1 (.s 24)),W 26 .gtr 25 0])
def ZWb:PC :=
 (R [4,5,7,8,10] [M 28 7,I 29 (C XQ [(.s 28)]),M 27 29,X 30 27 0,X 31 27 1,X 32 27 2,M 8 30,M 9 31,M 10 32])
def ZWc:PC :=
 (R [4,5,7,8,10,34] [M 33 10,W 34 .neq 33 0])
def ZWd:PC :=
 (R [4,5,6] [I 35 (.build [(.int .u64 0),(.int .i64 0),(.int .i64 0),(.int .i64 0),(.int .i64 0)] []),M 36 10,N 5 4 35,I 5 (.onil 1),M 6 36])
def ZWe:PC :=
 (R [4,5,7] [M 37 5,M 38 8,I 39 (.bslice false 1 [(.int .u64 0)] [(0,(.s 38))]),I 40 (.app 1 8 (.s 37) (.s 39)),M 5 40])
def ZWf:PC :=
 (D (D ZWa
 (E 26
 .skip
 (.exit 0)))
 (.block 1
 (D ZWb
 (D (D ZWc
 (E 34
 (D ZWd
 .ret)
 .skip))
 ZWe))))
def ZRr:PC :=
 (R [4,5,6] [M 42 7,I 43 (C ZA8 [(.s 42)]),M 41 43,X 44 41 0,X 45 41 1,N 5 4 44,M 6 45])
def ZRs:PC :=
 (R [4,5,6] [T 46 5 4,M 47 5,M 48 6,N 5 4 46,M 5 47,M 6 48])
def ZLu:PF:=⟨false,
 (D ZWW
 (D ZWX
 (D (D ZWY
 (E 18
 (D ZWZ
 .ret)
 .skip))
 (D (.block 0
 (.loop ZWf))
 (D ZRr
 (D ZRs
 .ret)))))),
 [.c 4 true 5,.s 5,.s 6]⟩
theorem ZeW:Zr Proofs.Tryz.prog false ZeV Proofs.Tryz.f74=some ZLu:=by kernel_rfl
def ZKQ:List Hint:=[H [0,1],H [4]]
def ZHu:PC :=
 (R [0,1] [K 4 0])
def ZHv:PC :=
 (R [4] [M 5 0,I 6 (.cint .u64 (.s 5)),M 7 1,W 8 .add 7 1,I 9 (.cint .u64 (.s 8)),B 10 .rem 6 9,I 11 (.cint .i64 (.s 10)),M 4 11])
def ZCp:PF:=⟨false,
 (D ZHu
 (D ZHv
 .ret)),
 [.s 4]⟩
theorem ZKR:Zr Proofs.Tryz.prog false ZKQ Proofs.Tryz.f75=some ZCp:=by kernel_rfl
def Zag:List Hint:=[H [0,2,3,5],H [2,3,5,10],H [2,3,5,10,18],H [8],H [41],H [8],H [8]]
def ZRt:PC :=
 (R [0,2,3,5] [I 5 (.box (.s 1)),K 8 0])
def ZRu:PC :=
 (R [2,3,5,10] [M 12 0,T 13 5 5,I 14 (C J5 [(.s 12),(.s 13)]),M 11 14,X 15 11 0,X 16 11 1,I 9 (.box (.v ZT)),N 7 9 15,M 10 16])
def ZRv:PC :=
 (R [2,3,5,10,18] [M 17 10,W 18 .neq 17 0])
def ZRw:PC :=
 (R [8] [M 19 10,M 8 19])
def ZRx:PC :=
 (R [41] [M 20 2,W 21 .lss 20 0,M 22 21,U 23 22 false 2,G 24 22 false (.fadr 2 (.s 5)),G 25 22 false (.fadr 0 (.s 24)),G 26 22 false (.ld false 1 (.s 25)),G 27 22 false (.bin .gtr (.s 23) (.s 26)),I 28 (.pick (.s 22) (.v (.bool true)) (.s 27)),M 29 28,U 30 29 false 3,G 31 29 false (.bin .lss (.s 30) (V 0)),I 32 (.pick (.s 29) (.v (.bool true)) (.s 31)),M 33 32,U 34 33 false 3,G 35 33 false (.fadr 2 (.s 5)),G 36 33 false (.fadr 0 (.s 35)),G 37 33 false (.ld false 1 (.s 36)),U 38 33 false 2,G 39 33 false (.bin .sub (.s 37) (.s 38)),G 40 33 false (.bin .gtr (.s 34) (.s 39)),I 41 (.pick (.s 33) (.v (.bool true)) (.s 40))])
def ZRy:PC :=
 (R [8] [K 8 3])
def ZRz:PC :=
 (R [8] [K 8 0])
def ZJd:PF:=⟨false,
 (D ZRt
 (D (D ZRu
 (D ZRv
 (E 18
 (D ZRw
 .ret)
 .skip)))
 (D (D ZRx
 (E 41
 (D ZRy
 .ret)
 .skip))
 (D ZRz
 .ret)))),
 [.s 8]⟩
theorem Zah:Zr Proofs.Tryz.prog false Zag Proofs.Tryz.f76=some ZJd:=by kernel_rfl
def Zai:List Hint:=[H [4,5,6,7],H [8]]
def ZR0:PC :=
 (R [4,5,6,7] [I 4 (.box (.s 0)),I 5 (.box (.s 1)),I 6 (.box (.s 2)),I 7 (.box (.s 3)),I 8 (.mv (.v .nilfunc))])
def ZR1:PC :=
 (R [8] [I 9 (.mkf (.func J1) [] [(.s 7),(.s 4),(.s 5),(.s 6)]),M 8 9])
def ZJe:PF:=⟨true,
 (D ZR0
 (D ZR1
 .ret)),
 [.s 8]⟩
theorem Zaj:Zr Proofs.Tryz.prog true Zai Proofs.Tryz.f77=some ZJe:=by kernel_rfl
def ZhO:List Hint:=[H [0,3,4],H [0,3,4,8],H [4,5],H [0,3,4,12],H [4,5],H [0,3,4,16],H [4,5],H [3,4,6],H [3,4,6,27],H [4,5],H [4,5]]
def Zak:PC :=
 (R [0,3,4] [I 3 (.box (.s 1)),I 4 (.box (.v ZT)),K 5 0])
def Zal:PC :=
 (R [0,3,4,8] [M 7 0,I 8 (.eqs false 3 [] (.s 7) (.v .nilptr))])
def Zam:PC :=
 (R [4,5] [I 9 (.build [(.int .u64 0),(.int .i64 0),(.int .i64 0),(.int .i64 0),(.int .i64 0),(.str []),.nils] []),N 7 4 9,K 5 1])
def Zan:PC :=
 (R [0,3,4,12] [T 10 5 3,I 11 (.build [(.int .u64 0),(.int .i64 0),(.int .i64 0),(.int .i64 0),(.int .i64 0)] []),I 12 (.eqs false 0 [(0,0),(1,0),(2,0),(3,0),(4,0)] (.s 10) (.s 11))])
def Zao:PC :=
 (R [4,5] [I 13 (.build [(.int .u64 0),(.int .i64 0),(.int .i64 0),(.int .i64 0),(.int .i64 0),(.str []),.nils] []),N 7 4 13,K 5 0])
def Zap:PC :=
 (R [0,3,4,16] [F 14 0 3,L 15 14,I 16 (.bin .eql (.s 15) (.v (.int .u64 0)))])
def Zaq:PC :=
 (R [4,5] [I 17 (.build [(.int .u64 0),(.int .i64 0),(.int .i64 0),(.int .i64 0),(.int .i64 0),(.str []),.nils] []),N 7 4 17,K 5 2])
def Zar:PC :=
 (R [3,4,6] [M 18 0,F 19 0 3,L 20 19,F 21 1 3,L 22 21,F 23 2 3,T 24 3 23,I 25 (C ZDD [(.s 18),(.s 20),(.s 22),(.s 24)]),M 6 25])
def Zas:PC :=
 (R [3,4,6,27] [M 26 6,W 27 .neq 26 0])
def Zat:PC :=
 (R [4,5] [I 28 (.build [(.int .u64 0),(.int .i64 0),(.int .i64 0),(.int .i64 0),(.int .i64 0),(.str []),.nils] []),M 29 6,N 7 4 28,M 5 29])
def ZWg:PC :=
 (R [4,5] [F 30 0 3,L 31 30,F 32 1 3,L 33 32,F 34 2 3,T 35 3 34,I 36 (.build [(.int .u64 0),(.int .i64 0),(.int .i64 0),(.int .i64 0),(.int .i64 0),(.str []),.nils] [(0,1,(.s 31)),(1,1,(.s 33)),(2,3,(.s 35))]),N 7 4 36,K 5 0])
def ZRF:PF:=⟨false,
 (D Zak
 (D (D Zal
 (E 8
 (D Zam
 .ret)
 .skip))
 (D (D Zan
 (E 12
 (D Zao
 .ret)
 .skip))
 (D (D Zap
 (E 16
 (D Zaq
 .ret)
 .skip))
 (D (D Zar
 (D Zas
 (E 27
 (D Zat
 .ret)
 .skip)))
 (D ZWg
 .ret)))))),
 [.c 4 true 7,.s 5]⟩
theorem ZhP:Zr Proofs.Tryz.prog false ZhO Proofs.Tryz.f82=some ZRF:=by kernel_rfl
def ZeX:List Hint:=[H [0,3,23],H [0,3,6,23],H [0,3,6,17,23],H [4],H [0,3,7,23],H [7,21,23],H [7,9],H [7,9,26],H [7],H [4]]
def ZWh:PC :=
 (R [0,3,23] [I 3 (.box (.s 1)),K 4 0])
def ZWi:PC :=
 (R [0,3,6,23] [M 11 0,T 12 5 3,I 13 (C J5 [(.s 11),(.s 12)]),M 10 13,X 14 10 0,X 15 10 1,I 5 (.box (.v ZT)),N 7 5 14,M 6 15])
def ZWj:PC :=
 (R [0,3,6,17,23] [M 16 6,W 17 .neq 16 0])
def ZWk:PC :=
 (R [4] [M 18 6,M 4 18])
def ZWl:PC :=
 (R [0,3,7,23] [I 7 (.box (V 0)),J (.st 1 (.s 7) (V 0))])
def ZWm:PC :=
 (R [7,21,23] [M 19 0,T 20 5 3,I 21 (C X3 [(.s 19),(.s 20)])])
def ZWn:PC :=
 (R [7,9] [I 9 (.box (.v (.agg [(.int .i64 0),(.str []),.nils,(.int .i64 0)]))),N 4 9 23])
def ZWo:PC :=
 (R [7,9,26] [F 24 3 9,L 25 24,W 26 .neq 25 0])
def ZWp:PC :=
 (R [7] [F 27 3 9,L 28 27,N 1 7 28])
def ZWq:PC :=
 (R [4] [L 29 7,M 4 29])
def p_rope_Check:RF:=⟨30,
 (D ZWh
 (D (D ZWi
 (D ZWj
 (E 17
 (D ZWk
 .ret)
 .skip)))
 (D ZWl
 (D .skip
 (D ZWm
 .skip))))),
 ⟨(.s 21),[22,23],
 ZWn,
 (.block 1
 (D ZWo
 (E 26
 (D ZWp
 (.exit 0))
 .skip)))⟩,
 (D .skip
 (D ZWq
 .ret)),
 [.s 4]⟩
theorem ZeY:ZOT Proofs.Tryz.prog ZeX Proofs.Tryz.f85=some p_rope_Check:=by kernel_rfl
def ZeZ:List Hint:=[H [2,3],H [4]]
def ZWr:PC :=
 (R [2,3] [I 2 (.box (.s 0)),I 3 (.box (.s 1)),I 4 (.mv (.v .nilfunc))])
def ZWs:PC :=
 (R [4] [I 5 (.mkf (.func Qm) [] [(.s 2),(.s 3)]),M 4 5])
def ZLv:PF:=⟨true,
 (D ZWr
 (D ZWs
 .ret)),
 [.s 4]⟩
theorem Zea:Zr Proofs.Tryz.prog true ZeZ Proofs.Tryz.f86=some ZLv:=by kernel_rfl
def ZjH:List Hint:=[H [0,2,4,6,7],H [0,2,4,6,7,9],H [0,2,4,6,7,9,16],H [6,7,8],H [0,2,4,6,7,27],H [6,7,8],H [6,7,8,10,11],⟨[6,7,8],[],[(1,.pure)],[],[],[]⟩]
def Zeb:PC :=
 (R [0,2,4,6,7] [I 4 (.box (.s 1)),I 6 (.box (.v ZT)),I 7 (.box (.v ZT)),K 8 0])
def Zec:PC :=
 (R [0,2,4,6,7,9] [M 12 0,T 13 7 4,I 14 (C Jk [(.s 12),(.s 13)]),M 9 14])
def Zed:PC :=
 (R [0,2,4,6,7,9,16] [M 15 9,W 16 .neq 15 0])
def Zee:PC :=
 (R [6,7,8] [I 17 (.build [(.int .u64 0),(.int .i64 0),(.int .i64 0),(.int .i64 0),(.int .i64 0),(.str []),.nils] []),I 18 (.build [(.int .u64 0),(.int .i64 0),(.int .i64 0),(.int .i64 0),(.int .i64 0),(.str []),.nils] []),M 19 9,N 7 6 17,N 7 7 18,M 8 19])
def Zef:PC :=
 (R [0,2,4,6,7,27] [M 20 2,W 21 .lss 20 0,M 22 21,U 23 22 false 2,G 24 22 false (.ld true 7 (.s 4)),G 25 22 false (C Qb [(.s 24)]),G 26 22 false (.bin .gtr (.s 23) (.s 25)),I 27 (.pick (.s 22) (.v (.bool true)) (.s 26))])
def Zeg:PC :=
 (R [6,7,8] [I 28 (.build [(.int .u64 0),(.int .i64 0),(.int .i64 0),(.int .i64 0),(.int .i64 0),(.str []),.nils] []),I 29 (.build [(.int .u64 0),(.int .i64 0),(.int .i64 0),(.int .i64 0),(.int .i64 0),(.str []),.nils] []),N 7 6 28,N 7 7 29,K 8 3])
def Zeh:PC :=
 (R [6,7,8,10,11] [M 31 0,T 32 7 4,M 33 2,I 34 (C Xe [(.s 31),(.s 32),(.s 33)]),M 30 34,X 35 30 0,X 36 30 1,X 37 30 2,I 10 (.box (.v ZT)),I 11 (.box (.v ZT)),N 7 10 35,N 7 11 36,M 8 37])
def Zei:PC :=
 (R [6,7,8] [T 38 7 10,I 39 (.call .pure (.v (.func (.func Xf) [] [])) [(.s 38)]),T 40 7 11,I 41 (C Xf [(.s 40)]),M 42 8,N 7 6 39,N 7 7 41,M 8 42])
def ZWt:PF:=⟨false,
 (D Zeb
 (D (D Zec
 (D Zed
 (E 16
 (D Zee
 .ret)
 .skip)))
 (D (D Zef
 (E 27
 (D Zeg
 .ret)
 .skip))
 (D Zeh
 (D Zei
 .ret))))),
 [.c 6 true 7,.c 7 true 7,.s 8]⟩
theorem ZjI:Zr Proofs.Tryz.prog false ZjH Proofs.Tryz.f87=some ZWt:=by kernel_rfl
def ZWu:List Hint:=[H [0,4,5],H [0,4,5,9],H [0,4,5,9,24],H [6,7],H [0,4,5,10],H [0,4,5,10,30],H [6,7],H [0,4,5,11],H [0,4,11,34,35,36],H [0,4,11,34,35,36,37],H [0,4,11,13,34,35,36],H [0,4,11,14,34,35,36],H [0,4,11,14,34,35,36,45],H [6,7],H [0,4,11,34,35,36],⟨[0,4,11,15],[0],[],[],[],[]⟩,H [0,4,11,15,50],H [6,7],H [15,16],H [15,16,58],H [6,7],H [6,7]]
def ZOj:PC :=
 (R [0,4,5] [I 4 (.box (.s 1)),I 5 (.box (.s 2)),I 6 (.mv (.v .nils)),K 7 0])
def ZOk:PC :=
 (R [0,4,5,9] [M 18 0,T 19 5 4,I 20 (C J5 [(.s 18),(.s 19)]),M 17 20,X 21 17 0,X 22 17 1,I 8 (.box (.v ZT)),N 7 8 21,M 9 22])
def ZOl:PC :=
 (R [0,4,5,9,24] [M 23 9,W 24 .neq 23 0])
def ZOm:PC :=
 (R [6,7] [M 25 9,I 6 (.mv (.v .nils)),M 7 25])
def ZOn:PC :=
 (R [0,4,5,10] [M 26 0,T 27 7 5,I 28 (C Jk [(.s 26),(.s 27)]),M 10 28])
def ZOo:PC :=
 (R [0,4,5,10,30] [M 29 10,W 30 .neq 29 0])
def ZOp:PC :=
 (R [6,7] [M 31 10,I 6 (.mv (.v .nils)),M 7 31])
def ZOq:PC :=
 (R [0,4,5,11] [I 32 (.mkmap),I 11 (.box (.v .nilmap)),N 1 11 32])
def ZOr:PC :=
 (R [0,4,11,34,35,36] [T 33 7 5,I 34 (C ZHA [(.s 33)]),I 35 (.len 1 (.s 34)),K 36 0])
def ZOs:PC :=
 (R [0,4,11,34,35,36,37] [B 37 .lss 36 35])
def ZLw:PC :=
 (R [0,4,11,13,34,35,36] [I 38 (.ixS 1 (.s 34) (.s 36)),L 39 38,M 13 39])
def ZLx:PC :=
 (R [0,4,11,14,34,35,36] [M 40 0,M 41 13,L 42 11,I 43 (C JU [(.s 40),(.s 41),(.s 42),(.v (.func (.func YH) [] []))]),M 14 43])
def ZLy:PC :=
 (R [0,4,11,14,34,35,36,45] [M 44 14,W 45 .neq 44 0])
def ZLz:PC :=
 (R [6,7] [M 46 14,I 6 (.mv (.v .nils)),M 7 46])
def ZL0:PC :=
 (R [0,4,11,34,35,36] [W 47 .add 36 1,M 36 47])
def ZL1:PC :=
 (D ZOs
 (D (E 37
 .skip
 (.exit 0))
 (D (.block 1
 (D ZLw
 (D ZLx
 (D ZLy
 (E 45
 (D ZLz
 .ret)
 .skip)))))
 ZL0)))
def ZL2:PC :=
 (R [0,4,11,15] [I 15 (.boxnil 1)])
def ZL3:PC :=
 (R [0,4,11,15,50] [F 48 0 4,L 49 48,I 50 (.bin .eql (.s 49) (.v (.int .u64 0)))])
def ZL4:PC :=
 (R [6,7] [I 6 (.mv (.v .nils)),K 7 0])
def ZL5:PC :=
 (R [15,16] [M 51 0,F 52 0 4,L 53 52,I 54 (.mkmap),I 55 (.mkf (.func YI) [] [(.s 11),(.s 15)]),I 56 (C JU [(.s 51),(.s 53),(.s 54),(.s 55)]),M 16 56])
def ZL6:PC :=
 (R [15,16,58] [M 57 16,W 58 .neq 57 0])
def ZL7:PC :=
 (R [6,7] [M 59 16,I 6 (.mv (.v .nils)),M 7 59])
def ZL8:PC :=
 (R [6,7] [L 60 15,M 6 60,K 7 0])
def ZHw:PF:=⟨false,
 (D ZOj
 (D (D ZOk
 (D ZOl
 (E 24
 (D ZOm
 .ret)
 .skip)))
 (D (D ZOn
 (D ZOo
 (E 30
 (D ZOp
 .ret)
 .skip)))
 (D ZOq
 (D (D ZOr
 (.block 0
 (.loop ZL1)))
 (D ZL2
 (D (D ZL3
 (E 50
 (D ZL4
 .ret)
 .skip))
 (D ZL5
 (D (D ZL6
 (E 58
 (D ZL7
 .ret)
 .skip))
 (D ZL8
 .ret)))))))))),
 [.s 6,.s 7]⟩
theorem ZWv:Zr Proofs.Tryz.prog false ZWu Proofs.Tryz.f88=some ZHw:=by kernel_rfl
def Zau:List Hint:=[H [0,3,20],H [0,3,6,20],H [0,3,6,14,20],H [4,5],⟨[0,3,7,20],[0],[],[],[],[]⟩,H [7,18,20],H [7,9],H [7,9,24],H [7],H [4,5]]
def ZR2:PC :=
 (R [0,3,20] [I 3 (.box (.s 1)),I 4 (.mv (.v .nils)),K 5 0])
def ZR3:PC :=
 (R [0,3,6,20] [M 10 0,T 11 5 3,I 12 (C Xz [(.s 10),(.s 11)]),M 6 12])
def ZR4:PC :=
 (R [0,3,6,14,20] [M 13 6,W 14 .neq 13 0])
def ZR5:PC :=
 (R [4,5] [M 15 6,I 4 (.mv (.v .nils)),M 5 15])
def ZR6:PC :=
 (R [0,3,7,20] [I 7 (.boxnil 1)])
def ZR7:PC :=
 (R [7,18,20] [M 16 0,T 17 5 3,I 18 (C X3 [(.s 16),(.s 17)])])
def ZR8:PC :=
 (R [7,9] [I 9 (.box (.v (.agg [(.int .i64 0),(.str []),.nils,(.int .i64 0)]))),N 4 9 20])
def ZR9:PC :=
 (R [7,9,24] [F 21 0 9,F 22 0 21,L 23 22,W 24 .eql 23 0])
def ZSA:PC :=
 (R [7] [L 25 7,F 26 0 9,F 27 1 26,L 28 27,I 29 (.bslice false 1 [(.str [])] [(0,(.s 28))]),I 30 (.app 1 16 (.s 25) (.s 29)),N 1 7 30])
def ZSB:PC :=
 (R [4,5] [L 31 7,M 4 31,K 5 0])
def p_rope_Leaves:RF:=⟨32,
 (D ZR2
 (D (D ZR3
 (D ZR4
 (E 14
 (D ZR5
 .ret)
 .skip)))
 (D ZR6
 (D ZR7
 .skip)))),
 ⟨(.s 18),[19,20],
 ZR8,
 (.block 1
 (D ZR9
 (E 24
 ZSA
 .skip)))⟩,
 (D .skip
 (D ZSB
 .ret)),
 [.s 4,.s 5]⟩
theorem Zav:ZOT Proofs.Tryz.prog Zau Proofs.Tryz.f89=some p_rope_Leaves:=by kernel_rfl
def ZKS:List Hint:=[H [0],⟨[0,3],[0],[],[],[],[]⟩,H [0,3,4],H [0,3,4,8],H [0,3,4,17],H [0,3,4],H [0,3,4],H [2]]
def ZHx:PC :=
 (R [0] [I 2 (.mv (.v .nils))])
def ZHy:PC :=
 (R [0,3] [I 3 (.onil 1)])
def ZHz:PC :=
 (R [0,3,4] [K 4 0])
def ZH0:PC :=
 (R [0,3,4,8] [M 5 4,M 6 0,I 7 (.len 1 (.s 6)),B 8 .lss 5 7])
def ZH1:PC :=
 (R [0,3,4,17] [M 11 3,M 12 0,M 13 4,I 14 (.ixS 1 (.s 12) (.s 13)),L 15 14,I 16 (C Qi [(.s 11),(.s 15)]),I 17 (.un .not (.s 16))])
def ZH2:PC :=
 (R [0,3,4] [M 18 3,M 19 0,M 20 4,I 21 (.ixS 1 (.s 19) (.s 20)),L 22 21,I 23 (.bslice false 1 [(.int .u64 0)] [(0,(.s 22))]),I 24 (.app 1 8 (.s 18) (.s 23)),M 3 24])
def ZH3:PC :=
 (R [0,3,4] [M 9 4,W 10 .add 9 1,M 4 10])
def ZH4:PC :=
 (D (D ZH0
 (E 8
 .skip
 (.exit 0)))
 (D (.block 1
 (D ZH1
 (E 17
 ZH2
 .skip)))
 ZH3))
def ZH5:PC :=
 (R [2] [M 25 3,M 2 25])
def ZCq:PF:=⟨false,
 (D ZHx
 (D ZHy
 (D (D ZHz
 (.block 0
 (.loop ZH4)))
 (D ZH5
 .ret)))),
 [.s 2]⟩
theorem ZKT:Zr Proofs.Tryz.prog false ZKS Proofs.Tryz.f90=some ZCq:=by kernel_rfl
def ZH6:List Hint:=[H [0],H [0,7],H [2],H [0,3],H [3],H [3,4,5],H [3,4,5,25],H [3,4,5],H [3,4,5],H [2]]
def ZE1:PC :=
 (R [0] [I 2 (.mv (.v .nils))])
def ZE2:PC :=
 (R [0,7] [M 6 0,I 7 (.eqs false 3 [] (.s 6) (.v .nilptr))])
def ZE3:PC :=
 (R [2] [I 2 (.mv (.v .nils))])
def ZE4:PC :=
 (R [0,3] [M 8 0,I 9 (.nilck (.s 8)),F 10 0 9,L 11 10,I 12 (.len 1 (.s 11)),I 13 (.mkslice 1 8 (.int .i64 0) (.s 12) (.s 12)),M 3 13])
def ZE5:PC :=
 (R [3] [M 14 3,M 15 0,I 16 (.nilck (.s 15)),F 17 0 16,L 18 17,I 19 (.cpy 1 (.s 14) (.s 18))])
def ZE6:PC :=
 (R [3,4,5] [M 20 3,I 21 (.len 1 (.s 20)),W 22 .sub 21 1,K 4 0,M 5 22])
def ZE7:PC :=
 (R [3,4,5,25] [M 23 4,M 24 5,B 25 .lss 23 24])
def ZE8:PC :=
 (R [3,4,5] [M 30 3,M 31 4,M 32 3,M 33 5,M 34 3,M 35 5,I 36 (.ixS 1 (.s 34) (.s 35)),L 37 36,M 38 3,M 39 4,I 40 (.ixS 1 (.s 38) (.s 39)),L 41 40,I 42 (.ixS 1 (.s 30) (.s 31)),N 1 42 37,I 43 (.ixS 1 (.s 32) (.s 33)),N 1 43 41])
def ZE9:PC :=
 (R [3,4,5] [M 26 4,W 27 .add 26 1,M 28 5,W 29 .sub 28 1,M 4 27,M 5 29])
def ZFA:PC :=
 (D (D ZE7
 (E 25
 .skip
 (.exit 0)))
 (D (.block 1
 ZE8)
 ZE9))
def ZDy:PC :=
 (R [2] [M 44 3,M 2 44])
def ZAy:PF:=⟨false,
 (D ZE1
 (D (D ZE2
 (E 7
 (D ZE3
 .ret)
 .skip))
 (D ZE4
 (D ZE5
 (D (D ZE6
 (.block 0
 (.loop ZFA)))
 (D ZDy
 .ret)))))),
 [.s 2]⟩
theorem ZH7:Zr Proofs.Tryz.prog false ZH6 Proofs.Tryz.f94=some ZAy:=by kernel_rfl
def ZC2:List Hint:=[H [0],H [2]]
def ZB0:PC :=
 (R [0] [I 2 (.mv (.v .nils))])
def ZB1:PC :=
 (R [2] [M 3 0,I 4 (C Yf [(.s 3),(.v (.int .u8 2))]),M 2 4])
def XB:PF:=⟨false,
 (D ZB0
 (D ZB1
 .ret)),
 [.s 2]⟩
theorem ZC3:Zr Proofs.Tryz.prog false ZC2 Proofs.Tryz.f95=some XB:=by kernel_rfl
def ZL9:List Hint:=[H [0,1,4],H [0,1,4,9],H [4,5],H [0,4,6,7],H [0,4,6,21],H [4],H [4,5],H [4,6],H [4,5]]
def ZJJ:PC :=
 (R [0,1,4] [I 4 (.box (.v ZN)),K 5 0])
def ZJK:PC :=
 (R [0,1,4,9] [M 8 0,I 9 (.eqs false 3 [] (.s 8) (.v .nilptr))])
def ZJL:PC :=
 (R [4,5] [I 10 (.build [(.int .i64 0),(.str []),.nils] []),N 3 4 10,K 5 1])
def ZJM:PC :=
 (R [0,4,6,7] [M 12 0,I 13 (.nilck (.s 12)),F 14 2 13,L 15 14,M 16 1,I 17 (.look 0 ZN true (.s 15) (.s 16)),M 11 17,X 18 11 0,X 19 11 1,I 6 (.box (.v ZN)),N 3 6 18,M 7 19])
def ZJN:PC :=
 (R [0,4,6,21] [M 20 7,I 21 (.un .not (.s 20))])
def ZJO:PC :=
 (R [4] [M 22 0,I 23 (.nilck (.s 22)),F 24 5 23,L 25 24,W 26 .add 25 1,I 27 (.nilck (.s 22)),F 28 5 27,N 1 28 26])
def ZJP:PC :=
 (R [4,5] [I 29 (.build [(.int .i64 0),(.str []),.nils] []),N 3 4 29,K 5 10])
def ZJQ:PC :=
 (R [4,6] [F 30 2 6,L 31 30,I 32 (C Z6 [(.s 31)]),F 33 2 6,N 1 33 32])
def ZJR:PC :=
 (R [4,5] [T 34 3 6,N 3 4 34,K 5 0])
def ZDH:PF:=⟨false,
 (D ZJJ
 (D (D ZJK
 (E 9
 (D ZJL
 .ret)
 .skip))
 (D ZJM
 (D (D ZJN
 (E 21
 (D ZJO
 (D ZJP
 .ret))
 .skip))
 (D ZJQ
 (D ZJR
 .ret)))))),
 [.c 4 true 3,.s 5]⟩
theorem ZMA:Zr Proofs.Tryz.prog false ZL9 Proofs.Tryz.f111=some ZDH:=by kernel_rfl
def Zej:List Hint:=[H [0,3],H [0,3,9],H [4],H [0,3,12],H [4],H [0,3,15],H [4],H [3,5,6],H [3,5,6,24],H [4],H [3,5,6,7],H [45],H [4],H [4]]
def ZWw:PC :=
 (R [0,3] [I 3 (.box (.s 1)),K 4 0])
def ZWx:PC :=
 (R [0,3,9] [M 8 0,I 9 (.eqs false 3 [] (.s 8) (.v .nilptr))])
def ZWy:PC :=
 (R [4] [K 4 1])
def ZWz:PC :=
 (R [0,3,12] [T 10 5 3,I 11 (.build [(.int .u64 0),(.int .i64 0),(.int .i64 0),(.int .i64 0),(.int .i64 0)] []),I 12 (.eqs false 0 [(0,0),(1,0),(2,0),(3,0),(4,0)] (.s 10) (.s 11))])
def ZW0:PC :=
 (R [4] [K 4 0])
def ZW1:PC :=
 (R [0,3,15] [F 13 0 3,L 14 13,I 15 (.bin .eql (.s 14) (.v (.int .u64 0)))])
def ZW2:PC :=
 (R [4] [K 4 2])
def ZW3:PC :=
 (R [3,5,6] [M 17 0,F 18 0 3,L 19 18,I 20 (C QS [(.s 17),(.s 19)]),M 16 20,X 21 16 0,X 22 16 1,I 5 (.box (.v ZN)),N 3 5 21,M 6 22])
def ZW4:PC :=
 (R [3,5,6,24] [M 23 6,W 24 .neq 23 0])
def ZW5:PC :=
 (R [4] [M 25 6,M 4 25])
def ZSC:PC :=
 (R [3,5,6,7] [T 27 3 5,I 28 (C YJ [(.s 27)]),M 26 28,X 29 26 0,X 30 26 1,I 7 (.box (.v ZM)),N 3 7 29,M 6 30])
def ZSD:PC :=
 (R [45] [M 31 6,W 32 .neq 31 0,M 33 32,G 34 33 false (.fadr 0 (.s 5)),G 35 33 false (.ld false 1 (.s 34)),G 36 33 false (.fadr 1 (.s 3)),G 37 33 false (.ld false 1 (.s 36)),G 38 33 false (.bin .neq (.s 35) (.s 37)),I 39 (.pick (.s 33) (.v (.bool true)) (.s 38)),M 40 39,G 41 40 false (.ld true 3 (.s 7)),G 42 40 false (.fadr 2 (.s 3)),G 43 40 false (.ld true 3 (.s 42)),G 44 40 false (.eqs true 0 [(0,0),(1,0),(2,0)] (.s 41) (.s 43)),I 45 (.pick (.s 40) (.v (.bool true)) (.s 44))])
def ZSE:PC :=
 (R [4] [K 4 23])
def ZSF:PC :=
 (R [4] [K 4 0])
def ZMB:PF:=⟨false,
 (D ZWw
 (D (D ZWx
 (E 9
 (D ZWy
 .ret)
 .skip))
 (D (D ZWz
 (E 12
 (D ZW0
 .ret)
 .skip))
 (D (D ZW1
 (E 15
 (D ZW2
 .ret)
 .skip))
 (D ZW3
 (D (D ZW4
 (E 24
 (D ZW5
 .ret)
 .skip))
 (D ZSC
 (D (D ZSD
 (E 45
 (D ZSE
 .ret)
 .skip))
 (D ZSF
 .ret))))))))),
 [.s 4]⟩
theorem Zek:Zr Proofs.Tryz.prog false Zej Proofs.Tryz.f116=some ZMB:=by kernel_rfl
def ZW6:List Hint:=[H [0,1],H [0,1,21],H [4,5],⟨[0,6],[],[],[],[(1,(.here 1)),(5,(.here 5)),(3,(.here 3))],[3,1,5]⟩,H [0,6,31,32],H [0,6,31,32,33],H [0,6,7,31,32],H [0,6,7,31,32],H [0,6,31,32],H [0,6,31,32],H [4,5]]
def ZOt:PC :=
 (R [0,1] [I 4 (.mv (.v .nilptr)),K 5 0])
def ZOu:PC :=
 (R [0,1,21] [M 8 0,W 9 .lss 8 1,M 10 9,U 11 10 false 0,G 12 10 false (.bin .gtr (.s 11) (V 16384)),I 13 (.pick (.s 10) (.v (.bool true)) (.s 12)),M 14 13,U 15 14 false 1,G 16 14 false (.bin .lss (.s 15) (.v (.int .u64 1))),I 17 (.pick (.s 14) (.v (.bool true)) (.s 16)),M 18 17,U 19 18 false 1,G 20 18 false (.bin .gtr (.s 19) (.v (.int .u64 4294967295))),I 21 (.pick (.s 18) (.v (.bool true)) (.s 20))])
def ZOv:PC :=
 (R [4,5] [I 4 (.mv (.v .nilptr)),K 5 3])
def ZOw:PC :=
 (.regH [3,1,5] [0,6] [M 22 0,I 23 (.w (.here 1) (.mkslice 1 8 (.int .i64 0) (.s 22) (.s 22))),M 24 0,I 25 (.w (.here 3) (.mkslice 1 1 (.int .u8 0) (.s 24) (.s 24))),M 26 0,I 27 (.w (.here 5) (.mkslice 1 8 (.int .u64 0) (.s 26) (.s 26))),M 28 1,I 29 (.build [.nils,.nils,.nils,(.int .u64 0)] [(0,1,(.s 23)),(1,1,(.s 25)),(2,1,(.s 27)),(3,1,(.s 28))]),I 30 (.box (.s 29)),M 6 30])
def ZOx:PC :=
 (R [0,6,31,32] [M 31 0,K 32 0])
def ZOy:PC :=
 (R [0,6,31,32,33] [B 33 .lss 32 31])
def ZOz:PC :=
 (R [0,6,7,31,32] [M 34 32,M 7 34])
def ZO0:PC :=
 (R [0,6,7,31,32] [M 35 6,I 36 (.nilck (.s 35)),F 37 0 36,L 38 37,M 39 7,M 40 0,W 41 .sub 40 1,M 42 7,B 43 .sub 41 42,I 44 (.ixS 1 (.s 38) (.s 39)),N 1 44 43])
def ZO1:PC :=
 (R [0,6,31,32] [M 45 6,I 46 (.nilck (.s 45)),F 47 2 46,L 48 47,M 49 7,I 50 (.ixS 1 (.s 48) (.s 49)),J (.st 1 (.s 50) (.v (.int .u64 1)))])
def ZO2:PC :=
 (R [0,6,31,32] [W 51 .add 32 1,M 32 51])
def ZMC:PC :=
 (D ZOy
 (D (E 33
 .skip
 (.exit 0))
 (D (.block 1
 (D ZOz
 (D ZO0
 ZO1)))
 ZO2)))
def ZMD:PC :=
 (R [4,5] [M 52 6,M 4 52,K 5 0])
def ZH8:PF:=⟨true,
 (D ZOt
 (D (D ZOu
 (E 21
 (D ZOv
 .ret)
 .skip))
 (D ZOw
 (D (D ZOx
 (.block 0
 (.loop ZMC)))
 (D ZMD
 .ret))))),
 [.s 4,.s 5]⟩
theorem ZW7:Zr Proofs.Tryz.prog true ZW6 Proofs.Tryz.f126=some ZH8:=by kernel_rfl
def Zel:List Hint:=[H [0,2],H [0,2,14],H [2,3],⟨[0,2,4],[0],[],[],[],[]⟩,H [2,4,17,18,19],H [2,4,17,18,19,20],H [2,4,6,17,18,19],H [2,4,17,18,19],H [2,4,17,18,19],H [2,4,31],H [2,4,7,8],H [2,4,7,8,39],H [2,3],⟨[2,4,7,9],[0],[],[],[],[]⟩,H [2,4,9,42,43,44],H [2,4,9,42,43,44,45],H [2,4,9,11,42,43,44],H [2,4,9,11,42,43,44],H [2,4,9,42,43,44],H [2,4,9,42,43,44],H [2,4],H [2,3]]
def ZW8:PC :=
 (R [0,2] [I 2 (.box (.v ZT)),K 3 0])
def ZW9:PC :=
 (R [0,2,14] [M 12 0,I 13 (.len 0 (.s 12)),W 14 .gtr 13 65536])
def ZXA:PC :=
 (R [2,3] [I 15 (.build [(.int .u64 0),(.int .i64 0),(.int .i64 0),(.int .i64 0),(.int .i64 0),(.str []),.nils] []),N 7 2 15,K 3 5])
def ZXB:PC :=
 (R [0,2,4] [I 4 (.onil 7)])
def ZXC:PC :=
 (R [2,4,17,18,19] [M 16 0,I 17 (C ZCW [(.s 16)]),I 18 (.len 1 (.s 17)),K 19 0])
def ZXD:PC :=
 (R [2,4,17,18,19,20] [B 20 .lss 19 18])
def ZXE:PC :=
 (R [2,4,6,17,18,19] [I 21 (.ixS 1 (.s 17) (.s 19)),L 22 21,M 6 22])
def ZXF:PC :=
 (R [2,4,17,18,19] [M 23 4,M 24 6,I 25 (.build [(.int .u64 0),(.int .i64 0),(.int .i64 0),(.int .i64 0),(.int .i64 0),(.str []),.nils] [(5,1,(.s 24))]),I 26 (.bslice false 7 [ZT] [(0,(.s 25))]),I 27 (.app 7 80 (.s 23) (.s 26)),M 4 27])
def ZXG:PC :=
 (R [2,4,17,18,19] [W 28 .add 19 1,M 19 28])
def ZXH:PC :=
 (D ZXD
 (D (E 20
 .skip
 (.exit 0))
 (D (.block 1
 (D ZXE
 ZXF))
 ZXG)))
def ZSG:PC :=
 (R [2,4,31] [M 29 4,I 30 (.len 1 (.s 29)),W 31 .gtr 30 1])
def ZSH:PC :=
 (R [2,4,7,8] [M 33 4,I 34 (.len 1 (.s 33)),I 35 (C ZEl [(.s 34),(V 4)]),M 32 35,X 36 32 0,X 37 32 1,M 7 36,M 8 37])
def ZSI:PC :=
 (R [2,4,7,8,39] [M 38 8,W 39 .neq 38 0])
def ZSJ:PC :=
 (R [2,3] [I 40 (.build [(.int .u64 0),(.int .i64 0),(.int .i64 0),(.int .i64 0),(.int .i64 0),(.str []),.nils] []),M 41 8,N 7 2 40,M 3 41])
def ZSK:PC :=
 (R [2,4,7,9] [I 9 (.onil 7)])
def ZSL:PC :=
 (R [2,4,9,42,43,44] [M 42 7,I 43 (.len 1 (.s 42)),K 44 0])
def ZSM:PC :=
 (R [2,4,9,42,43,44,45] [B 45 .lss 44 43])
def ZSN:PC :=
 (R [2,4,9,11,42,43,44] [I 46 (.ixS 1 (.s 42) (.s 44)),L 47 46,M 11 47])
def ZSO:PC :=
 (R [2,4,9,11,42,43,44] [M 48 9,M 49 4,M 50 11,I 51 (.slc 7 (.s 49) none (some (.s 50))),I 52 (C QP [(.s 51)]),I 53 (.bslice false 7 [ZT] [(0,(.s 52))]),I 54 (.app 7 80 (.s 48) (.s 53)),M 9 54])
def ZSP:PC :=
 (R [2,4,9,42,43,44] [M 55 4,M 56 11,I 57 (.slc 7 (.s 55) (some (.s 56)) none),M 4 57])
def ZSQ:PC :=
 (R [2,4,9,42,43,44] [W 58 .add 44 1,M 44 58])
def ZSR:PC :=
 (D ZSM
 (D (E 45
 .skip
 (.exit 4))
 (D (.block 5
 (D ZSN
 (D ZSO
 ZSP)))
 ZSQ)))
def ZSS:PC :=
 (R [2,4] [M 59 9,M 4 59])
def ZFl:PC :=
 (D (D ZSG
 (E 31
 .skip
 (.exit 2)))
 (.block 3
 (D ZSH
 (D (D ZSI
 (E 39
 (D ZSJ
 .ret)
 .skip))
 (D ZSK
 (D (D ZSL
 (.block 4
 (.loop ZSR)))
 ZSS))))))
def ZFm:PC :=
 (R [2,3] [M 60 4,I 61 (C QP [(.s 60)]),N 7 2 61,K 3 0])
def ZME:PF:=⟨false,
 (D ZW8
 (D (D ZW9
 (E 14
 (D ZXA
 .ret)
 .skip))
 (D ZXB
 (D (D ZXC
 (.block 0
 (.loop ZXH)))
 (D (.block 2
 (.loop ZFl))
 (D ZFm
 .ret)))))),
 [.c 2 true 7,.s 3]⟩
theorem Zem:Zr Proofs.Tryz.prog false Zel Proofs.Tryz.f127=some ZME:=by kernel_rfl
def ZXI:List Hint:=[H [0,2,3,4,6,10],H [0,2,3,4,6,10,12],H [0,2,3,4,6,10,12,24],H [10,11],H [0,2,3,4,6,10,13],H [0,2,3,4,6,10,13,46],H [10,11],H [0,2,3,4,6,10,60],H [10,11],H [0,2,3,4,6,10,67],H [10,11],H [0,3,4,10,14,15,16],H [0,3,4,10,14,15,16,79],H [10,11],H [0,4,10,14,16,18],H [0,4,10,14,16,18,91],H [10,11],H [0,10,14,16,18,19],H [0,10,14,16,18,19,100],H [10,11],H [0,10,14,16,18],H [0,10,14,16,18,111],H [10,11],H [10,14,16],H [10,11]]
def ZO3:PC :=
 (R [0,2,3,4,6,10] [I 6 (.box (.s 1)),I 10 (.box (.v ZT)),K 11 0])
def ZO4:PC :=
 (R [0,2,3,4,6,10,12] [M 20 0,T 21 7 6,I 22 (C Jk [(.s 20),(.s 21)]),M 12 22])
def ZO5:PC :=
 (R [0,2,3,4,6,10,12,24] [M 23 12,W 24 .neq 23 0])
def ZO6:PC :=
 (R [10,11] [I 25 (.build [(.int .u64 0),(.int .i64 0),(.int .i64 0),(.int .i64 0),(.int .i64 0),(.str []),.nils] []),M 26 12,N 7 10 25,M 11 26])
def ZO7:PC :=
 (R [0,2,3,4,6,10,13] [T 27 7 6,I 28 (C Qb [(.s 27)]),M 13 28])
def ZO8:PC :=
 (R [0,2,3,4,6,10,13,46] [M 29 2,W 30 .lss 29 0,M 31 30,U 32 31 false 2,U 33 31 false 13,G 34 31 false (.bin .gtr (.s 32) (.s 33)),I 35 (.pick (.s 31) (.v (.bool true)) (.s 34)),M 36 35,U 37 36 false 3,G 38 36 false (.bin .lss (.s 37) (V 0)),I 39 (.pick (.s 36) (.v (.bool true)) (.s 38)),M 40 39,U 41 40 false 3,U 42 40 false 13,U 43 40 false 2,G 44 40 false (.bin .sub (.s 42) (.s 43)),G 45 40 false (.bin .gtr (.s 41) (.s 44)),I 46 (.pick (.s 40) (.v (.bool true)) (.s 45))])
def ZO9:PC :=
 (R [10,11] [I 47 (.build [(.int .u64 0),(.int .i64 0),(.int .i64 0),(.int .i64 0),(.int .i64 0),(.str []),.nils] []),N 7 10 47,K 11 3])
def ZPA:PC :=
 (R [0,2,3,4,6,10,60] [M 48 13,M 49 3,B 50 .sub 48 49,M 51 4,I 52 (.len 0 (.s 51)),I 53 (.mnx false (.s 52) (V 65536)),I 54 (.bin .sub (V 65536) (.s 53)),B 55 .gtr 50 54,M 56 55,U 57 56 false 4,G 58 56 false (.len 0 (.s 57)),G 59 56 false (.bin .gtr (.s 58) (V 65536)),I 60 (.pick (.s 56) (.v (.bool true)) (.s 59))])
def ZPB:PC :=
 (R [10,11] [I 61 (.build [(.int .u64 0),(.int .i64 0),(.int .i64 0),(.int .i64 0),(.int .i64 0),(.str []),.nils] []),N 7 10 61,K 11 5])
def ZPC:PC :=
 (R [0,2,3,4,6,10,67] [M 62 3,W 63 .eql 62 0,M 64 63,U 65 64 true 4,G 66 64 true (.bin .eql (.s 65) (.v (.str []))),I 67 (.pick (.s 64) (.s 66) (.v (.bool false)))])
def ZMF:PC :=
 (R [10,11] [T 68 7 6,I 69 (C Xf [(.s 68)]),N 7 10 69,K 11 0])
def ZMG:PC :=
 (R [0,3,4,10,14,15,16] [M 71 0,T 72 7 6,M 73 2,I 74 (C Xe [(.s 71),(.s 72),(.s 73)]),M 70 74,X 75 70 0,X 76 70 1,X 77 70 2,I 14 (.box (.v ZT)),I 15 (.box (.v ZT)),N 7 14 75,N 7 15 76,M 16 77])
def ZMH:PC :=
 (R [0,3,4,10,14,15,16,79] [M 78 16,W 79 .neq 78 0])
def ZMI:PC :=
 (R [10,11] [I 80 (.build [(.int .u64 0),(.int .i64 0),(.int .i64 0),(.int .i64 0),(.int .i64 0),(.str []),.nils] []),M 81 16,N 7 10 80,M 11 81])
def ZMJ:PC :=
 (R [0,4,10,14,16,18] [M 83 0,T 84 7 15,M 85 3,I 86 (C Xe [(.s 83),(.s 84),(.s 85)]),M 82 86,X 87 82 0,X 88 82 1,X 89 82 2,I 17 (.box (.v ZT)),I 18 (.box (.v ZT)),N 7 17 87,N 7 18 88,M 16 89])
def ZMK:PC :=
 (R [0,4,10,14,16,18,91] [M 90 16,W 91 .neq 90 0])
def ZML:PC :=
 (R [10,11] [I 92 (.build [(.int .u64 0),(.int .i64 0),(.int .i64 0),(.int .i64 0),(.int .i64 0),(.str []),.nils] []),M 93 16,N 7 10 92,M 11 93])
def ZMM:PC :=
 (R [0,10,14,16,18,19] [M 95 4,I 96 (C X4 [(.s 95)]),M 94 96,X 97 94 0,X 98 94 1,I 19 (.box (.v ZT)),N 7 19 97,M 16 98])
def ZMN:PC :=
 (R [0,10,14,16,18,19,100] [M 99 16,W 100 .neq 99 0])
def ZMO:PC :=
 (R [10,11] [I 101 (.build [(.int .u64 0),(.int .i64 0),(.int .i64 0),(.int .i64 0),(.int .i64 0),(.str []),.nils] []),M 102 16,N 7 10 101,M 11 102])
def ZMP:PC :=
 (R [0,10,14,16,18] [M 104 0,T 105 7 14,T 106 7 19,I 107 (C Ya [(.s 104),(.s 105),(.s 106)]),M 103 107,X 108 103 0,X 109 103 1,N 7 14 108,M 16 109])
def ZMQ:PC :=
 (R [0,10,14,16,18,111] [M 110 16,W 111 .neq 110 0])
def ZMR:PC :=
 (R [10,11] [I 112 (.build [(.int .u64 0),(.int .i64 0),(.int .i64 0),(.int .i64 0),(.int .i64 0),(.str []),.nils] []),M 113 16,N 7 10 112,M 11 113])
def ZMS:PC :=
 (R [10,14,16] [M 115 0,T 116 7 14,T 117 7 18,I 118 (C Ya [(.s 115),(.s 116),(.s 117)]),M 114 118,X 119 114 0,X 120 114 1,N 7 14 119,M 16 120])
def ZMT:PC :=
 (R [10,11] [T 121 7 14,I 122 (C Xf [(.s 121)]),M 123 16,N 7 10 122,M 11 123])
def ZH9:PF:=⟨false,
 (D ZO3
 (D (D ZO4
 (D ZO5
 (E 24
 (D ZO6
 .ret)
 .skip)))
 (D ZO7
 (D (D ZO8
 (E 46
 (D ZO9
 .ret)
 .skip))
 (D (D ZPA
 (E 60
 (D ZPB
 .ret)
 .skip))
 (D (D ZPC
 (E 67
 (D ZMF
 .ret)
 .skip))
 (D ZMG
 (D (D ZMH
 (E 79
 (D ZMI
 .ret)
 .skip))
 (D ZMJ
 (D (D ZMK
 (E 91
 (D ZML
 .ret)
 .skip))
 (D ZMM
 (D (D ZMN
 (E 100
 (D ZMO
 .ret)
 .skip))
 (D (D ZMP
 (D ZMQ
 (E 111
 (D ZMR
 .ret)
 .skip)))
 (D ZMS
 (D ZMT
 .ret))))))))))))))),
 [.c 10 true 7,.s 11]⟩
theorem ZXJ:Zr Proofs.Tryz.prog false ZXI Proofs.Tryz.f134=some ZH9:=by kernel_rfl
def Zen:List Hint:=[H [0,3],H [0,3,7],H [4],H [0,3,10],H [4],H [3,5],H [3,5,15],H [4],H [19],H [4],H [4]]
def ZXK:PC :=
 (R [0,3] [I 3 (.box (.s 1)),K 4 0])
def ZXL:PC :=
 (R [0,3,7] [M 6 0,I 7 (.eqs false 3 [] (.s 6) (.v .nilptr))])
def ZXM:PC :=
 (R [4] [K 4 1])
def ZXN:PC :=
 (R [0,3,10] [T 8 7 3,I 9 (C Qj [(.s 8)]),W 10 .eql 9 1])
def ZXO:PC :=
 (R [4] [K 4 0])
def ZXP:PC :=
 (R [3,5] [M 11 0,T 12 7 3,I 13 (C ZBp [(.s 11),(.s 12),(.v (.bool false)),(V 0)]),M 5 13])
def ZXQ:PC :=
 (R [3,5,15] [M 14 5,W 15 .neq 14 0])
def ZXR:PC :=
 (R [4] [M 16 5,M 4 16])
def ZXS:PC :=
 (R [19] [T 17 7 3,I 18 (C Qb [(.s 17)]),W 19 .gtr 18 65536])
def ZXT:PC :=
 (R [4] [K 4 5])
def ZST:PC :=
 (R [4] [K 4 0])
def ZMU:PF:=⟨false,
 (D ZXK
 (D (D ZXL
 (E 7
 (D ZXM
 .ret)
 .skip))
 (D (D ZXN
 (E 10
 (D ZXO
 .ret)
 .skip))
 (D (D ZXP
 (D ZXQ
 (E 15
 (D ZXR
 .ret)
 .skip)))
 (D (D ZXS
 (E 19
 (D ZXT
 .ret)
 .skip))
 (D ZST
 .ret)))))),
 [.s 4]⟩
theorem Zeo:Zr Proofs.Tryz.prog false Zen Proofs.Tryz.f135=some ZMU:=by kernel_rfl
def Zaw:List Hint:=[H [1,2,3,4],H [1,2,3,4,15],H [2,6,7],H [7],H [5],H [3,8,9],H [3,8,9,33],H [5],H [3,35,36,37],H [3,35,36,37,38],H [3,11,35,36,37],H [3,12,35,36,37],H [3,12,35,36,37,45],H [5],H [3,35,36,37],H [5]]
def ZSU:PC :=
 (R [1,2,3,4] [I 4 (.box (.s 0)),K 5 0])
def ZSV:PC :=
 (R [1,2,3,4,15] [F 13 1 4,L 14 13,W 15 .eql 14 0])
def ZSW:PC :=
 (R [2,6,7] [L 17 1,T 18 7 4,I 19 (C Xn [(.s 17),(.s 18)]),M 16 19,X 20 16 0,X 21 16 1,M 6 20,M 7 21])
def ZSX:PC :=
 (R [7] [L 22 2,M 23 6,I 24 (.app 1 1 (.s 22) (.s 23)),N 1 2 24])
def ZSY:PC :=
 (R [5] [M 25 7,M 5 25])
def ZSZ:PC :=
 (R [3,8,9] [L 27 1,T 28 7 4,I 29 (C J0 [(.s 27),(.s 28)]),M 26 29,X 30 26 0,X 31 26 1,M 8 30,M 9 31])
def ZSa:PC :=
 (R [3,8,9,33] [M 32 9,W 33 .neq 32 0])
def ZSb:PC :=
 (R [5] [M 34 9,M 5 34])
def ZSc:PC :=
 (R [3,35,36,37] [M 35 8,I 36 (.len 1 (.s 35)),K 37 0])
def ZSd:PC :=
 (R [3,35,36,37,38] [B 38 .lss 37 36])
def ZPD:PC :=
 (R [3,11,35,36,37] [I 39 (.ixS 7 (.s 35) (.s 37)),T 40 7 39,I 11 (.box (.v ZT)),N 7 11 40])
def ZPE:PC :=
 (R [3,12,35,36,37] [L 41 3,T 42 7 11,I 43 (.call .norm (.s 41) [(.s 42)]),M 12 43])
def ZPF:PC :=
 (R [3,12,35,36,37,45] [M 44 12,W 45 .neq 44 0])
def ZPG:PC :=
 (R [5] [M 46 12,M 5 46])
def ZPH:PC :=
 (R [3,35,36,37] [W 47 .add 37 1,M 37 47])
def ZPI:PC :=
 (D ZSd
 (D (E 38
 .skip
 (.exit 0))
 (D (.block 1
 (D ZPD
 (D ZPE
 (D ZPF
 (E 45
 (D ZPG
 .ret)
 .skip)))))
 ZPH)))
def ZPJ:PC :=
 (R [5] [K 5 0])
def ZJf:PF:=⟨false,
 (D ZSU
 (D (D ZSV
 (E 15
 (D ZSW
 (D ZSX
 (D ZSY
 .ret)))
 .skip))
 (D ZSZ
 (D (D ZSa
 (E 33
 (D ZSb
 .ret)
 .skip))
 (D (D ZSc
 (.block 0
 (.loop ZPI)))
 (D ZPJ
 .ret)))))),
 [.s 5]⟩
theorem Zax:Zr Proofs.Tryz.prog false Zaw Proofs.Tryz.f136=some ZJf:=by kernel_rfl
def ZhQ:List Hint:=[H [0,3],H [0,3,10],H [4,5],H [6,7],H [4,5]]
def Zay:PC :=
 (R [0,3] [I 3 (.box (.s 1)),I 4 (.mv (.v (.str []))),K 5 0])
def Zaz:PC :=
 (R [0,3,10] [F 8 0 3,L 9 8,I 10 (.bin .eql (.s 9) (.v (.int .u64 0)))])
def Za0:PC :=
 (R [4,5] [F 11 5 3,L 12 11,M 4 12,K 5 0])
def Za1:PC :=
 (R [6,7] [M 14 0,F 15 0 3,L 16 15,I 17 (C QS [(.s 14),(.s 16)]),M 13 17,X 18 13 0,X 19 13 1,I 6 (.box (.v ZN)),N 3 6 18,M 7 19])
def Za2:PC :=
 (R [4,5] [F 20 1 6,L 21 20,M 22 7,M 4 21,M 5 22])
def ZRG:PF:=⟨false,
 (D Zay
 (D (D Zaz
 (E 10
 (D Za0
 .ret)
 .skip))
 (D Za1
 (D Za2
 .ret)))),
 [.s 4,.s 5]⟩
theorem ZhR:Zr Proofs.Tryz.prog false ZhQ Proofs.Tryz.f137=some ZRG:=by kernel_rfl
def ZSe:List Hint:=[H [0,3],H [0,3,13],H [4,5],H [6,7],H [6,7,24],H [4,5],⟨[6,8],[0],[],[],[],[]⟩,H [6,8,27,28,29],H [6,8,27,28,29,30],H [6,8,10,27,28,29],H [6,8,27,28,29],H [6,8,27,28,29],H [8,47],H [4,5],H [4,5]]
def ZMV:PC :=
 (R [0,3] [I 3 (.box (.s 1)),I 4 (.mv (.v .nils)),K 5 0])
def ZMW:PC :=
 (R [0,3,13] [F 11 0 3,L 12 11,I 13 (.bin .eql (.s 12) (.v (.int .u64 0)))])
def ZMX:PC :=
 (R [4,5] [F 14 6 3,L 15 14,M 4 15,K 5 0])
def ZMY:PC :=
 (R [6,7] [M 17 0,F 18 0 3,L 19 18,I 20 (C QS [(.s 17),(.s 19)]),M 16 20,X 21 16 0,X 22 16 1,I 6 (.box (.v ZN)),N 3 6 21,M 7 22])
def ZMZ:PC :=
 (R [6,7,24] [M 23 7,W 24 .neq 23 0])
def ZMa:PC :=
 (R [4,5] [M 25 7,I 4 (.mv (.v .nils)),M 5 25])
def ZMb:PC :=
 (R [6,8] [I 8 (.onil 7)])
def ZMc:PC :=
 (R [6,8,27,28,29] [F 26 2 6,L 27 26,I 28 (.len 1 (.s 27)),K 29 0])
def ZMd:PC :=
 (R [6,8,27,28,29,30] [B 30 .lss 29 28])
def ZMe:PC :=
 (R [6,8,10,27,28,29] [I 31 (.ixS 4 (.s 27) (.s 29)),T 32 4 31,I 10 (.box (.v ZK)),N 4 10 32])
def ZKU:PC :=
 (R [6,8,27,28,29] [M 33 8,F 34 0 10,L 35 34,F 36 0 6,L 37 36,W 38 .sub 37 1,F 39 1 10,T 40 3 39,I 41 (.build [(.int .u64 0),(.int .i64 0),(.int .i64 0),(.int .i64 0),(.int .i64 0),(.str []),.nils] [(0,1,(.s 35)),(1,1,(.s 38)),(2,3,(.s 40))]),I 42 (.bslice false 7 [ZT] [(0,(.s 41))]),I 43 (.app 7 80 (.s 33) (.s 42)),M 8 43])
def ZKV:PC :=
 (R [6,8,27,28,29] [W 44 .add 29 1,M 29 44])
def ZCr:PC :=
 (D ZMd
 (D (E 30
 .skip
 (.exit 0))
 (D (.block 1
 (D ZMe
 ZKU))
 ZKV)))
def ZKW:PC :=
 (R [8,47] [M 45 8,I 46 (.len 1 (.s 45)),W 47 .eql 46 0])
def ZKX:PC :=
 (R [4,5] [I 4 (.mv (.v .nils)),K 5 23])
def ZKY:PC :=
 (R [4,5] [M 48 8,M 4 48,K 5 0])
def ZFn:PF:=⟨false,
 (D ZMV
 (D (D ZMW
 (E 13
 (D ZMX
 .ret)
 .skip))
 (D ZMY
 (D (D ZMZ
 (E 24
 (D ZMa
 .ret)
 .skip))
 (D ZMb
 (D (D ZMc
 (.block 0
 (.loop ZCr)))
 (D (D ZKW
 (E 47
 (D ZKX
 .ret)
 .skip))
 (D ZKY
 .ret)))))))),
 [.s 4,.s 5]⟩
theorem ZSf:Zr Proofs.Tryz.prog false ZSe Proofs.Tryz.f138=some ZFn:=by kernel_rfl
def ZhS:List Hint:=[H [1],H [1,3],H [1,3,13],H [2],H [1,3,31],H [2],H [1,3,46],H [2],H [65],H [2],H [2]]
def Za3:PC :=
 (R [1] [I 1 (.box (.s 0)),K 2 0])
def Za4:PC :=
 (R [1,3] [F 4 2 1,T 5 3 4,I 6 (.build [(.int .i64 0),(.int .i64 0),(.int .i64 0)] []),I 7 (.eqs false 0 [(0,0),(1,0),(2,0)] (.s 5) (.s 6)),M 8 7,G 9 8 true (.fadr 0 (.s 1)),G 10 8 true (.ld false 1 (.s 9)),G 11 8 true (.bin .eql (.s 10) (.v (.int .u64 0))),I 12 (.pick (.s 8) (.s 11) (.v (.bool false))),M 3 12])
def Za5:PC :=
 (R [1,3,13] [M 14 3,M 15 14,G 16 15 true (.fadr 1 (.s 1)),G 17 15 true (.ld false 1 (.s 16)),G 18 15 true (.bin .eql (.s 17) (V 0)),I 19 (.pick (.s 15) (.s 18) (.v (.bool false))),M 20 19,G 21 20 true (.fadr 5 (.s 1)),G 22 20 true (.ld false 1 (.s 21)),G 23 20 true (.bin .eql (.s 22) (.v (.str []))),I 24 (.pick (.s 20) (.s 23) (.v (.bool false))),M 25 24,G 26 25 true (.fadr 6 (.s 1)),G 27 25 true (.ld false 1 (.s 26)),G 28 25 true (.len 1 (.s 27)),G 29 25 true (.bin .eql (.s 28) (V 0)),I 30 (.pick (.s 25) (.s 29) (.v (.bool false))),M 13 30])
def Za6:PC :=
 (R [2] [K 2 1])
def Za7:PC :=
 (R [1,3,31] [F 32 0 1,L 33 32,I 34 (.bin .neq (.s 33) (.v (.int .u64 0))),M 35 34,G 36 35 true (.fadr 5 (.s 1)),G 37 35 true (.ld false 1 (.s 36)),G 38 35 true (.bin .eql (.s 37) (.v (.str []))),I 39 (.pick (.s 35) (.s 38) (.v (.bool false))),M 40 39,G 41 40 true (.fadr 6 (.s 1)),G 42 40 true (.ld false 1 (.s 41)),G 43 40 true (.len 1 (.s 42)),G 44 40 true (.bin .eql (.s 43) (V 0)),I 45 (.pick (.s 40) (.s 44) (.v (.bool false))),M 31 45])
def Za8:PC :=
 (R [2] [K 2 2])
def Za9:PC :=
 (R [1,3,46] [M 47 3,M 48 47,G 49 48 true (.fadr 1 (.s 1)),G 50 48 true (.ld false 1 (.s 49)),G 51 48 true (.bin .eql (.s 50) (V 0)),I 52 (.pick (.s 48) (.s 51) (.v (.bool false))),M 53 52,G 54 53 true (.fadr 6 (.s 1)),G 55 53 true (.ld false 1 (.s 54)),G 56 53 true (.len 1 (.s 55)),G 57 53 true (.bin .eql (.s 56) (V 0)),I 58 (.pick (.s 53) (.s 57) (.v (.bool false))),M 59 58,G 60 59 true (.fadr 5 (.s 1)),G 61 59 true (.ld false 1 (.s 60)),G 62 59 true (.len 0 (.s 61)),G 63 59 true (.bin .leq (.s 62) (V 16)),I 64 (.pick (.s 59) (.s 63) (.v (.bool false))),M 46 64])
def ZbA:PC :=
 (R [2] [K 2 3])
def ZbB:PC :=
 (R [65] [M 66 3,M 67 66,G 68 67 true (.fadr 5 (.s 1)),G 69 67 true (.ld false 1 (.s 68)),G 70 67 true (.bin .eql (.s 69) (.v (.str []))),I 71 (.pick (.s 67) (.s 70) (.v (.bool false))),M 72 71,G 73 72 true (.fadr 1 (.s 1)),G 74 72 true (.ld false 1 (.s 73)),G 75 72 true (.bin .geq (.s 74) (V 1)),I 76 (.pick (.s 72) (.s 75) (.v (.bool false))),M 77 76,G 78 77 true (.fadr 1 (.s 1)),G 79 77 true (.ld false 1 (.s 78)),G 80 77 true (.bin .leq (.s 79) (V 16)),I 81 (.pick (.s 77) (.s 80) (.v (.bool false))),M 82 81,G 83 82 true (.fadr 6 (.s 1)),G 84 82 true (.ld false 1 (.s 83)),G 85 82 true (.len 1 (.s 84)),G 86 82 true (.bin .geq (.s 85) (V 2)),I 87 (.pick (.s 82) (.s 86) (.v (.bool false))),M 88 87,G 89 88 true (.fadr 6 (.s 1)),G 90 88 true (.ld false 1 (.s 89)),G 91 88 true (.len 1 (.s 90)),G 92 88 true (.bin .leq (.s 91) (V 4)),I 93 (.pick (.s 88) (.s 92) (.v (.bool false))),M 65 93])
def ZbC:PC :=
 (R [2] [K 2 4])
def ZXU:PC :=
 (R [2] [K 2 0])
def ZRH:PF:=⟨false,
 (D Za3
 (D Za4
 (D (.block 0
 (D Za5
 (E 13
 (D Za6
 .ret)
 (D Za7
 (E 31
 (D Za8
 .ret)
 (D Za9
 (E 46
 (D ZbA
 .ret)
 (D ZbB
 (E 65
 (D ZbC
 .ret)
 .skip)))))))))
 (D ZXU
 .ret)))),
 [.s 2]⟩
theorem ZhT:Zr Proofs.Tryz.prog false ZhS Proofs.Tryz.f139=some ZRH:=by kernel_rfl
def Zep:List Hint:=[H [0,3],H [0,3,6],H [0,3,6,12],H [4,5],H [0,3,19],H [4,5],H [3,7],H [7],H [4,5]]
def ZXV:PC :=
 (R [0,3] [I 3 (.box (.s 1)),I 4 (.mv (.v .nilptr)),K 5 0])
def ZXW:PC :=
 (R [0,3,6] [M 8 0,T 9 7 3,I 10 (C Jk [(.s 8),(.s 9)]),M 6 10])
def ZXX:PC :=
 (R [0,3,6,12] [M 11 6,W 12 .neq 11 0])
def ZXY:PC :=
 (R [4,5] [M 13 6,I 4 (.mv (.v .nilptr)),M 5 13])
def ZXZ:PC :=
 (R [0,3,19] [T 14 7 3,I 15 (C ZAZ [(.s 14)]),M 16 0,I 17 (C XE [(.s 16)]),I 18 (.fld false 1 1 (.s 17)),B 19 .gtr 15 18])
def ZXa:PC :=
 (R [4,5] [I 4 (.mv (.v .nilptr)),K 5 6])
def ZXb:PC :=
 (R [3,7] [M 20 0,I 21 (.build [.nilptr,.nils,.nilptr] [(0,1,(.s 20))]),I 22 (.box (.s 21)),M 7 22])
def ZXc:PC :=
 (R [7] [M 23 7,M 24 7,T 25 7 3,I 26 (C Qn [(.s 24),(.s 25)]),I 27 (.nilck (.s 23)),F 28 2 27,N 1 28 26])
def ZXd:PC :=
 (R [4,5] [M 29 7,M 4 29,K 5 0])
def ZMf:PF:=⟨true,
 (D ZXV
 (D (D ZXW
 (D ZXX
 (E 12
 (D ZXY
 .ret)
 .skip)))
 (D (D ZXZ
 (E 19
 (D ZXa
 .ret)
 .skip))
 (D ZXb
 (D ZXc
 (D ZXd
 .ret)))))),
 [.s 4,.s 5]⟩
theorem Zeq:Zr Proofs.Tryz.prog true Zep Proofs.Tryz.f140=some ZMf:=by kernel_rfl
def ZSg:List Hint:=[H [0],H [0,6],H [2,3,4],H [0,12],H [2,3,4],H [0,2,4],H [0,2,4,24],H [2,3,4],H [0,2],H [2,3,4]]
def ZMg:PC :=
 (R [0] [I 2 (.mv (.v (.int .u64 0))),I 3 (.mv (.v (.bool false))),K 4 0])
def ZMh:PC :=
 (R [0,6] [M 5 0,I 6 (.eqs false 3 [] (.s 5) (.v .nilptr))])
def ZMi:PC :=
 (R [2,3,4] [I 2 (.mv (.v (.int .u64 0))),I 3 (.mv (.v (.bool false))),K 4 1])
def ZMj:PC :=
 (R [0,12] [M 7 0,I 8 (.nilck (.s 7)),F 9 1 8,L 10 9,I 11 (.len 1 (.s 10)),W 12 .eql 11 0])
def ZMk:PC :=
 (R [2,3,4] [I 2 (.mv (.v (.int .u64 0))),I 3 (.mv (.v (.bool true))),K 4 0])
def ZMl:PC :=
 (R [0,2,4] [M 14 0,I 15 (.nilck (.s 14)),F 16 1 15,L 17 16,I 18 (.ixS 1 (.s 17) (V 0)),L 19 18,I 20 (.call .norm (.s 19) []),M 13 20,X 21 13 0,X 22 13 1,M 2 21,M 4 22])
def ZMm:PC :=
 (R [0,2,4,24] [M 23 4,W 24 .neq 23 0])
def ZMn:PC :=
 (R [2,3,4] [M 25 4,I 2 (.mv (.v (.int .u64 0))),I 3 (.mv (.v (.bool false))),M 4 25])
def ZMo:PC :=
 (R [0,2] [M 26 0,M 27 0,I 28 (.nilck (.s 27)),F 29 1 28,L 30 29,I 31 (.slc 1 (.s 30) (some (V 1)) none),I 32 (.nilck (.s 26)),F 33 1 32,N 1 33 31])
def ZMp:PC :=
 (R [2,3,4] [M 34 2,M 35 0,I 36 (.nilck (.s 35)),F 37 1 36,L 38 37,I 39 (.len 1 (.s 38)),W 40 .eql 39 0,M 2 34,M 3 40,K 4 0])
def ZFo:PF:=⟨false,
 (D ZMg
 (D (D ZMh
 (E 6
 (D ZMi
 .ret)
 .skip))
 (D (D ZMj
 (E 12
 (D ZMk
 .ret)
 .skip))
 (D ZMl
 (D (D ZMm
 (E 24
 (D ZMn
 .ret)
 .skip))
 (D ZMo
 (D ZMp
 .ret))))))),
 [.s 2,.s 3,.s 4]⟩
theorem ZSh:Zr Proofs.Tryz.prog false ZSg Proofs.Tryz.f141=some ZFo:=by kernel_rfl
def ZSi:List Hint:=[H [0,2],H [0,2,5],H [2,3],H [0,2,12],H [2,3],H [2,3]]
def ZMq:PC :=
 (R [0,2] [I 2 (.box (.v ZR)),K 3 0])
def ZMr:PC :=
 (R [0,2,5] [M 4 0,I 5 (.eqs false 3 [] (.s 4) (.v .nilptr))])
def ZMs:PC :=
 (R [2,3] [I 6 (.build [(.int .u64 0),(.int .i64 0),(.int .i64 0),(.int .i64 0),(.int .i64 0)] []),N 5 2 6,K 3 1])
def ZMt:PC :=
 (R [0,2,12] [M 7 0,I 8 (.nilck (.s 7)),F 9 1 8,L 10 9,I 11 (.len 1 (.s 10)),W 12 .gtr 11 0])
def ZMu:PC :=
 (R [2,3] [I 13 (.build [(.int .u64 0),(.int .i64 0),(.int .i64 0),(.int .i64 0),(.int .i64 0)] []),N 5 2 13,K 3 8])
def ZMv:PC :=
 (R [2,3] [M 14 0,I 15 (.nilck (.s 14)),F 16 2 15,L 17 16,I 18 (.nilck (.s 17)),T 19 5 18,N 5 2 19,K 3 0])
def ZFp:PF:=⟨false,
 (D ZMq
 (D (D ZMr
 (E 5
 (D ZMs
 .ret)
 .skip))
 (D (D ZMt
 (E 12
 (D ZMu
 .ret)
 .skip))
 (D ZMv
 .ret)))),
 [.c 2 true 5,.s 3]⟩
theorem ZSj:Zr Proofs.Tryz.prog false ZSi Proofs.Tryz.f142=some ZFp:=by kernel_rfl
def ZSk:List Hint:=[H [0,1,2,3,4,11],H [0,1,2,3,4,6,7,9],H [0,1,2,3,4,6,7,9,28],H [0,1,2,3,4,6,7,9],H [0,1,2,3,4,6,7,9,30],H [],H [0,1,2,3,4,6],H [0,1,2,3,4,6,46],⟨[0,1,2,3,4],[],[],[],[(4,(.hide [(.s 4)])),(8,(.plain (.s 4)))],[]⟩]
def ZMw:PC :=
 (R [0,1,2,3,4,11] [L 10 1,W 11 .gtr 10 0])
def ZMx:PC :=
 (R [0,1,2,3,4,6,7,9] [L 13 2,T 14 5 3,L 15 4,I 16 (C ZG9 [(.s 13),(.s 14),(.s 15)]),M 12 16,X 17 12 0,X 18 12 1,X 19 12 2,X 20 12 3,M 6 17,M 7 18,M 8 19,M 9 20])
def ZMy:PC :=
 (R [0,1,2,3,4,6,7,9,28] [M 21 9,W 22 .eql 21 0,M 23 22,U 24 23 true 7,U 25 23 true 6,G 26 23 true (.len 0 (.s 25)),G 27 23 true (.bin .geq (.s 24) (.s 26)),I 28 (.pick (.s 23) (.s 27) (.v (.bool false)))])
def ZMz:PC :=
 (R [0,1,2,3,4,6,7,9] [K 9 23])
def ZM0:PC :=
 (R [0,1,2,3,4,6,7,9,30] [M 29 9,W 30 .neq 29 0])
def ZM1:PC :=
 (R [] [M 31 0,M 32 9,I 33 (.call .norm (.s 31) [(.v (.str [])),(.s 32)])])
def ZM2:PC :=
 (R [0,1,2,3,4,6] [M 34 6,M 35 7,M 36 6,I 37 (.len 0 (.s 36)),M 38 7,L 39 1,B 40 .add 38 39,I 41 (.mnx false (.s 37) (.s 40)),I 42 (.slcS (.s 34) (some (.s 35)) (some (.s 41))),M 6 42])
def ZM3:PC :=
 (R [0,1,2,3,4,6,46] [M 43 0,M 44 6,I 45 (.call .norm (.s 43) [(.s 44),(V 0)]),I 46 (.un .not (.s 45))])
def ZM4:PC :=
 (R [0,1,2,3,4] [L 47 4,M 48 6,I 49 (.len 0 (.s 48)),B 50 .add 47 49,I 51 (.w (.hide [(.s 4)]) (.ld false 1 (.s 1))),M 52 6,I 53 (.len 0 (.s 52)),B 54 .sub 51 53,J (.w (.plain (.s 4)) (.st 1 (.s 4) (.s 50))),N 1 1 54])
def ZM5:PC :=
 (D (D ZMw
 (E 11
 .skip
 (.exit 0)))
 (.block 1
 (D ZMx
 (D (D ZMy
 (E 28
 ZMz
 .skip))
 (D (D ZM0
 (E 30
 (D ZM1
 .ret)
 .skip))
 (D ZM2
 (D (D ZM3
 (E 46
 .ret
 .skip))
 ZM4)))))))
def ZFq:PF:=⟨false,
 (.block 0
 (.loop ZM5)),
 []⟩
theorem ZSl:Zr Proofs.Tryz.prog false ZSk Proofs.Tryz.f143=some ZFq:=by kernel_rfl
def ZhU:List Hint:=[H [0,2,4],H [0,2,4,10],H [0,2,4,10,16],H [6,7,8,9],H [0,2,4,26],H [6,7,8,9],H [9,11],H [6,7,8,9]]
def ZbD:PC :=
 (R [0,2,4] [I 4 (.box (.s 1)),I 6 (.mv (.v (.str []))),K 7 0,I 8 (.mv (.v .nils)),K 9 0])
def ZbE:PC :=
 (R [0,2,4,10] [M 12 0,T 13 5 4,I 14 (C ZEk [(.s 12),(.s 13)]),M 10 14])
def ZbF:PC :=
 (R [0,2,4,10,16] [M 15 10,W 16 .neq 15 0])
def ZbG:PC :=
 (R [6,7,8,9] [M 17 10,I 6 (.mv (.v (.str []))),K 7 0,I 8 (.mv (.v .nils)),M 9 17])
def ZbH:PC :=
 (R [0,2,4,26] [M 18 2,W 19 .lss 18 0,M 20 19,U 21 20 false 2,G 22 20 false (.fadr 2 (.s 4)),G 23 20 false (.fadr 0 (.s 22)),G 24 20 false (.ld false 1 (.s 23)),G 25 20 false (.bin .geq (.s 21) (.s 24)),I 26 (.pick (.s 20) (.v (.bool true)) (.s 25))])
def ZbI:PC :=
 (R [6,7,8,9] [I 6 (.mv (.v (.str []))),K 7 0,I 8 (.mv (.v .nils)),K 9 3])
def ZbJ:PC :=
 (R [9,11] [M 28 0,T 29 5 4,M 30 2,I 31 (C ZHC [(.s 28),(.s 29),(.s 30),(.v (.func (.func ZBo) [] [])),(.v (.func (.func ZAm) [] []))]),M 27 31,X 32 27 0,X 33 27 1,I 11 (.box (.v (.agg [(.str []),(.int .i64 0),.nils]))),N 3 11 32,M 9 33])
def ZbK:PC :=
 (R [6,7,8,9] [F 34 0 11,L 35 34,F 36 1 11,L 37 36,F 38 2 11,L 39 38,M 40 9,M 6 35,M 7 37,M 8 39,M 9 40])
def ZRI:PF:=⟨false,
 (D ZbD
 (D (D ZbE
 (D ZbF
 (E 16
 (D ZbG
 .ret)
 .skip)))
 (D (D ZbH
 (E 26
 (D ZbI
 .ret)
 .skip))
 (D ZbJ
 (D ZbK
 .ret))))),
 [.s 6,.s 7,.s 8,.s 9]⟩
theorem ZhV:Zr Proofs.Tryz.prog false ZhU Proofs.Tryz.f144=some ZRI:=by kernel_rfl
def ZhW:List Hint:=[H [0,1,2,7],H [2,7,9,10],H [2,7,9,10,19],H [8],H [2,7,9,10,11],H [38],H [8],H [8]]
def ZbL:PC :=
 (R [0,1,2,7] [I 7 (.box (.s 3)),K 8 0])
def ZbM:PC :=
 (R [2,7,9,10] [M 13 0,M 14 1,I 15 (C QS [(.s 13),(.s 14)]),M 12 15,X 16 12 0,X 17 12 1,I 9 (.box (.v ZN)),N 3 9 16,M 10 17])
def ZbN:PC :=
 (R [2,7,9,10,19] [M 18 10,W 19 .neq 18 0])
def ZbO:PC :=
 (R [8] [M 20 10,M 8 20])
def ZbP:PC :=
 (R [2,7,9,10,11] [T 22 3 9,I 23 (C YJ [(.s 22)]),M 21 23,X 24 21 0,X 25 21 1,I 11 (.box (.v ZM)),N 3 11 24,M 10 25])
def ZbQ:PC :=
 (R [38] [M 26 10,W 27 .neq 26 0,M 28 27,G 29 28 false (.fadr 0 (.s 9)),G 30 28 false (.ld false 1 (.s 29)),U 31 28 false 2,G 32 28 false (.bin .neq (.s 30) (.s 31)),I 33 (.pick (.s 28) (.v (.bool true)) (.s 32)),M 34 33,G 35 34 false (.ld true 3 (.s 11)),G 36 34 false (.ld true 3 (.s 7)),G 37 34 false (.eqs true 0 [(0,0),(1,0),(2,0)] (.s 35) (.s 36)),I 38 (.pick (.s 34) (.v (.bool true)) (.s 37))])
def ZbR:PC :=
 (R [8] [K 8 23])
def ZbS:PC :=
 (R [8] [K 8 0])
def ZRJ:PF:=⟨false,
 (D ZbL
 (D ZbM
 (D (D ZbN
 (E 19
 (D ZbO
 .ret)
 .skip))
 (D ZbP
 (D (D ZbQ
 (E 38
 (D ZbR
 .ret)
 .skip))
 (D ZbS
 .ret)))))),
 [.s 8]⟩
theorem ZhX:Zr Proofs.Tryz.prog false ZhW Proofs.Tryz.f149=some ZRJ:=by kernel_rfl
def ZXe:List Hint:=[H [1,2,3],H [1,2,3,4],H [2,4],H [2,4,8],H []]
def ZPK:PC :=
 (R [1,2,3] [I 3 (.box (.s 0))])
def ZPL:PC :=
 (R [1,2,3,4] [I 4 (.box (.v .nilfunc))])
def ZPM:PC :=
 (R [2,4] [I 5 (.mkf (.func YG) [] [(.s 1),(.s 3),(.s 4)]),N 1 4 5])
def ZPN:PC :=
 (R [2,4,8] [F 6 0 2,L 7 6,I 8 (.bin .neq (.s 7) (.v (.int .u64 0)))])
def ZPO:PC :=
 (R [] [L 9 4,F 10 0 2,L 11 10,I 12 (.call .norm (.s 9) [(.s 11)])])
def ZIA:PF:=⟨false,
 (D ZPK
 (D ZPL
 (D ZPM
 (D ZPN
 (E 8
 ZPO
 .skip))))),
 []⟩
theorem ZXf:Zr Proofs.Tryz.prog false ZXe Proofs.Tryz.f155=some ZIA:=by kernel_rfl
def ZPP:List Hint:=[H [0,1,2,3],H [0,2,3,6,7],H [3,6,26],H [5],H [3,28,29,30],H [3,28,29,30,31],H [3,9,28,29,30],H [3,28,29,30,38],H [5],H [3,28,29,30],H [5]]
def ZKZ:PC :=
 (R [0,1,2,3] [I 5 (.mv (.v (.bool false)))])
def ZKa:PC :=
 (R [0,2,3,6,7] [L 11 1,M 12 0,I 13 (C QS [(.s 11),(.s 12)]),M 10 13,X 14 10 0,X 15 10 1,I 6 (.box (.v ZN)),N 3 6 14,M 7 15])
def ZKb:PC :=
 (R [3,6,26] [L 16 2,M 17 0,T 18 3 6,M 19 7,I 20 (.build [(.int .i64 0),(.str []),.nils,(.int .i64 0)] [(0,3,(.s 18)),(3,1,(.s 19))]),I 21 (.call .norm (.s 16) [(.s 17),(.s 20)]),I 22 (.un .not (.s 21)),M 23 22,U 24 23 false 7,G 25 23 false (.bin .neq (.s 24) (V 0)),I 26 (.pick (.s 23) (.v (.bool true)) (.s 25))])
def ZKc:PC :=
 (R [5] [I 5 (.mv (.v (.bool false)))])
def ZKd:PC :=
 (R [3,28,29,30] [F 27 2 6,L 28 27,I 29 (.len 1 (.s 28)),K 30 0])
def ZKe:PC :=
 (R [3,28,29,30,31] [B 31 .lss 30 29])
def ZKf:PC :=
 (R [3,9,28,29,30] [I 32 (.ixS 4 (.s 28) (.s 30)),T 33 4 32,I 9 (.box (.v ZK)),N 4 9 33])
def ZKg:PC :=
 (R [3,28,29,30,38] [L 34 3,F 35 0 9,L 36 35,I 37 (.call .norm (.s 34) [(.s 36)]),I 38 (.un .not (.s 37))])
def ZKh:PC :=
 (R [5] [I 5 (.mv (.v (.bool false)))])
def ZKi:PC :=
 (R [3,28,29,30] [W 39 .add 30 1,M 30 39])
def ZJS:PC :=
 (D ZKe
 (D (E 31
 .skip
 (.exit 0))
 (D (.block 1
 (D ZKf
 (D ZKg
 (E 38
 (D ZKh
 .ret)
 .skip))))
 ZKi)))
def ZJT:PC :=
 (R [5] [I 5 (.mv (.v (.bool true)))])
def ZDz:PF:=⟨false,
 (D ZKZ
 (D ZKa
 (D (D ZKb
 (E 26
 (D ZKc
 .ret)
 .skip))
 (D (D ZKd
 (.block 0
 (.loop ZJS)))
 (D ZJT
 .ret))))),
 [.s 5]⟩
theorem ZPQ:Zr Proofs.Tryz.prog false ZPP Proofs.Tryz.f156=some ZDz:=by kernel_rfl
def Zer:List Hint:=[H [1],H [1,3],H [3,14,15,16],H [3,14,15,16,17],H [3,5,14,15,16],H [3,14,15,16],H [3,14,15,16],H [2]]
def ZXg:PC :=
 (R [1] [I 1 (.box (.s 0)),K 2 0])
def ZXh:PC :=
 (R [1,3] [F 6 2 1,F 7 0 6,L 8 7,F 9 5 1,L 10 9,I 11 (.len 0 (.s 10)),B 12 .add 8 11,M 3 12])
def ZXi:PC :=
 (R [3,14,15,16] [F 13 6 1,L 14 13,I 15 (.len 1 (.s 14)),K 16 0])
def ZXj:PC :=
 (R [3,14,15,16,17] [B 17 .lss 16 15])
def ZXk:PC :=
 (R [3,5,14,15,16] [I 18 (.ixS 7 (.s 14) (.s 16)),T 19 7 18,I 5 (.box (.v ZT)),N 7 5 19])
def ZXl:PC :=
 (R [3,14,15,16] [M 20 3,T 21 7 5,I 22 (C Qb [(.s 21)]),B 23 .add 20 22,M 3 23])
def ZXm:PC :=
 (R [3,14,15,16] [W 24 .add 16 1,M 16 24])
def ZXn:PC :=
 (D ZXj
 (D (E 17
 .skip
 (.exit 0))
 (D (.block 1
 (D ZXk
 ZXl))
 ZXm)))
def ZXo:PC :=
 (R [2] [M 25 3,M 2 25])
def ZM6:PF:=⟨false,
 (D ZXg
 (D ZXh
 (D (D ZXi
 (.block 0
 (.loop ZXn)))
 (D ZXo
 .ret)))),
 [.s 2]⟩
theorem Zes:Zr Proofs.Tryz.prog false Zer Proofs.Tryz.f157=some ZM6:=by kernel_rfl
def ZjJ:List Hint:=[H [0,2,4,6,7],H [0,2,4,6,7,18],⟨[6,7,8],[],[],[],[(1,(.hide [(.s 6)])),(2,(.plain (.s 6)))],[]⟩,H [0,2,4,6,7,24],H [6,7,8],H [0,2,4,6,7,29],H [2,6,7,9,10],H [2,6,7,9,10,37],H [6,7,8],H [6,7,10,11,12],H [6,7,8],H [0,2,6,7,8,13],H [0,2,6,7,8,13,60],H [6,7,8],H [0,2,6,7,13,14],H [0,2,6,7,13,14,77],H [0,2,6,7,13,14],H [0,2,6,7,13,14],H [0,2,6,7,13,14,88],⟨[6,7,8],[],[(3,.pure)],[],[],[]⟩,H [0,6,7,8,13,14,15,16],H [0,6,7,8,13,14,15,16,109],H [6,7,8],⟨[0,6,7,8,13,14,16],[],[(4,.pure)],[],[],[]⟩,H [0,6,7,8,13,14,16,124],H [6,7,8],⟨[6,7,8],[],[(6,.pure)],[],[],[]⟩,H [6,7,8,140],H [6,7,8],⟨[6,7,8],[],[],[],[(1,(.hide [(.s 6)])),(2,(.plain (.s 6)))],[]⟩]
def Zet:PC :=
 (R [0,2,4,6,7] [I 4 (.box (.s 1)),I 6 (.box (.v ZT)),I 7 (.box (.v ZT)),K 8 0])
def Zeu:PC :=
 (R [0,2,4,6,7,18] [M 17 2,W 18 .eql 17 0])
def Zev:PC :=
 (R [6,7,8] [I 19 (.build [(.int .u64 0),(.int .i64 0),(.int .i64 0),(.int .i64 0),(.int .i64 0),(.str []),.nils] []),I 20 (.w (.hide [(.s 6)]) (.ld true 7 (.s 4))),J (.w (.plain (.s 6)) (.st 7 (.s 6) (.s 19))),N 7 7 20,K 8 0])
def Zew:PC :=
 (R [0,2,4,6,7,24] [M 21 2,T 22 7 4,I 23 (C Qb [(.s 22)]),B 24 .eql 21 23])
def Zex:PC :=
 (R [6,7,8] [T 25 7 4,I 26 (.build [(.int .u64 0),(.int .i64 0),(.int .i64 0),(.int .i64 0),(.int .i64 0),(.str []),.nils] []),N 7 6 25,N 7 7 26,K 8 0])
def Zey:PC :=
 (R [0,2,4,6,7,29] [F 27 1 4,L 28 27,W 29 .eql 28 0])
def Zez:PC :=
 (R [2,6,7,9,10] [M 31 0,T 32 7 4,I 33 (C Xn [(.s 31),(.s 32)]),M 30 33,X 34 30 0,X 35 30 1,M 9 34,M 10 35])
def Ze0:PC :=
 (R [2,6,7,9,10,37] [M 36 10,W 37 .neq 36 0])
def Ze1:PC :=
 (R [6,7,8] [I 38 (.build [(.int .u64 0),(.int .i64 0),(.int .i64 0),(.int .i64 0),(.int .i64 0),(.str []),.nils] []),I 39 (.build [(.int .u64 0),(.int .i64 0),(.int .i64 0),(.int .i64 0),(.int .i64 0),(.str []),.nils] []),M 40 10,N 7 6 38,N 7 7 39,M 8 40])
def Ze2:PC :=
 (R [6,7,10,11,12] [M 42 9,M 43 2,I 44 (C ZHD [(.s 42),(.s 43)]),M 41 44,X 45 41 0,X 46 41 1,X 47 41 2,M 11 45,M 12 46,M 10 47])
def ZbT:PC :=
 (R [6,7,8] [M 48 11,I 49 (.build [(.int .u64 0),(.int .i64 0),(.int .i64 0),(.int .i64 0),(.int .i64 0),(.str []),.nils] [(5,1,(.s 48))]),M 50 12,I 51 (.build [(.int .u64 0),(.int .i64 0),(.int .i64 0),(.int .i64 0),(.int .i64 0),(.str []),.nils] [(5,1,(.s 50))]),M 52 10,N 7 6 49,N 7 7 51,M 8 52])
def ZbU:PC :=
 (R [0,2,6,7,8,13] [M 54 0,T 55 7 4,I 56 (C J0 [(.s 54),(.s 55)]),M 53 56,X 57 53 0,X 58 53 1,M 13 57,M 8 58])
def ZbV:PC :=
 (R [0,2,6,7,8,13,60] [M 59 8,W 60 .neq 59 0])
def ZbW:PC :=
 (R [6,7,8] [I 61 (.build [(.int .u64 0),(.int .i64 0),(.int .i64 0),(.int .i64 0),(.int .i64 0),(.str []),.nils] []),I 62 (.build [(.int .u64 0),(.int .i64 0),(.int .i64 0),(.int .i64 0),(.int .i64 0),(.str []),.nils] []),M 63 8,N 7 6 61,N 7 7 62,M 8 63])
def ZbX:PC :=
 (R [0,2,6,7,13,14] [K 14 0])
def ZbY:PC :=
 (R [0,2,6,7,13,14,77] [M 64 14,W 65 .add 64 1,M 66 13,I 67 (.len 1 (.s 66)),B 68 .lss 65 67,M 69 68,U 70 69 true 2,U 71 69 true 13,U 72 69 true 14,G 73 69 true (.ixS 7 (.s 71) (.s 72)),G 74 69 true (.ld true 7 (.s 73)),G 75 69 true (C Qb [(.s 74)]),G 76 69 true (.bin .geq (.s 70) (.s 75)),I 77 (.pick (.s 69) (.s 76) (.v (.bool false)))])
def ZbZ:PC :=
 (R [0,2,6,7,13,14] [M 78 2,M 79 13,M 80 14,I 81 (.ixS 7 (.s 79) (.s 80)),T 82 7 81,I 83 (C Qb [(.s 82)]),B 84 .sub 78 83,M 2 84])
def Zba:PC :=
 (R [0,2,6,7,13,14] [M 85 14,W 86 .add 85 1,M 14 86])
def ZJg:PC :=
 (D (D ZbY
 (E 77
 .skip
 (.exit 0)))
 (.block 1
 (D ZbZ
 Zba)))
def Zbb:PC :=
 (R [0,2,6,7,13,14,88] [M 87 2,W 88 .eql 87 0])
def Zbc:PC :=
 (R [6,7,8] [M 89 13,M 90 14,I 91 (.slc 7 (.s 89) none (some (.s 90))),I 92 (.call .pure (.v (.func (.func QP) [] [])) [(.s 91)]),M 93 13,M 94 14,I 95 (.slc 7 (.s 93) (some (.s 94)) none),I 96 (C QP [(.s 95)]),N 7 6 92,N 7 7 96,K 8 0])
def Zbd:PC :=
 (R [0,6,7,8,13,14,15,16] [M 98 0,M 99 13,M 100 14,I 101 (.ixS 7 (.s 99) (.s 100)),T 102 7 101,M 103 2,I 104 (C Xe [(.s 98),(.s 102),(.s 103)]),M 97 104,X 105 97 0,X 106 97 1,X 107 97 2,I 15 (.box (.v ZT)),I 16 (.box (.v ZT)),N 7 15 105,N 7 16 106,M 8 107])
def Zbe:PC :=
 (R [0,6,7,8,13,14,15,16,109] [M 108 8,W 109 .neq 108 0])
def Zbf:PC :=
 (R [6,7,8] [I 110 (.build [(.int .u64 0),(.int .i64 0),(.int .i64 0),(.int .i64 0),(.int .i64 0),(.str []),.nils] []),I 111 (.build [(.int .u64 0),(.int .i64 0),(.int .i64 0),(.int .i64 0),(.int .i64 0),(.str []),.nils] []),M 112 8,N 7 6 110,N 7 7 111,M 8 112])
def Zbg:PC :=
 (R [0,6,7,8,13,14,16] [M 114 0,M 115 13,M 116 14,I 117 (.slc 7 (.s 115) none (some (.s 116))),I 118 (.call .pure (.v (.func (.func QP) [] [])) [(.s 117)]),T 119 7 15,I 120 (C Ya [(.s 114),(.s 118),(.s 119)]),M 113 120,X 121 113 0,X 122 113 1,N 7 6 121,M 8 122])
def Zbh:PC :=
 (R [0,6,7,8,13,14,16,124] [M 123 8,W 124 .neq 123 0])
def Zbi:PC :=
 (R [6,7,8] [I 125 (.build [(.int .u64 0),(.int .i64 0),(.int .i64 0),(.int .i64 0),(.int .i64 0),(.str []),.nils] []),I 126 (.build [(.int .u64 0),(.int .i64 0),(.int .i64 0),(.int .i64 0),(.int .i64 0),(.str []),.nils] []),M 127 8,N 7 6 125,N 7 7 126,M 8 127])
def Zbj:PC :=
 (R [6,7,8] [M 129 0,T 130 7 16,M 131 13,M 132 14,W 133 .add 132 1,I 134 (.slc 7 (.s 131) (some (.s 133)) none),I 135 (.call .pure (.v (.func (.func QP) [] [])) [(.s 134)]),I 136 (C Ya [(.s 129),(.s 130),(.s 135)]),M 128 136,X 137 128 0,X 138 128 1,N 7 7 137,M 8 138])
def Zbk:PC :=
 (R [6,7,8,140] [M 139 8,W 140 .neq 139 0])
def Zbl:PC :=
 (R [6,7,8] [I 141 (.build [(.int .u64 0),(.int .i64 0),(.int .i64 0),(.int .i64 0),(.int .i64 0),(.str []),.nils] []),I 142 (.build [(.int .u64 0),(.int .i64 0),(.int .i64 0),(.int .i64 0),(.int .i64 0),(.str []),.nils] []),M 143 8,N 7 6 141,N 7 7 142,M 8 143])
def Zbm:PC :=
 (R [6,7,8] [T 144 7 6,I 145 (.w (.hide [(.s 6)]) (.ld true 7 (.s 7))),J (.w (.plain (.s 6)) (.st 7 (.s 6) (.s 144))),N 7 7 145,K 8 0])
def ZXp:PF:=⟨false,
 (D Zet
 (D (D Zeu
 (E 18
 (D Zev
 .ret)
 .skip))
 (D (D Zew
 (E 24
 (D Zex
 .ret)
 .skip))
 (D (D Zey
 (E 29
 (D Zez
 (D (D Ze0
 (E 37
 (D Ze1
 .ret)
 .skip))
 (D Ze2
 (D ZbT
 .ret))))
 .skip))
 (D ZbU
 (D (D ZbV
 (E 60
 (D ZbW
 .ret)
 .skip))
 (D ZbX
 (D (.block 0
 (.loop ZJg))
 (D (D Zbb
 (E 88
 (D Zbc
 .ret)
 .skip))
 (D Zbd
 (D (D Zbe
 (E 109
 (D Zbf
 .ret)
 .skip))
 (D (D Zbg
 (D Zbh
 (E 124
 (D Zbi
 .ret)
 .skip)))
 (D (D Zbj
 (D Zbk
 (E 140
 (D Zbl
 .ret)
 .skip)))
 (D Zbm
 .ret)))))))))))))),
 [.c 6 true 7,.c 7 true 7,.s 8]⟩
theorem ZjK:Zr Proofs.Tryz.prog false ZjJ Proofs.Tryz.f158=some ZXp:=by kernel_rfl
def ZjL:List Hint:=[H [1,2],H [1,2,9],H [1,2],H [2],H [1,2,3],H [1,2,3,17,18,19],H [1,2,3,17,18,19,20],H [1,2,3,4,5,17,18,19],H [1,2,3,17,18,19],H [1,2,3,17,18,19],H [1,2],H [2]]
def Ze3:PC :=
 (R [1,2] [I 1 (.box (.s 0)),I 2 (.box (.v ZT))])
def Ze4:PC :=
 (R [1,2,9] [F 6 6 1,L 7 6,I 8 (.len 1 (.s 7)),W 9 .eql 8 0])
def Ze5:PC :=
 (R [1,2] [F 10 6 1,J (.st 1 (.s 10) (.v .nils))])
def Ze6:PC :=
 (R [2] [T 11 7 1,N 7 2 11])
def Ze7:PC :=
 (R [1,2,3] [F 12 6 1,L 13 12,I 14 (.len 1 (.s 13)),I 15 (.mkslice 7 80 ZT (.s 14) (.s 14)),M 3 15])
def Ze8:PC :=
 (R [1,2,3,17,18,19] [F 16 6 1,L 17 16,I 18 (.len 1 (.s 17)),K 19 0])
def Ze9:PC :=
 (R [1,2,3,17,18,19,20] [B 20 .lss 19 18])
def ZfA:PC :=
 (R [1,2,3,4,5,17,18,19] [M 21 19,I 22 (.ixS 7 (.s 17) (.s 19)),T 23 7 22,I 5 (.box (.v ZT)),M 4 21,N 7 5 23])
def ZfB:PC :=
 (R [1,2,3,17,18,19] [M 24 3,M 25 4,T 26 7 5,I 27 (C Xf [(.s 26)]),I 28 (.ixS 7 (.s 24) (.s 25)),N 7 28 27])
def ZfC:PC :=
 (R [1,2,3,17,18,19] [W 29 .add 19 1,M 19 29])
def Zbn:PC :=
 (D Ze9
 (D (E 20
 .skip
 (.exit 0))
 (D (.block 1
 (D ZfA
 ZfB))
 ZfC)))
def Zbo:PC :=
 (R [1,2] [M 30 3,F 31 6 1,N 1 31 30])
def Zbp:PC :=
 (R [2] [T 32 7 1,N 7 2 32])
def ZXq:PF:=⟨false,
 (D Ze3
 (D (D Ze4
 (E 9
 (D Ze5
 (D Ze6
 .ret))
 .skip))
 (D Ze7
 (D (D Ze8
 (.block 0
 (.loop Zbn)))
 (D Zbo
 (D Zbp
 .ret)))))),
 [.c 2 true 7]⟩
theorem ZjM:Zr Proofs.Tryz.prog false ZjL Proofs.Tryz.f159=some ZXq:=by kernel_rfl
def ZhY:List Hint:=[H [1],⟨[1,3],[0],[],[],[],[]⟩,H [1,3,4],H [1,3,4,5],H [1,3,5],H [3],H [2]]
def Zbq:PC :=
 (R [1] [I 1 (.box (.s 0)),I 2 (.mv (.v .nils))])
def Zbr:PC :=
 (R [1,3] [I 3 (.boxnil 1)])
def Zbs:PC :=
 (R [1,3,4] [I 6 (.mkmap),I 4 (.box (.v .nilmap)),N 1 4 6])
def Zbt:PC :=
 (R [1,3,4,5] [I 5 (.box (.v .nilfunc))])
def Zbu:PC :=
 (R [1,3,5] [I 7 (.mkf (.func Yb) [] [(.s 4),(.s 3),(.s 5)]),N 1 5 7])
def Zbv:PC :=
 (R [3] [L 8 5,T 9 7 1,I 10 (.call .norm (.s 8) [(.s 9)])])
def Zbw:PC :=
 (R [2] [L 11 3,M 2 11])
def ZRK:PF:=⟨false,
 (D Zbq
 (D Zbr
 (D Zbs
 (D Zbt
 (D Zbu
 (D Zbv
 (D Zbw
 .ret))))))),
 [.s 2]⟩
theorem ZhZ:Zr Proofs.Tryz.prog false ZhY Proofs.Tryz.f160=some ZRK:=by kernel_rfl
def ZfD:List Hint:=[H [0,1,2,3],H [0,1,2,3,16],H [8],H [0,1,2,3],H [0,1,2,3,9,10],H [0,1,2,3,9,10,26],H [8],H [0,2,3,9],H [0,2,3,32,33,34],H [0,2,3,32,33,34,35],H [0,2,3,12,32,33,34],H [0,2,3,13,32,33,34],H [0,2,3,13,32,33,34,45],H [8],H [0,2,3,32,33,34],H [8]]
def ZXr:PC :=
 (R [0,1,2,3] [K 8 0])
def ZXs:PC :=
 (R [0,1,2,3,16] [M 14 2,M 15 1,I 16 (.look 0 (.bool false) false (.s 14) (.s 15))])
def ZXt:PC :=
 (R [8] [K 8 0])
def ZXu:PC :=
 (R [0,1,2,3] [M 17 2,M 18 1,J (.mupd 0 (.s 17) (.s 18) (.v (.bool true)))])
def ZXv:PC :=
 (R [0,1,2,3,9,10] [M 20 0,M 21 1,I 22 (C QS [(.s 20),(.s 21)]),M 19 22,X 23 19 0,X 24 19 1,I 9 (.box (.v ZN)),N 3 9 23,M 10 24])
def ZXw:PC :=
 (R [0,1,2,3,9,10,26] [M 25 10,W 26 .neq 25 0])
def ZXx:PC :=
 (R [8] [M 27 10,M 8 27])
def ZXy:PC :=
 (R [0,2,3,9] [M 28 3,M 29 1,I 30 (.call .norm (.s 28) [(.s 29)])])
def ZXz:PC :=
 (R [0,2,3,32,33,34] [F 31 2 9,L 32 31,I 33 (.len 1 (.s 32)),K 34 0])
def ZX0:PC :=
 (R [0,2,3,32,33,34,35] [B 35 .lss 34 33])
def ZSm:PC :=
 (R [0,2,3,12,32,33,34] [I 36 (.ixS 4 (.s 32) (.s 34)),T 37 4 36,I 12 (.box (.v ZK)),N 4 12 37])
def ZSn:PC :=
 (R [0,2,3,13,32,33,34] [M 38 0,F 39 0 12,L 40 39,M 41 2,M 42 3,I 43 (C JU [(.s 38),(.s 40),(.s 41),(.s 42)]),M 13 43])
def ZSo:PC :=
 (R [0,2,3,13,32,33,34,45] [M 44 13,W 45 .neq 44 0])
def ZSp:PC :=
 (R [8] [M 46 13,M 8 46])
def ZSq:PC :=
 (R [0,2,3,32,33,34] [W 47 .add 34 1,M 34 47])
def ZSr:PC :=
 (D ZX0
 (D (E 35
 .skip
 (.exit 0))
 (D (.block 1
 (D ZSm
 (D ZSn
 (D ZSo
 (E 45
 (D ZSp
 .ret)
 .skip)))))
 ZSq)))
def ZSs:PC :=
 (R [8] [K 8 0])
def ZM7:PF:=⟨false,
 (D ZXr
 (D (D ZXs
 (E 16
 (D ZXt
 .ret)
 .skip))
 (D ZXu
 (D ZXv
 (D (D ZXw
 (E 26
 (D ZXx
 .ret)
 .skip))
 (D ZXy
 (D (D ZXz
 (.block 0
 (.loop ZSr)))
 (D ZSs
 .ret)))))))),
 [.s 8]⟩
theorem ZfE:Zr Proofs.Tryz.prog false ZfD Proofs.Tryz.f161=some ZM7:=by kernel_rfl
def ZPR:List Hint:=[]
def ZD0:PF:=⟨false,
 .skip,
 []⟩
theorem ZPS:Zr Proofs.Tryz.prog false ZPR Proofs.Tryz.f162=some ZD0:=by kernel_rfl
def ZPT:List Hint:=[H [0,2,7],H []]
def ZKj:PC :=
 (R [0,2,7] [L 4 1,M 5 0,I 6 (.look 0 (.bool false) false (.s 4) (.s 5)),I 7 (.un .not (.s 6))])
def ZKk:PC :=
 (R [] [L 8 2,M 9 0,I 10 (.bslice false 1 [(.int .u64 0)] [(0,(.s 9))]),I 11 (.app 1 8 (.s 8) (.s 10)),N 1 2 11])
def ZD1:PF:=⟨false,
 (D ZKj
 (E 7
 ZKk
 .skip)),
 []⟩
theorem ZPU:Zr Proofs.Tryz.prog false ZPT Proofs.Tryz.f163=some ZD1:=by kernel_rfl
def ZGl:List Hint:=[H [0,1],⟨[0,1,5],[0],[],[],[],[]⟩,H [0,1,5,9],H [4],H [1,5,14,15,16],H [1,5,14,15,16,17],H [1,5,6,7,14,15,16],H [1,5,6,14,15,16,23],H [1,5,14,15,16],H [1,5,14,15,16],H [4]]
def ZD2:PC :=
 (R [0,1] [I 4 (.mv (.v .nils))])
def ZD3:PC :=
 (R [0,1,5] [I 5 (.onil 1)])
def ZD4:PC :=
 (R [0,1,5,9] [M 8 0,I 9 (.eqs false 3 [] (.s 8) (.v .nilptr))])
def ZD5:PC :=
 (R [4] [M 10 5,M 4 10])
def ZD6:PC :=
 (R [1,5,14,15,16] [M 11 0,I 12 (.nilck (.s 11)),F 13 1 12,L 14 13,I 15 (.len 1 (.s 14)),K 16 0])
def ZD7:PC :=
 (R [1,5,14,15,16,17] [B 17 .lss 16 15])
def ZD8:PC :=
 (R [1,5,6,7,14,15,16] [M 18 16,I 19 (.ixS 1 (.s 14) (.s 16)),L 20 19,M 6 18,M 7 20])
def ZD9:PC :=
 (R [1,5,6,14,15,16,23] [M 21 7,M 22 1,B 23 .eql 21 22])
def ZEA:PC :=
 (R [1,5,14,15,16] [M 24 5,M 25 6,I 26 (.bslice false 1 [(.int .i64 0)] [(0,(.s 25))]),I 27 (.app 1 8 (.s 24) (.s 26)),M 5 27])
def ZEB:PC :=
 (R [1,5,14,15,16] [W 28 .add 16 1,M 16 28])
def ZDd:PC :=
 (D ZD7
 (D (E 17
 .skip
 (.exit 0))
 (D (.block 1
 (D ZD8
 (D ZD9
 (E 23
 ZEA
 .skip))))
 ZEB)))
def ZDe:PC :=
 (R [4] [M 29 5,M 4 29])
def ZAN:PF:=⟨false,
 (D ZD2
 (D ZD3
 (D (D ZD4
 (E 9
 (D ZD5
 .ret)
 .skip))
 (D (D ZD6
 (.block 0
 (.loop ZDd)))
 (D ZDe
 .ret))))),
 [.s 4]⟩
theorem ZGm:Zr Proofs.Tryz.prog false ZGl Proofs.Tryz.f164=some ZAN:=by kernel_rfl
def Zha:List Hint:=[H [0,2,3,4,6,10],H [0,3,4,6,10,12],H [0,3,4,10,12,13],H [0,3,4,10,12,13,14,15],H [0,3,4,10,12,13,14,15,31],H [10,11],H [0,3,4,10,12,14],H [0,3,4,10,12,14,42],H [10,12],H [10,11],H [0,3,4,10,12,14,15,16,17],H [0,3,4,10,12,14,15,16,17,57],H [10,11],H [0,3,4,10,12,14,16,17,63,64,65],H [0,3,4,10,12,14,16,17,63,64,65,66],H [0,3,4,10,12,14,16,17,19,63,64,65],H [0,3,4,10,12,14,16,17,63,64,65],H [0,3,4,10,12,14,16,17,63,64,65],⟨[0,3,4,10,12,13],[],[],[],[(6,(.hide [(.s 12)])),(8,(.plain (.s 12))),(4,(.hide [(.s 12)])),(2,(.hide [(.s 12)]))],[]⟩]
def Zbx:PC :=
 (R [0,2,3,4,6,10] [I 6 (.box (.s 1)),I 10 (.box (.v (.agg [(.str []),(.int .i64 0),.nils]))),K 11 0])
def Zby:PC :=
 (R [0,3,4,6,10,12] [M 20 2,I 21 (.build [(.str []),(.int .i64 0),.nils] [(1,1,(.s 20))]),I 12 (.box (.v (.agg [(.str []),(.int .i64 0),.nils]))),N 3 12 21])
def Zbz:PC :=
 (R [0,3,4,10,12,13] [F 22 0 6,L 23 22,M 13 23])
def Zb0:PC :=
 (R [0,3,4,10,12,13,14,15] [M 25 0,M 26 13,I 27 (C QS [(.s 25),(.s 26)]),M 24 27,X 28 24 0,X 29 24 1,I 14 (.box (.v ZN)),N 3 14 28,M 15 29])
def Zb1:PC :=
 (R [0,3,4,10,12,13,14,15,31] [M 30 15,W 31 .neq 30 0])
def Zb2:PC :=
 (R [10,11] [I 32 (.build [(.str []),(.int .i64 0),.nils] []),M 33 15,N 3 10 32,M 11 33])
def ZJh:PC :=
 (R [0,3,4,10,12,14] [F 34 2 12,L 35 34,M 36 13,I 37 (.bslice false 1 [(.int .u64 0)] [(0,(.s 36))]),I 38 (.app 1 8 (.s 35) (.s 37)),F 39 2 12,N 1 39 38])
def Zb3:PC :=
 (R [0,3,4,10,12,14,42] [F 40 0 14,L 41 40,W 42 .eql 41 0])
def Zb4:PC :=
 (R [10,12] [F 43 1 14,L 44 43,F 45 0 12,N 1 45 44])
def Zb5:PC :=
 (R [10,11] [T 46 3 12,N 3 10 46,K 11 0])
def ZX1:PC :=
 (R [0,3,4,10,12,14,15,16,17] [M 48 3,T 49 3 14,F 50 1 12,L 51 50,I 52 (.call .norm (.s 48) [(.s 49),(.s 51)]),M 47 52,X 53 47 0,X 54 47 1,X 55 47 2,M 16 53,M 17 54,M 15 55])
def ZX2:PC :=
 (R [0,3,4,10,12,14,15,16,17,57] [M 56 15,W 57 .neq 56 0])
def ZX3:PC :=
 (R [10,11] [I 58 (.build [(.str []),(.int .i64 0),.nils] []),M 59 15,N 3 10 58,M 11 59])
def ZX4:PC :=
 (R [0,3,4,10,12,14,16,17,63,64,65] [F 60 2 14,L 61 60,M 62 16,I 63 (.slc 4 (.s 61) none (some (.s 62))),I 64 (.len 1 (.s 63)),K 65 0])
def ZX5:PC :=
 (R [0,3,4,10,12,14,16,17,63,64,65,66] [B 66 .lss 65 64])
def ZX6:PC :=
 (R [0,3,4,10,12,14,16,17,19,63,64,65] [I 67 (.ixS 4 (.s 63) (.s 65)),T 68 4 67,I 19 (.box (.v ZK)),N 4 19 68])
def ZX7:PC :=
 (R [0,3,4,10,12,14,16,17,63,64,65] [M 69 4,F 70 1 19,T 71 3 70,I 72 (.call .norm (.s 69) [(.s 71)])])
def ZX8:PC :=
 (R [0,3,4,10,12,14,16,17,63,64,65] [W 73 .add 65 1,M 65 73])
def p_seek_walk_18:PC :=
 (D ZX5
 (D (E 66
 .skip
 (.exit 2))
 (D (.block 3
 (D ZX6
 ZX7))
 ZX8)))
def ZX9:PC :=
 (R [0,3,4,10,12,13] [M 74 17,F 75 2 14,I 76 (.w (.hide [(.s 12)]) (.ld false 1 (.s 75))),M 77 16,I 78 (.w (.hide [(.s 12)]) (.ixS 4 (.s 76) (.s 77))),F 79 0 78,I 80 (.w (.hide [(.s 12)]) (.ld false 1 (.s 79))),F 81 1 12,J (.w (.plain (.s 12)) (.st 1 (.s 81) (.s 74))),M 13 80])
def ZYA:PC :=
 (.block 1
 (D Zb0
 (D (D Zb1
 (E 31
 (D Zb2
 .ret)
 .skip))
 (D ZJh
 (D (D Zb3
 (E 42
 (D Zb4
 (D Zb5
 .ret))
 .skip))
 (D ZX1
 (D (D ZX2
 (E 57
 (D ZX3
 .ret)
 .skip))
 (D (D ZX4
 (.block 2
 (.loop p_seek_walk_18)))
 ZX9))))))))
def ZRL:PF:=⟨false,
 (D Zbx
 (D Zby
 (D Zbz
 (.block 0
 (.loop ZYA))))),
 [.c 10 true 3,.s 11]⟩
theorem Zhb:Zr Proofs.Tryz.prog false Zha Proofs.Tryz.f181=some ZRL:=by kernel_rfl
def ZfF:List Hint:=[H [1,2],H [4,5,6]]
def ZYB:PC :=
 (R [1,2] [I 2 (.box (.s 0)),K 4 0,K 5 0,K 6 0])
def ZYC:PC :=
 (R [4,5,6] [T 7 3 2,M 8 1,I 9 (C ZDW [(.s 7),(.s 8),(.v (.func (.func ZCX) [] []))]),X 10 9 0,X 11 9 1,X 12 9 2,M 4 10,M 5 11,M 6 12])
def ZM8:PF:=⟨false,
 (D ZYB
 (D ZYC
 .ret)),
 [.s 4,.s 5,.s 6]⟩
theorem ZfG:Zr Proofs.Tryz.prog false ZfF Proofs.Tryz.f182=some ZM8:=by kernel_rfl
def ZSt:List Hint:=[H [0],H [2]]
def ZM9:PC :=
 (R [0] [I 2 (.mv (.v (.bool false)))])
def ZNA:PC :=
 (R [2] [M 3 0,I 4 (.bin .eql (.s 3) (.v (.int .u8 10))),M 2 4])
def ZFr:PF:=⟨false,
 (D ZM9
 (D ZNA
 .ret)),
 [.s 2]⟩
theorem ZSu:Zr Proofs.Tryz.prog false ZSt Proofs.Tryz.f185=some ZFr:=by kernel_rfl
def ZYD:List Hint:=[H [1,2],H [1,2,4],H [1,2,4,8],H [2,3],H [2,3]]
def ZPV:PC :=
 (R [1,2] [I 1 (.box (.s 0)),I 2 (.box (.v ZM)),K 3 0])
def ZPW:PC :=
 (R [1,2,4] [T 5 3 1,I 6 (C X5 [(.s 5)]),M 4 6])
def ZPX:PC :=
 (R [1,2,4,8] [M 7 4,W 8 .neq 7 0])
def ZPY:PC :=
 (R [2,3] [I 9 (.build [(.int .i64 0),(.int .i64 0),(.int .i64 0)] []),M 10 4,N 3 2 9,M 3 10])
def ZPZ:PC :=
 (R [2,3] [T 11 3 1,I 12 (C ZCY [(.s 11)]),N 3 2 12,K 3 0])
def ZIB:PF:=⟨false,
 (D ZPV
 (D (D ZPW
 (D ZPX
 (E 8
 (D ZPY
 .ret)
 .skip)))
 (D ZPZ
 .ret))),
 [.c 2 true 3,.s 3]⟩
theorem ZYE:Zr Proofs.Tryz.prog false ZYD Proofs.Tryz.f186=some ZIB:=by kernel_rfl
def Zb6:List Hint:=[H [1,2,3],H [1,2,3,9],H [1,2,3,9,15],H [6,7,8],H [1,2,3,19],H [6,7,8],H [1,2,3,21],H [6,7,8],H [1,2,23,24,25],H [1,2,23,24,25,26],H [1,2,10,11,23,24,25],H [1,2,10,11,23,24,25,35],H [6,7,8],H [1,2,23,24,25],H [1,2,23,24,25],H [6,7,8]]
def ZSv:PC :=
 (R [1,2,3] [I 3 (.box (.s 0)),K 6 0,K 7 0,K 8 0])
def ZSw:PC :=
 (R [1,2,3,9] [T 12 3 3,I 13 (C X5 [(.s 12)]),M 9 13])
def ZSx:PC :=
 (R [1,2,3,9,15] [M 14 9,W 15 .neq 14 0])
def ZSy:PC :=
 (R [6,7,8] [M 16 9,K 6 0,K 7 0,M 8 16])
def ZSz:PC :=
 (R [1,2,3,19] [F 17 0 3,L 18 17,W 19 .eql 18 0])
def ZS0:PC :=
 (R [6,7,8] [K 6 0,K 7 0,K 8 8])
def ZS1:PC :=
 (R [1,2,3,21] [M 20 1,W 21 .lss 20 0])
def ZS2:PC :=
 (R [6,7,8] [K 6 0,K 7 0,K 8 3])
def ZS3:PC :=
 (R [1,2,23,24,25] [F 22 2 3,L 23 22,I 24 (.len 1 (.s 23)),K 25 0])
def ZS4:PC :=
 (R [1,2,23,24,25,26] [B 26 .lss 25 24])
def ZPa:PC :=
 (R [1,2,10,11,23,24,25] [M 27 25,I 28 (.ixS 4 (.s 23) (.s 25)),T 29 4 28,I 11 (.box (.v ZK)),M 10 27,N 4 11 29])
def ZPb:PC :=
 (R [1,2,10,11,23,24,25,35] [M 30 1,M 31 2,F 32 1 11,T 33 3 32,I 34 (.call .norm (.s 31) [(.s 33)]),B 35 .lss 30 34])
def ZPc:PC :=
 (R [6,7,8] [M 36 10,M 37 1,M 6 36,M 7 37,K 8 0])
def ZPd:PC :=
 (R [1,2,23,24,25] [M 38 1,M 39 2,F 40 1 11,T 41 3 40,I 42 (.call .norm (.s 39) [(.s 41)]),B 43 .sub 38 42,M 1 43])
def ZPe:PC :=
 (R [1,2,23,24,25] [W 44 .add 25 1,M 25 44])
def ZPf:PC :=
 (D ZS4
 (D (E 26
 .skip
 (.exit 0))
 (D (.block 1
 (D ZPa
 (D (D ZPb
 (E 35
 (D ZPc
 .ret)
 .skip))
 ZPd)))
 ZPe)))
def ZPg:PC :=
 (R [6,7,8] [K 6 0,K 7 0,K 8 3])
def ZJi:PF:=⟨false,
 (D ZSv
 (D (D ZSw
 (D ZSx
 (E 15
 (D ZSy
 .ret)
 .skip)))
 (D (D ZSz
 (E 19
 (D ZS0
 .ret)
 .skip))
 (D (D ZS1
 (E 21
 (D ZS2
 .ret)
 .skip))
 (D (D ZS3
 (.block 0
 (.loop ZPf)))
 (D ZPg
 .ret)))))),
 [.s 6,.s 7,.s 8]⟩
theorem Zb7:Zr Proofs.Tryz.prog false Zb6 Proofs.Tryz.f188=some ZJi:=by kernel_rfl
def ZYF:List Hint:=[H [0],⟨[0,3],[0],[],[],[],[]⟩,H [0,3,8,9,10],H [0,3,8,9,10,11],H [0,3,5,8,9,10],H [0,3,5,8,9,10],H [0,3,8,9,10],H [0,3,8,9,10],H [2]]
def ZPh:PC :=
 (R [0] [I 2 (.mv (.v .nils))])
def ZPi:PC :=
 (R [0,3] [I 3 (.onil 1)])
def ZPj:PC :=
 (R [0,3,8,9,10] [M 6 0,I 7 (.len 0 (.s 6)),I 8 (C ZAn [(.s 7),(V 16)]),I 9 (.len 1 (.s 8)),K 10 0])
def ZPk:PC :=
 (R [0,3,8,9,10,11] [B 11 .lss 10 9])
def ZPl:PC :=
 (R [0,3,5,8,9,10] [I 12 (.ixS 1 (.s 8) (.s 10)),L 13 12,M 5 13])
def ZPm:PC :=
 (R [0,3,5,8,9,10] [M 14 3,M 15 0,M 16 5,I 17 (.slcS (.s 15) none (some (.s 16))),I 18 (.bslice false 1 [(.str [])] [(0,(.s 17))]),I 19 (.app 1 16 (.s 14) (.s 18)),M 3 19])
def ZPn:PC :=
 (R [0,3,8,9,10] [M 20 0,M 21 5,I 22 (.slcS (.s 20) (some (.s 21)) none),M 0 22])
def ZPo:PC :=
 (R [0,3,8,9,10] [W 23 .add 10 1,M 10 23])
def ZPp:PC :=
 (D ZPk
 (D (E 11
 .skip
 (.exit 0))
 (D (.block 1
 (D ZPl
 (D ZPm
 ZPn)))
 ZPo)))
def ZPq:PC :=
 (R [2] [M 24 3,M 2 24])
def ZIC:PF:=⟨false,
 (D ZPh
 (D ZPi
 (D (D ZPj
 (.block 0
 (.loop ZPp)))
 (D ZPq
 .ret)))),
 [.s 2]⟩
theorem ZYG:Zr Proofs.Tryz.prog false ZYF Proofs.Tryz.f197=some ZIC:=by kernel_rfl
def ZfH:List Hint:=[H [0,1],H [0,1,11],H [4,5],H [0,1,13],H [4,5],H [4,5]]
def ZYH:PC :=
 (R [0,1] [I 4 (.mv (.v .nils)),K 5 0])
def ZYI:PC :=
 (R [0,1,11] [M 6 0,W 7 .lss 6 0,M 8 7,U 9 8 false 1,G 10 8 false (.bin .lss (.s 9) (V 1)),I 11 (.pick (.s 8) (.v (.bool true)) (.s 10))])
def ZYJ:PC :=
 (R [4,5] [I 4 (.mv (.v .nils)),K 5 2])
def ZYK:PC :=
 (R [0,1,13] [M 12 0,W 13 .gtr 12 65536])
def ZYL:PC :=
 (R [4,5] [I 4 (.mv (.v .nils)),K 5 5])
def ZYM:PC :=
 (R [4,5] [M 14 0,M 15 1,I 16 (C ZAn [(.s 14),(.s 15)]),M 4 16,K 5 0])
def ZNB:PF:=⟨false,
 (D ZYH
 (D (D ZYI
 (E 11
 (D ZYJ
 .ret)
 .skip))
 (D (D ZYK
 (E 13
 (D ZYL
 .ret)
 .skip))
 (D ZYM
 .ret)))),
 [.s 4,.s 5]⟩
theorem ZfI:Zr Proofs.Tryz.prog false ZfH Proofs.Tryz.f198=some ZNB:=by kernel_rfl
def ZfJ:List Hint:=[H [0,2],H [0,2,3],H [2],H [0,2,8],H [2],⟨[2],[],[],[],[(7,.app0),(5,.imm)],[]⟩]
def ZYN:PC :=
 (R [0,2] [I 2 (.box (.v ZT))])
def ZYO:PC :=
 (R [0,2,3] [M 4 0,I 5 (.len 1 (.s 4)),W 6 .eql 5 0,M 3 6])
def ZYP:PC :=
 (R [2] [I 7 (.build [(.int .u64 0),(.int .i64 0),(.int .i64 0),(.int .i64 0),(.int .i64 0),(.str []),.nils] []),N 7 2 7])
def ZYQ:PC :=
 (R [0,2,8] [M 9 0,I 10 (.len 1 (.s 9)),W 11 .eql 10 1,M 8 11])
def ZYR:PC :=
 (R [2] [M 12 0,I 13 (.ixS 7 (.s 12) (V 0)),T 14 7 13,N 7 2 14])
def ZYS:PC :=
 (R [2] [M 15 0,I 16 (.ixS 7 (.s 15) (V 0)),F 17 1 16,L 18 17,W 19 .add 18 1,I 20 (.w .imm (.bslice false 7 [] [])),M 21 0,I 22 (.w .app0 (.app 7 80 (.s 20) (.s 21))),I 23 (.build [(.int .u64 0),(.int .i64 0),(.int .i64 0),(.int .i64 0),(.int .i64 0),(.str []),.nils] [(1,1,(.s 19)),(6,1,(.s 22))]),N 7 2 23])
def ZNC:PF:=⟨false,
 (D ZYN
 (D (.block 0
 (D ZYO
 (E 3
 (D ZYP
 .ret)
 (D ZYQ
 (E 8
 (D ZYR
 .ret)
 .skip)))))
 (D ZYS
 .ret))),
 [.c 2 true 7]⟩
theorem ZfK:Zr Proofs.Tryz.prog false ZfJ Proofs.Tryz.f199=some ZNC:=by kernel_rfl
def Zb8:List Hint:=[H [0,1],H [0,1,19],H [4,5],H [4,5]]
def ZS5:PC :=
 (R [0,1] [I 4 (.mv (.v (.int .u64 0))),K 5 0])
def ZS6:PC :=
 (R [0,1,19] [M 6 0,W 7 .lss 6 0,M 8 7,U 9 8 false 0,G 10 8 false (.bin .geq (.s 9) (V 16384)),I 11 (.pick (.s 8) (.v (.bool true)) (.s 10)),M 12 11,U 13 12 false 1,G 14 12 false (.bin .lss (.s 13) (.v (.int .u64 1))),I 15 (.pick (.s 12) (.v (.bool true)) (.s 14)),M 16 15,U 17 16 false 1,G 18 16 false (.bin .gtr (.s 17) (.v (.int .u64 4294967295))),I 19 (.pick (.s 16) (.v (.bool true)) (.s 18))])
def ZS7:PC :=
 (R [4,5] [I 4 (.mv (.v (.int .u64 0))),K 5 3])
def ZS8:PC :=
 (R [4,5] [M 20 1,I 21 (.bin .shl (.s 20) (.v (.int .u64 16))),M 22 0,I 23 (.cint .u64 (.s 22)),B 24 .or 21 23,M 4 24,K 5 0])
def ZJj:PF:=⟨false,
 (D ZS5
 (D (D ZS6
 (E 19
 (D ZS7
 .ret)
 .skip))
 (D ZS8
 .ret))),
 [.s 4,.s 5]⟩
theorem Zb9:Zr Proofs.Tryz.prog false Zb8 Proofs.Tryz.f201=some ZJj:=by kernel_rfl
def ZcA:List Hint:=[H [0,4,5,6],H [0,4,5,6,12],H [6,7],H [0,4,5,6,16],H [6,7],H [6,8,9],H [6,8,9,26],H [6,7],H [6,7]]
def ZS9:PC :=
 (R [0,4,5,6] [I 4 (.box (.s 1)),I 5 (.box (.s 2)),I 6 (.box (.v ZT)),K 7 0])
def ZTA:PC :=
 (R [0,4,5,6,12] [T 10 7 4,I 11 (C Qj [(.s 10)]),W 12 .eql 11 1])
def ZTB:PC :=
 (R [6,7] [T 13 7 5,N 7 6 13,K 7 0])
def ZTC:PC :=
 (R [0,4,5,6,16] [T 14 7 5,I 15 (C Qj [(.s 14)]),W 16 .eql 15 1])
def ZTD:PC :=
 (R [6,7] [T 17 7 4,N 7 6 17,K 7 0])
def ZTE:PC :=
 (R [6,8,9] [M 19 0,T 20 7 4,T 21 7 5,I 22 (C X6 [(.s 19),(.s 20),(.s 21)]),M 18 22,X 23 18 0,X 24 18 1,M 8 23,M 9 24])
def ZTF:PC :=
 (R [6,8,9,26] [M 25 9,W 26 .neq 25 0])
def ZTG:PC :=
 (R [6,7] [I 27 (.build [(.int .u64 0),(.int .i64 0),(.int .i64 0),(.int .i64 0),(.int .i64 0),(.str []),.nils] []),M 28 9,N 7 6 27,M 7 28])
def ZTH:PC :=
 (R [6,7] [M 29 8,I 30 (C QP [(.s 29)]),N 7 6 30,K 7 0])
def ZJk:PF:=⟨false,
 (D ZS9
 (D (D ZTA
 (E 12
 (D ZTB
 .ret)
 .skip))
 (D (D ZTC
 (E 16
 (D ZTD
 .ret)
 .skip))
 (D ZTE
 (D (D ZTF
 (E 26
 (D ZTG
 .ret)
 .skip))
 (D ZTH
 .ret)))))),
 [.c 6 true 7,.s 7]⟩
theorem ZcB:Zr Proofs.Tryz.prog false ZcA Proofs.Tryz.f203=some ZJk:=by kernel_rfl
def ZfL:List Hint:=[H [0,2,3,5],H [0,2,3,5,9],H [0,2,5,9,30],H [8],H [0,2,5,32],H [0,2,5,10],H [0,2,5,10,42],H [8],H [0,5,54],H [8],H [0,5,56,57,58],H [0,5,56,57,58,59],H [0,5,12,56,57,58],H [0,5,13,56,57,58],H [0,5,13,56,57,58,69],H [8],H [0,5,56,57,58],H [8]]
def ZYT:PC :=
 (R [0,2,3,5] [I 5 (.box (.s 1)),K 8 0])
def ZYU:PC :=
 (R [0,2,3,5,9] [T 14 7 5,I 15 (C Qj [(.s 14)]),M 9 15])
def ZYV:PC :=
 (R [0,2,5,9,30] [M 16 9,W 17 .eql 16 0,M 18 17,U 19 18 false 9,G 20 18 false (.bin .eql (.s 19) (V 1)),I 21 (.pick (.s 18) (.v (.bool true)) (.s 20)),M 22 21,U 23 22 false 2,U 24 22 false 23,G 25 24 true (.fadr 1 (.s 5)),G 26 24 true (.ld false 1 (.s 25)),U 27 24 true 3,G 28 24 true (.bin .neq (.s 26) (.s 27)),G 29 22 false (.pick (.s 24) (.s 28) (.v (.bool false))),I 30 (.pick (.s 22) (.v (.bool true)) (.s 29))])
def ZYW:PC :=
 (R [8] [K 8 23])
def ZYX:PC :=
 (R [0,2,5,32] [M 31 9,W 32 .eql 31 2])
def ZYY:PC :=
 (R [0,2,5,10] [M 33 0,F 34 0 5,L 35 34,F 36 1 5,L 37 36,F 38 2 5,T 39 3 38,I 40 (C ZDD [(.s 33),(.s 35),(.s 37),(.s 39)]),M 10 40])
def ZYZ:PC :=
 (R [0,2,5,10,42] [M 41 10,W 42 .neq 41 0])
def ZYa:PC :=
 (R [8] [M 43 10,M 8 43])
def ZYb:PC :=
 (R [0,5,54] [M 44 2,M 45 44,G 46 45 true (.fadr 1 (.s 5)),G 47 45 true (.ld false 1 (.s 46)),G 48 45 true (.bin .eql (.s 47) (V 0)),I 49 (.pick (.s 45) (.s 48) (.v (.bool false))),M 50 49,G 51 50 true (.ld true 7 (.s 5)),G 52 50 true (C Qb [(.s 51)]),G 53 50 true (.bin .lss (.s 52) (V 8)),I 54 (.pick (.s 50) (.s 53) (.v (.bool false)))])
def ZYc:PC :=
 (R [8] [K 8 23])
def ZTI:PC :=
 (R [0,5,56,57,58] [F 55 6 5,L 56 55,I 57 (.len 1 (.s 56)),K 58 0])
def ZTJ:PC :=
 (R [0,5,56,57,58,59] [B 59 .lss 58 57])
def ZTK:PC :=
 (R [0,5,12,56,57,58] [I 60 (.ixS 7 (.s 56) (.s 58)),T 61 7 60,I 12 (.box (.v ZT)),N 7 12 61])
def ZTL:PC :=
 (R [0,5,13,56,57,58] [M 62 0,T 63 7 12,F 64 1 5,L 65 64,W 66 .sub 65 1,I 67 (C ZBp [(.s 62),(.s 63),(.v (.bool true)),(.s 66)]),M 13 67])
def ZTM:PC :=
 (R [0,5,13,56,57,58,69] [M 68 13,W 69 .neq 68 0])
def ZTN:PC :=
 (R [8] [M 70 13,M 8 70])
def ZTO:PC :=
 (R [0,5,56,57,58] [W 71 .add 58 1,M 58 71])
def ZFs:PC :=
 (D ZTJ
 (D (E 59
 .skip
 (.exit 0))
 (D (.block 1
 (D ZTK
 (D ZTL
 (D ZTM
 (E 69
 (D ZTN
 .ret)
 .skip)))))
 ZTO)))
def ZTP:PC :=
 (R [8] [K 8 0])
def ZND:PF:=⟨false,
 (D ZYT
 (D ZYU
 (D (D ZYV
 (E 30
 (D ZYW
 .ret)
 .skip))
 (D (D ZYX
 (E 32
 (D ZYY
 (D ZYZ
 (E 42
 (D ZYa
 .ret)
 .skip)))
 .skip))
 (D (D ZYb
 (E 54
 (D ZYc
 .ret)
 .skip))
 (D (D ZTI
 (.block 0
 (.loop ZFs)))
 (D ZTP
 .ret))))))),
 [.s 8]⟩
theorem ZfM:Zr Proofs.Tryz.prog false ZfL Proofs.Tryz.f204=some ZND:=by kernel_rfl
def ZjN:List Hint:=[H [1],H [1,3],H [1,3,4],H [1,3,14],H [1,3],H [3,16,17,18],H [3,16,17,18,19],H [3,6,16,17,18],H [3,16,17,18],H [3,16,17,18],H [2]]
def ZfN:PC :=
 (R [1] [I 1 (.box (.s 0)),K 2 0])
def ZfO:PC :=
 (R [1,3] [K 3 0])
def ZfP:PC :=
 (R [1,3,4] [T 7 7 1,I 8 (C Qj [(.s 7)]),M 4 8])
def ZfQ:PC :=
 (R [1,3,14] [M 9 4,W 10 .eql 9 3,M 11 10,U 12 11 false 4,G 13 11 false (.bin .eql (.s 12) (V 4)),I 14 (.pick (.s 11) (.v (.bool true)) (.s 13))])
def ZfR:PC :=
 (R [1,3] [K 3 1])
def ZfS:PC :=
 (R [3,16,17,18] [F 15 6 1,L 16 15,I 17 (.len 1 (.s 16)),K 18 0])
def ZfT:PC :=
 (R [3,16,17,18,19] [B 19 .lss 18 17])
def ZfU:PC :=
 (R [3,6,16,17,18] [I 20 (.ixS 7 (.s 16) (.s 18)),T 21 7 20,I 6 (.box (.v ZT)),N 7 6 21])
def ZfV:PC :=
 (R [3,16,17,18] [M 22 3,T 23 7 6,I 24 (C ZAZ [(.s 23)]),B 25 .add 22 24,M 3 25])
def ZfW:PC :=
 (R [3,16,17,18] [W 26 .add 18 1,M 18 26])
def ZcC:PC :=
 (D ZfT
 (D (E 19
 .skip
 (.exit 0))
 (D (.block 1
 (D ZfU
 ZfV))
 ZfW)))
def ZcD:PC :=
 (R [2] [M 27 3,M 2 27])
def ZYd:PF:=⟨false,
 (D ZfN
 (D ZfO
 (D (D ZfP
 (D ZfQ
 (E 14
 ZfR
 .skip)))
 (D (D ZfS
 (.block 0
 (.loop ZcC)))
 (D ZcD
 .ret))))),
 [.s 2]⟩
theorem ZjO:Zr Proofs.Tryz.prog false ZjN Proofs.Tryz.f205=some ZYd:=by kernel_rfl
def ZYe:List Hint:=[H [0,3],H [0,3,5],H [0,3,5,80],H [0,3,5,95],H [0,5,6],H [0,5,6],H [5],⟨[0,3,5,7],[0],[],[],[],[]⟩,H [0,3,5,7,20,21,22],H [0,3,5,7,20,21,22,23],H [0,3,5,7,9,20,21,22],H [0,3,5,7,10,20,21,22],⟨[0,3,5,7,10,20,21,22],[2],[],[],[],[]⟩,H [0,3,5,7,10,20,21,22],H [0,3,5,7,10,20,21,22],H [0,3,5,7,20,21,22],H [0,3,5,7,20,21,22],H [5],H [4]]
def ZPr:PC :=
 (R [0,3] [I 3 (.box (.s 1)),I 4 (.mv (.v .nilptr))])
def ZPs:PC :=
 (R [0,3,5] [F 11 1 3,L 12 11,F 13 2 3,T 14 3 13,F 15 0 3,L 16 15,I 17 (.build [(.int .u64 0),(.int .i64 0),(.int .i64 0),(.int .i64 0),(.int .i64 0)] [(1,1,(.s 12)),(2,3,(.s 14)),(0,1,(.s 16))]),I 18 (.box (.s 17)),M 5 18])
def ZPt:PC :=
 (R [0,3,5,80] [F 81 0 3,L 82 81,I 83 (.bin .neq (.s 82) (.v (.int .u64 0))),M 84 83,G 85 84 false (.fadr 5 (.s 3)),G 86 84 false (.ld false 1 (.s 85)),G 87 84 false (.bin .eql (.s 86) (.v (.str []))),U 88 84 false 87,G 89 88 true (.fadr 6 (.s 3)),G 90 88 true (.ld false 1 (.s 89)),G 91 88 true (.len 1 (.s 90)),G 92 88 true (.bin .eql (.s 91) (V 0)),G 93 84 false (.pick (.s 88) (.s 92) (.v (.bool false))),I 94 (.pick (.s 84) (.v (.bool true)) (.s 93)),M 80 94])
def ZPu:PC :=
 (R [0,3,5,95] [F 96 1 3,L 97 96,W 98 .eql 97 0,M 95 98])
def ZPv:PC :=
 (R [0,5,6] [F 99 5 3,L 100 99,I 101 (.build [(.int .i64 0),(.str []),.nils] [(1,1,(.s 100))]),I 6 (.box (.v ZN)),N 3 6 101])
def ZPw:PC :=
 (R [0,5,6] [M 103 5,T 104 3 6,I 105 (C YJ [(.s 104)]),M 102 105,X 106 102 0,X 107 102 1,I 108 (.nilck (.s 103)),F 109 2 108,N 3 109 106])
def ZPx:PC :=
 (R [5] [M 110 0,M 111 5,I 112 (.mkf (.func Js) [] [(.s 6)]),I 113 (C X7 [(.s 110),(.s 111),(.s 112)])])
def ZPy:PC :=
 (R [0,3,5,7] [I 7 (.boxnil 1)])
def ZPz:PC :=
 (R [0,3,5,7,20,21,22] [F 19 6 3,L 20 19,I 21 (.len 1 (.s 20)),K 22 0])
def ZP0:PC :=
 (R [0,3,5,7,20,21,22,23] [B 23 .lss 22 21])
def ZNE:PC :=
 (R [0,3,5,7,9,20,21,22] [I 24 (.ixS 7 (.s 20) (.s 22)),T 25 7 24,I 9 (.box (.v ZT)),N 7 9 25])
def ZNF:PC :=
 (R [0,3,5,7,10,20,21,22] [M 26 0,T 27 7 9,I 28 (C Qn [(.s 26),(.s 27)]),M 10 28])
def ZNG:PC :=
 (R [0,3,5,7,10,20,21,22] [L 29 7,M 30 10,I 31 (.bslice true 1 [.nilptr] [(0,(.s 30))]),I 32 (.app 1 8 (.s 29) (.s 31)),N 1 7 32])
def ZDI:PC :=
 (R [0,3,5,7,10,20,21,22] [M 33 5,I 34 (.nilck (.s 33)),F 35 2 34,F 36 0 35,L 37 36,M 38 10,I 39 (.nilck (.s 38)),F 40 2 39,F 41 0 40,L 42 41,B 43 .add 37 42,I 44 (.nilck (.s 33)),F 45 2 44,F 46 0 45,N 1 46 43])
def ZDJ:PC :=
 (R [0,3,5,7,10,20,21,22] [M 47 5,I 48 (.nilck (.s 47)),F 49 2 48,F 50 1 49,L 51 50,M 52 10,I 53 (.nilck (.s 52)),F 54 2 53,F 55 1 54,L 56 55,B 57 .add 51 56,I 58 (.nilck (.s 47)),F 59 2 58,F 60 1 59,N 1 60 57])
def ZDK:PC :=
 (R [0,3,5,7,20,21,22] [M 61 5,I 62 (.nilck (.s 61)),F 63 2 62,F 64 2 63,L 65 64,M 66 10,I 67 (.nilck (.s 66)),F 68 2 67,F 69 2 68,L 70 69,B 71 .add 65 70,I 72 (.nilck (.s 61)),F 73 2 72,F 74 2 73,N 1 74 71])
def ZNH:PC :=
 (R [0,3,5,7,20,21,22] [W 75 .add 22 1,M 22 75])
def ZNI:PC :=
 (D ZP0
 (D (E 23
 .skip
 (.exit 1))
 (D (.block 2
 (D ZNE
 (D ZNF
 (D ZNG
 (D ZDI
 (D ZDJ
 ZDK))))))
 ZNH)))
def ZNJ:PC :=
 (R [5] [M 76 0,M 77 5,I 78 (.mkf (.func JQ) [] [(.s 3),(.s 7)]),I 79 (C X7 [(.s 76),(.s 77),(.s 78)])])
def ZNK:PC :=
 (R [4] [M 114 5,M 4 114])
def ZID:PF:=⟨true,
 (D ZPr
 (D ZPs
 (D (.block 0
 (D ZPt
 (E 80
 .skip
 (D ZPu
 (E 95
 (D ZPv
 (D ZPw
 ZPx))
 (D ZPy
 (D (D ZPz
 (.block 1
 (.loop ZNI)))
 ZNJ)))))))
 (D ZNK
 .ret)))),
 [.s 4]⟩
theorem ZYf:Zr Proofs.Tryz.prog true ZYe Proofs.Tryz.f206=some ZID:=by kernel_rfl
def ZcE:List Hint:=[H []]
def ZTQ:PC :=
 (R [] [I 1 (.box (.s 0))])
def ZJl:PF:=⟨false,
 ZTQ,
 []⟩
theorem ZcF:Zr Proofs.Tryz.prog false ZcE Proofs.Tryz.f207=some ZJl:=by kernel_rfl
def ZP1:List Hint:=[H [0],H [2]]
def ZKl:PC :=
 (R [0] [I 2 (.mv (.v (.bool false)))])
def ZKm:PC :=
 (R [2] [M 3 0,I 4 (.bin .lss (.s 3) (.v (.int .u8 128))),M 5 4,U 6 5 false 0,G 7 5 false (.bin .gtr (.s 6) (.v (.int .u8 191))),I 8 (.pick (.s 5) (.v (.bool true)) (.s 7)),M 2 8])
def ZEC:PF:=⟨false,
 (D ZKl
 (D ZKm
 .ret)),
 [.s 2]⟩
theorem ZP2:Zr Proofs.Tryz.prog false ZP1 Proofs.Tryz.f208=some ZEC:=by kernel_rfl
def Zhc:List Hint:=[H [0,1],H [0,1,9],H [4,5,6],H [0,1,17],H [4,5,6],H [4,5,6]]
def ZcG:PC :=
 (R [0,1] [I 4 (.mv (.v (.str []))),I 5 (.mv (.v (.str []))),K 6 0])
def ZcH:PC :=
 (R [0,1,9] [M 7 0,I 8 (C X8 [(.s 7)]),I 9 (.un .not (.s 8))])
def ZcI:PC :=
 (R [4,5,6] [I 4 (.mv (.v (.str []))),I 5 (.mv (.v (.str []))),K 6 2])
def ZcJ:PC :=
 (R [0,1,17] [M 10 1,W 11 .lss 10 0,M 12 11,U 13 12 false 1,U 14 12 false 0,G 15 12 false (.len 0 (.s 14)),G 16 12 false (.bin .gtr (.s 13) (.s 15)),I 17 (.pick (.s 12) (.v (.bool true)) (.s 16))])
def ZcK:PC :=
 (R [4,5,6] [I 4 (.mv (.v (.str []))),I 5 (.mv (.v (.str []))),K 6 3])
def ZcL:PC :=
 (R [4,5,6] [M 18 0,M 19 1,I 20 (.slcS (.s 18) none (some (.s 19))),M 21 0,M 22 1,I 23 (.slcS (.s 21) (some (.s 22)) none),M 4 20,M 5 23,K 6 0])
def ZRM:PF:=⟨false,
 (D ZcG
 (D (D ZcH
 (E 9
 (D ZcI
 .ret)
 .skip))
 (D (D ZcJ
 (E 17
 (D ZcK
 .ret)
 .skip))
 (D ZcL
 .ret)))),
 [.s 4,.s 5,.s 6]⟩
theorem Zhd:Zr Proofs.Tryz.prog false Zhc Proofs.Tryz.f213=some ZRM:=by kernel_rfl
def ZcM:List Hint:=[H [1,2,3,4],H [1,2,3,4,16],H [2,3,4],H [3,4],H [3,26,27,28],H [3,26,27,28,29],H [3,6,26,27,28],H [3,26,27,28],H [3,26,27,28]]
def ZTR:PC :=
 (R [1,2,3,4] [I 4 (.box (.s 0))])
def ZTS:PC :=
 (R [1,2,3,4,16] [F 7 0 4,L 8 7,I 9 (.bin .neq (.s 8) (.v (.int .u64 0))),M 10 9,G 11 10 true (.ld false 1 (.s 1)),G 12 10 true (.fadr 0 (.s 4)),G 13 10 true (.ld false 1 (.s 12)),G 14 10 true (.look 0 (.bool false) false (.s 11) (.s 13)),G 15 10 true (.un .not (.s 14)),I 16 (.pick (.s 10) (.s 15) (.v (.bool false)))])
def ZTT:PC :=
 (R [2,3,4] [L 17 1,F 18 0 4,L 19 18,J (.mupd 0 (.s 17) (.s 19) (.v (.bool true)))])
def ZTU:PC :=
 (R [3,4] [L 20 2,F 21 0 4,L 22 21,I 23 (.bslice false 1 [(.int .u64 0)] [(0,(.s 22))]),I 24 (.app 1 8 (.s 20) (.s 23)),N 1 2 24])
def ZFt:PC :=
 (R [3,26,27,28] [F 25 6 4,L 26 25,I 27 (.len 1 (.s 26)),K 28 0])
def ZTV:PC :=
 (R [3,26,27,28,29] [B 29 .lss 28 27])
def ZTW:PC :=
 (R [3,6,26,27,28] [I 30 (.ixS 7 (.s 26) (.s 28)),T 31 7 30,I 6 (.box (.v ZT)),N 7 6 31])
def ZTX:PC :=
 (R [3,26,27,28] [L 32 3,T 33 7 6,I 34 (.call .norm (.s 32) [(.s 33)])])
def ZTY:PC :=
 (R [3,26,27,28] [W 35 .add 28 1,M 28 35])
def ZBZ:PC :=
 (D ZTV
 (D (E 29
 .skip
 (.exit 0))
 (D (.block 1
 (D ZTW
 ZTX))
 ZTY)))
def ZJm:PF:=⟨false,
 (D ZTR
 (D (D ZTS
 (E 16
 (D ZTT
 ZTU)
 .skip))
 (D ZFt
 (.block 0
 (.loop ZBZ))))),
 []⟩
theorem ZcN:Zr Proofs.Tryz.prog false ZcM Proofs.Tryz.f214=some ZJm:=by kernel_rfl
def ZYg:List Hint:=[H [1],H [2]]
def ZP3:PC :=
 (R [1] [I 1 (.box (.s 0)),K 2 0])
def ZP4:PC :=
 (R [2] [F 3 0 1,L 4 3,M 2 4])
def ZIE:PF:=⟨false,
 (D ZP3
 (D ZP4
 .ret)),
 [.s 2]⟩
theorem ZYh:Zr Proofs.Tryz.prog false ZYg Proofs.Tryz.f219=some ZIE:=by kernel_rfl
def ZTZ:List Hint:=[H [0,1],H [0,1,5],H [0,1,5,8,9],H [0,1,5,8,9,10],H [0,1,5,6,8,9],H [0,1,5,8,9,16],H [0,1,5,8,9],H [0,1,5,8,9],H [4]]
def ZNL:PC :=
 (R [0,1] [K 4 0])
def ZNM:PC :=
 (R [0,1,5] [K 5 0])
def ZNN:PC :=
 (R [0,1,5,8,9] [M 7 0,I 8 (.len 0 (.s 7)),K 9 0])
def ZNO:PC :=
 (R [0,1,5,8,9,10] [B 10 .lss 9 8])
def ZNP:PC :=
 (R [0,1,5,6,8,9] [M 11 9,M 6 11])
def ZNQ:PC :=
 (R [0,1,5,8,9,16] [M 12 1,M 13 0,M 14 6,I 15 (.ixStr (.s 13) (.s 14)),I 16 (.call .norm (.s 12) [(.s 15)])])
def ZNR:PC :=
 (R [0,1,5,8,9] [M 17 5,W 18 .add 17 1,M 5 18])
def ZNS:PC :=
 (R [0,1,5,8,9] [W 19 .add 9 1,M 9 19])
def ZNT:PC :=
 (D ZNO
 (D (E 10
 .skip
 (.exit 0))
 (D (.block 1
 (D ZNP
 (D ZNQ
 (E 16
 ZNR
 .skip))))
 ZNS)))
def ZNU:PC :=
 (R [4] [M 20 5,M 4 20])
def ZFu:PF:=⟨false,
 (D ZNL
 (D ZNM
 (D (D ZNN
 (.block 0
 (.loop ZNT)))
 (D ZNU
 .ret)))),
 [.s 4]⟩
theorem ZTa:Zr Proofs.Tryz.prog false ZTZ Proofs.Tryz.f220=some ZFu:=by kernel_rfl
def ZfX:List Hint:=[H [1],H [1,5],H [2],H [9],H [2],H [2]]
def ZYi:PC :=
 (R [1] [I 1 (.box (.s 0)),K 2 0])
def ZYj:PC :=
 (R [1,5] [T 3 3 1,I 4 (C ZAo [(.s 3)]),I 5 (.un .not (.s 4))])
def ZYk:PC :=
 (R [2] [K 2 23])
def ZYl:PC :=
 (R [9] [T 6 3 1,I 7 (C ZCY [(.s 6)]),I 8 (.fld false 0 1 (.s 7)),W 9 .gtr 8 65536])
def ZYm:PC :=
 (R [2] [K 2 5])
def ZYn:PC :=
 (R [2] [K 2 0])
def ZNV:PF:=⟨false,
 (D ZYi
 (D (D ZYj
 (E 5
 (D ZYk
 .ret)
 .skip))
 (D (D ZYl
 (E 9
 (D ZYm
 .ret)
 .skip))
 (D ZYn
 .ret)))),
 [.s 2]⟩
theorem ZfY:Zr Proofs.Tryz.prog false ZfX Proofs.Tryz.f221=some ZNV:=by kernel_rfl
def ZjP:List Hint:=[H [1,2],H [1,2,8],H [2],⟨[1,2,3],[0],[],[],[],[]⟩,H [2,3,13,14,15],H [2,3,13,14,15,16],H [2,3,5,13,14,15],H [2,3,13,14,15],H [2,3,13,14,15],H [2]]
def ZfZ:PC :=
 (R [1,2] [I 1 (.box (.s 0)),I 2 (.box (.v ZM))])
def Zfa:PC :=
 (R [1,2,8] [F 6 0 1,L 7 6,W 8 .eql 7 0])
def Zfb:PC :=
 (R [2] [F 9 1 1,L 10 9,I 11 (C ZEm [(.s 10)]),N 3 2 11])
def Zfc:PC :=
 (R [1,2,3] [I 3 (.onil 3)])
def Zfd:PC :=
 (R [2,3,13,14,15] [F 12 2 1,L 13 12,I 14 (.len 1 (.s 13)),K 15 0])
def Zfe:PC :=
 (R [2,3,13,14,15,16] [B 16 .lss 15 14])
def Zff:PC :=
 (R [2,3,5,13,14,15] [I 17 (.ixS 4 (.s 13) (.s 15)),T 18 4 17,I 5 (.box (.v ZK)),N 4 5 18])
def Zfg:PC :=
 (R [2,3,13,14,15] [M 19 3,F 20 1 5,T 21 3 20,I 22 (.bslice false 3 [ZM] [(0,(.s 21))]),I 23 (.app 3 24 (.s 19) (.s 22)),M 3 23])
def Zfh:PC :=
 (R [2,3,13,14,15] [W 24 .add 15 1,M 15 24])
def Zfi:PC :=
 (D Zfe
 (D (E 16
 .skip
 (.exit 0))
 (D (.block 1
 (D Zff
 Zfg))
 Zfh)))
def ZcO:PC :=
 (R [2] [M 25 3,I 26 (C ZDY [(.s 25)]),N 3 2 26])
def ZYo:PF:=⟨false,
 (D ZfZ
 (D (D Zfa
 (E 8
 (D Zfb
 .ret)
 .skip))
 (D Zfc
 (D (D Zfd
 (.block 0
 (.loop Zfi)))
 (D ZcO
 .ret))))),
 [.c 2 true 3]⟩
theorem ZjQ:Zr Proofs.Tryz.prog false ZjP Proofs.Tryz.f222=some ZYo:=by kernel_rfl
def ZcP:List Hint:=[H [1,2],H [1,2,10],H [4],H [1,2,5],H [2,5,17],H [2,5],H [5,6],H [5,6,7],H [6,7,23,24],H [6,7,23,24,25],H [6,7,8,23,24],H [6,7,23,24],H [6,7,23,24],H [4]]
def ZTb:PC :=
 (R [1,2] [I 2 (.box (.s 0)),I 4 (.mv (.v .nils))])
def ZTc:PC :=
 (R [1,2,10] [L 9 2,W 10 .eql 9 0])
def ZTd:PC :=
 (R [4] [I 4 (.mv (.v .nils))])
def ZTe:PC :=
 (R [1,2,5] [L 11 2,M 12 1,B 13 .quo 11 12,I 5 (.box (V 0)),N 1 5 13])
def ZTf:PC :=
 (R [2,5,17] [L 14 2,M 15 1,B 16 .rem 14 15,W 17 .gtr 16 0])
def ZTg:PC :=
 (R [2,5] [L 18 5,W 19 .add 18 1,N 1 5 19])
def ZTh:PC :=
 (R [5,6] [I 20 (.mkf (.func J2) [] [(.s 2),(.s 5)]),M 6 20])
def ZTi:PC :=
 (R [5,6,7] [L 21 5,I 22 (.mkslice 1 8 (.int .i64 0) (.s 21) (.s 21)),M 7 22])
def ZTj:PC :=
 (R [6,7,23,24] [L 23 5,K 24 0])
def ZTk:PC :=
 (R [6,7,23,24,25] [B 25 .lss 24 23])
def ZP5:PC :=
 (R [6,7,8,23,24] [M 26 24,M 8 26])
def ZP6:PC :=
 (R [6,7,23,24] [M 27 7,M 28 8,M 29 6,M 30 8,I 31 (.call .norm (.s 29) [(.s 30)]),I 32 (.ixS 1 (.s 27) (.s 28)),N 1 32 31])
def ZP7:PC :=
 (R [6,7,23,24] [W 33 .add 24 1,M 24 33])
def ZED:PC :=
 (D ZTk
 (D (E 25
 .skip
 (.exit 0))
 (D (.block 1
 (D ZP5
 ZP6))
 ZP7)))
def ZP8:PC :=
 (R [4] [M 34 7,M 4 34])
def ZJn:PF:=⟨false,
 (D ZTb
 (D (D ZTc
 (E 10
 (D ZTd
 .ret)
 .skip))
 (D ZTe
 (D (D ZTf
 (E 17
 ZTg
 .skip))
 (D ZTh
 (D ZTi
 (D (D ZTj
 (.block 0
 (.loop ZED)))
 (D ZP8
 .ret)))))))),
 [.s 4]⟩
theorem ZcQ:Zr Proofs.Tryz.prog false ZcP Proofs.Tryz.f223=some ZJn:=by kernel_rfl
def Zfj:List Hint:=[H [0,4,5],H [0,4,5,22],H [6,7],H [0,4,5,8,9],H [0,4,5,8,9],H [0,4,5,8,9,33],H [0,4,5,8,9,10],H [0,4,5,8,9,10,41],H [6,7],H [0,4,5,8,9,47],H [0,4,5,8,9,10],H [0,4,5,8,9,10,55],H [6,7],H [0,4,5,8,9,57],H [6,7],H [0,4,5,8,9,78],H [6,7],H [0,4,5,8,9,87],H [0,5,8,11],H [8,11,12,13],H [8,11,12,13,107],H [6,7],H [6,7],H [9,10,14],H [9,10,14,127],H [6,7],⟨[6,7],[],[],[],[(4,.blind),(2,.app0),(0,.imm)],[]⟩]
def ZYp:PC :=
 (R [0,4,5] [I 4 (.box (.s 1)),I 5 (.box (.s 2)),I 6 (.mv (.v .nils)),K 7 0])
def ZYq:PC :=
 (R [0,4,5,22] [F 15 1 4,L 16 15,W 17 .eql 16 0,M 18 17,G 19 18 true (.fadr 1 (.s 5)),G 20 18 true (.ld false 1 (.s 19)),G 21 18 true (.bin .eql (.s 20) (V 0)),I 22 (.pick (.s 18) (.s 21) (.v (.bool false)))])
def ZYr:PC :=
 (R [6,7] [M 23 0,T 24 7 4,T 25 7 5,I 26 (C ZDZ [(.s 23),(.s 24),(.s 25)]),X 27 26 0,X 28 26 1,M 6 27,M 7 28])
def ZYs:PC :=
 (R [0,4,5,8,9] [I 8 (.mv (.v .nils)),I 9 (.mv (.v .nils))])
def ZYt:PC :=
 (R [0,4,5,8,9] [K 10 0])
def ZYu:PC :=
 (R [0,4,5,8,9,33] [F 29 1 4,L 30 29,F 31 1 5,L 32 31,B 33 .geq 30 32])
def ZYv:PC :=
 (R [0,4,5,8,9,10] [M 35 0,T 36 7 4,I 37 (C J0 [(.s 35),(.s 36)]),M 34 37,X 38 34 0,X 39 34 1,M 8 38,M 10 39])
def ZYw:PC :=
 (R [0,4,5,8,9,10,41] [M 40 10,W 41 .neq 40 0])
def ZYx:PC :=
 (R [6,7] [M 42 10,I 6 (.mv (.v .nils)),M 7 42])
def ZYy:PC :=
 (R [0,4,5,8,9,47] [F 43 1 5,L 44 43,F 45 1 4,L 46 45,B 47 .geq 44 46])
def ZTl:PC :=
 (R [0,4,5,8,9,10] [M 49 0,T 50 7 5,I 51 (C J0 [(.s 49),(.s 50)]),M 48 51,X 52 48 0,X 53 48 1,M 9 52,M 10 53])
def ZTm:PC :=
 (R [0,4,5,8,9,10,55] [M 54 10,W 55 .neq 54 0])
def ZTn:PC :=
 (R [6,7] [M 56 10,I 6 (.mv (.v .nils)),M 7 56])
def ZTo:PC :=
 (R [0,4,5,8,9,57] [F 58 1 4,L 59 58,F 60 1 5,L 61 60,B 62 .eql 59 61,M 63 62,U 64 63 true 8,G 65 63 true (.len 1 (.s 64)),U 66 63 true 9,G 67 63 true (.len 1 (.s 66)),G 68 63 true (.bin .add (.s 65) (.s 67)),G 69 63 true (.bin .leq (.s 68) (V 4)),I 70 (.pick (.s 63) (.s 69) (.v (.bool false))),M 57 70])
def ZTp:PC :=
 (R [6,7] [I 71 (.bslice false 7 [] []),M 72 8,I 73 (.app 7 80 (.s 71) (.s 72)),M 74 9,I 75 (.app 7 80 (.s 73) (.s 74)),I 76 (C QP [(.s 75)]),I 77 (.bslice false 7 [ZT] [(0,(.s 76))]),M 6 77,K 7 0])
def ZTq:PC :=
 (R [0,4,5,8,9,78] [F 79 1 4,L 80 79,F 81 1 5,L 82 81,B 83 .eql 80 82,M 78 83])
def ZTr:PC :=
 (R [6,7] [T 84 7 4,T 85 7 5,I 86 (.bslice false 7 [ZT,ZT] [(0,(.s 84)),(1,(.s 85))]),M 6 86,K 7 0])
def ZTs:PC :=
 (R [0,4,5,8,9,87] [F 88 1 4,L 89 88,F 90 1 5,L 91 90,B 92 .gtr 89 91,M 87 92])
def ZTt:PC :=
 (R [0,5,8,11] [M 93 8,I 94 (.len 1 (.s 93)),W 95 .sub 94 1,M 11 95])
def ZTu:PC :=
 (R [8,11,12,13] [M 97 0,M 98 8,M 99 11,I 100 (.ixS 7 (.s 98) (.s 99)),T 101 7 100,T 102 7 5,I 103 (C X6 [(.s 97),(.s 101),(.s 102)]),M 96 103,X 104 96 0,X 105 96 1,M 12 104,M 13 105])
def ZTv:PC :=
 (R [8,11,12,13,107] [M 106 13,W 107 .neq 106 0])
def ZTw:PC :=
 (R [6,7] [M 108 13,I 6 (.mv (.v .nils)),M 7 108])
def ZTx:PC :=
 (R [6,7] [I 109 (.bslice false 7 [] []),M 110 8,M 111 11,I 112 (.slc 7 (.s 110) none (some (.s 111))),I 113 (.app 7 80 (.s 109) (.s 112)),M 114 12,I 115 (.app 7 80 (.s 113) (.s 114)),I 116 (C ZDF [(.s 115)]),M 6 116,K 7 0])
def ZTy:PC :=
 (R [9,10,14] [M 118 0,T 119 7 4,M 120 9,I 121 (.ixS 7 (.s 120) (V 0)),T 122 7 121,I 123 (C X6 [(.s 118),(.s 119),(.s 122)]),M 117 123,X 124 117 0,X 125 117 1,M 14 124,M 10 125])
def ZTz:PC :=
 (R [9,10,14,127] [M 126 10,W 127 .neq 126 0])
def ZT0:PC :=
 (R [6,7] [M 128 10,I 6 (.mv (.v .nils)),M 7 128])
def ZT1:PC :=
 (R [6,7] [I 129 (.w .imm (.bslice false 7 [] [])),M 130 14,I 131 (.w .app0 (.app 7 80 (.s 129) (.s 130))),M 132 9,I 133 (.w .blind (.slc 7 (.s 132) (some (V 1)) none)),I 134 (.app 7 80 (.s 131) (.s 133)),I 135 (C ZDF [(.s 134)]),M 6 135,K 7 0])
def ZNW:PF:=⟨false,
 (D ZYp
 (D (D ZYq
 (E 22
 (D ZYr
 .ret)
 .skip))
 (D ZYs
 (D ZYt
 (D (D ZYu
 (E 33
 (D ZYv
 (D ZYw
 (E 41
 (D ZYx
 .ret)
 .skip)))
 .skip))
 (D (D ZYy
 (E 47
 (D ZTl
 (D ZTm
 (E 55
 (D ZTn
 .ret)
 .skip)))
 .skip))
 (D (.block 0
 (D ZTo
 (E 57
 (D ZTp
 .ret)
 (D ZTq
 (E 78
 (D ZTr
 .ret)
 (D ZTs
 (E 87
 (D ZTt
 (D ZTu
 (D (D ZTv
 (E 107
 (D ZTw
 .ret)
 .skip))
 (D ZTx
 .ret))))
 .skip)))))))
 (D ZTy
 (D (D ZTz
 (E 127
 (D ZT0
 .ret)
 .skip))
 (D ZT1
 .ret)))))))))),
 [.s 6,.s 7]⟩
theorem Zfk:Zr Proofs.Tryz.prog false Zfj Proofs.Tryz.f225=some ZNW:=by kernel_rfl
def ZYz:List Hint:=[H [3,4,5],⟨[],[6],[],[],[(0,(.only (.s 3))),(7,(.grow (.s 3)))],[]⟩]
def ZP9:PC :=
 (R [3,4,5] [I 3 (.box (.s 0)),I 4 (.box (.s 1)),I 5 (.box (.s 2))])
def ZQA:PC :=
 (R [] [I 6 (.w (.only (.s 3)) (.ld false 1 (.s 3))),L 7 3,I 8 (.nilck (.s 7)),F 9 1 8,L 10 9,I 11 (.mkf (.func Y8) [] [(.s 3),(.s 5),(.s 4)]),I 12 (.bslice true 1 [.nilfunc] [(0,(.s 11))]),I 13 (.w (.grow (.s 3)) (.app 1 8 (.s 10) (.s 12))),I 14 (.nilck (.s 6)),F 15 1 14,N 1 15 13])
def ZIF:PF:=⟨true,
 (D ZP9
 ZQA),
 []⟩
theorem ZY0:Zr Proofs.Tryz.prog true ZYz Proofs.Tryz.f226=some ZIF:=by kernel_rfl
def ZQB:List Hint:=[H [0,1],H [1]]
def ZKn:PC :=
 (R [0,1] [I 1 (.box (.v ZN))])
def ZKo:PC :=
 (R [1] [T 2 3 0,N 3 1 2])
def ZEE:PF:=⟨false,
 (D ZKn
 (D ZKo
 .ret)),
 [.c 1 true 3]⟩
theorem ZQC:Zr Proofs.Tryz.prog false ZQB Proofs.Tryz.f227=some ZEE:=by kernel_rfl
def ZQD:List Hint:=[H [0,1,2],H [1,2,3],H [2,3,9,10,11],H [2,3,9,10,11,12],H [2,3,5,9,10,11],⟨[2,3,9,10,11],[],[],[],[(11,.imm)],[]⟩,H [2,3,9,10,11],H [2]]
def ZKp:PC :=
 (R [0,1,2] [I 2 (.box (.v ZN))])
def ZKq:PC :=
 (R [1,2,3] [F 6 1 0,L 7 6,I 8 (.build [(.int .i64 0),(.str []),.nils] [(0,1,(.s 7))]),I 3 (.box (.v ZN)),N 3 3 8])
def ZKr:PC :=
 (R [2,3,9,10,11] [L 9 1,I 10 (.len 1 (.s 9)),K 11 0])
def ZKs:PC :=
 (R [2,3,9,10,11,12] [B 12 .lss 11 10])
def ZKt:PC :=
 (R [2,3,5,9,10,11] [I 13 (.ixS 1 (.s 9) (.s 11)),L 14 13,M 5 14])
def ZKu:PC :=
 (R [2,3,9,10,11] [F 15 2 3,L 16 15,M 17 5,I 18 (.nilck (.s 17)),F 19 0 18,L 20 19,M 21 5,I 22 (.nilck (.s 21)),F 23 2 22,T 24 3 23,I 25 (.build [(.int .u64 0),(.int .i64 0),(.int .i64 0),(.int .i64 0)] [(0,1,(.s 20)),(1,3,(.s 24))]),I 26 (.w .imm (.bslice false 4 [ZK] [(0,(.s 25))])),I 27 (.app 4 32 (.s 16) (.s 26)),F 28 2 3,N 1 28 27])
def ZKv:PC :=
 (R [2,3,9,10,11] [W 29 .add 11 1,M 11 29])
def ZKw:PC :=
 (D ZKs
 (D (E 12
 .skip
 (.exit 0))
 (D (.block 1
 (D ZKt
 ZKu))
 ZKv)))
def ZKx:PC :=
 (R [2] [T 30 3 3,N 3 2 30])
def ZEF:PF:=⟨false,
 (D ZKp
 (D ZKq
 (D (D ZKr
 (.block 0
 (.loop ZKw)))
 (D ZKx
 .ret)))),
 [.c 2 true 3]⟩
theorem ZQE:Zr Proofs.Tryz.prog false ZQD Proofs.Tryz.f228=some ZEF:=by kernel_rfl
def Zfl:List Hint:=[H [0],H [2]]
def ZY1:PC :=
 (R [0] [I 2 (.mv (.v (.bool false)))])
def ZY2:PC :=
 (R [2] [M 3 0,I 4 (.len 0 (.s 3)),W 5 .geq 4 1,M 6 5,U 7 6 true 0,G 8 6 true (.len 0 (.s 7)),G 9 6 true (.bin .leq (.s 8) (V 16)),I 10 (.pick (.s 6) (.s 9) (.v (.bool false))),M 2 10])
def ZNX:PF:=⟨false,
 (D ZY1
 (D ZY2
 .ret)),
 [.s 2]⟩
theorem Zfm:Zr Proofs.Tryz.prog false Zfl Proofs.Tryz.f229=some ZNX:=by kernel_rfl
def ZcR:List Hint:=[H [1],H [1,9],H [2],H [1,50],H [2],H [1,3,4],H [3,4,59,60,61],H [3,4,59,60,61,62],H [3,4,6,59,60,61],H [3,4,59,60,61,112],H [2],H [3,4,59,60,61],H [2]]
def ZT2:PC :=
 (R [1] [I 1 (.box (.s 0)),I 2 (.mv (.v (.bool false)))])
def ZT3:PC :=
 (R [1,9] [F 7 0 1,L 8 7,W 9 .eql 8 0])
def ZT4:PC :=
 (R [2] [F 10 1 1,L 11 10,I 12 (.len 0 (.s 11)),W 13 .geq 12 1,M 14 13,G 15 14 true (.fadr 1 (.s 1)),G 16 14 true (.ld false 1 (.s 15)),G 17 14 true (.len 0 (.s 16)),G 18 14 true (.bin .leq (.s 17) (V 16)),I 19 (.pick (.s 14) (.s 18) (.v (.bool false))),M 20 19,G 21 20 true (.fadr 2 (.s 1)),G 22 20 true (.ld false 1 (.s 21)),G 23 20 true (.len 1 (.s 22)),G 24 20 true (.bin .eql (.s 23) (V 0)),I 25 (.pick (.s 20) (.s 24) (.v (.bool false))),M 2 25])
def ZT5:PC :=
 (R [1,50] [F 26 0 1,L 27 26,W 28 .lss 27 1,M 29 28,G 30 29 false (.fadr 0 (.s 1)),G 31 29 false (.ld false 1 (.s 30)),G 32 29 false (.bin .gtr (.s 31) (V 16)),I 33 (.pick (.s 29) (.v (.bool true)) (.s 32)),M 34 33,G 35 34 false (.fadr 1 (.s 1)),G 36 34 false (.ld false 1 (.s 35)),G 37 34 false (.bin .neq (.s 36) (.v (.str []))),I 38 (.pick (.s 34) (.v (.bool true)) (.s 37)),M 39 38,G 40 39 false (.fadr 2 (.s 1)),G 41 39 false (.ld false 1 (.s 40)),G 42 39 false (.len 1 (.s 41)),G 43 39 false (.bin .lss (.s 42) (V 2)),I 44 (.pick (.s 39) (.v (.bool true)) (.s 43)),M 45 44,G 46 45 false (.fadr 2 (.s 1)),G 47 45 false (.ld false 1 (.s 46)),G 48 45 false (.len 1 (.s 47)),G 49 45 false (.bin .gtr (.s 48) (V 4)),I 50 (.pick (.s 45) (.v (.bool true)) (.s 49))])
def ZT6:PC :=
 (R [2] [I 2 (.mv (.v (.bool false)))])
def ZT7:PC :=
 (R [1,3,4] [F 52 0 1,L 53 52,W 54 .sub 53 1,I 55 (C ZDa [(.s 54)]),M 51 55,X 56 51 0,X 57 51 1,M 3 56,M 4 57])
def ZT8:PC :=
 (R [3,4,59,60,61] [F 58 2 1,L 59 58,I 60 (.len 1 (.s 59)),K 61 0])
def ZT9:PC :=
 (R [3,4,59,60,61,62] [B 62 .lss 61 60])
def ZUA:PC :=
 (R [3,4,6,59,60,61] [I 63 (.ixS 4 (.s 59) (.s 61)),T 64 4 63,I 6 (.box (.v ZK)),N 4 6 64])
def ZUB:PC :=
 (R [3,4,59,60,61,112] [F 65 0 6,L 66 65,I 67 (C ZCZ [(.s 66)]),W 68 .neq 67 0,M 69 68,G 70 69 false (.fadr 1 (.s 6)),G 71 69 false (.fadr 0 (.s 70)),G 72 69 false (.ld false 1 (.s 71)),U 73 69 false 3,G 74 69 false (.bin .lss (.s 72) (.s 73)),I 75 (.pick (.s 69) (.v (.bool true)) (.s 74)),M 76 75,G 77 76 false (.fadr 1 (.s 6)),G 78 76 false (.fadr 0 (.s 77)),G 79 76 false (.ld false 1 (.s 78)),U 80 76 false 4,G 81 76 false (.bin .gtr (.s 79) (.s 80)),I 82 (.pick (.s 76) (.v (.bool true)) (.s 81)),M 83 82,G 84 83 false (.fadr 1 (.s 6)),G 85 83 false (.fadr 1 (.s 84)),G 86 83 false (.ld false 1 (.s 85)),G 87 83 false (.bin .lss (.s 86) (V 0)),I 88 (.pick (.s 83) (.v (.bool true)) (.s 87)),M 89 88,G 90 89 false (.fadr 1 (.s 6)),G 91 89 false (.fadr 1 (.s 90)),G 92 89 false (.ld false 1 (.s 91)),G 93 89 false (.fadr 1 (.s 6)),G 94 89 false (.fadr 0 (.s 93)),G 95 89 false (.ld false 1 (.s 94)),G 96 89 false (.bin .gtr (.s 92) (.s 95)),I 97 (.pick (.s 89) (.v (.bool true)) (.s 96)),M 98 97,G 99 98 false (.fadr 1 (.s 6)),G 100 98 false (.fadr 2 (.s 99)),G 101 98 false (.ld false 1 (.s 100)),G 102 98 false (.bin .lss (.s 101) (V 0)),I 103 (.pick (.s 98) (.v (.bool true)) (.s 102)),M 104 103,G 105 104 false (.fadr 1 (.s 6)),G 106 104 false (.fadr 2 (.s 105)),G 107 104 false (.ld false 1 (.s 106)),G 108 104 false (.fadr 1 (.s 6)),G 109 104 false (.fadr 1 (.s 108)),G 110 104 false (.ld false 1 (.s 109)),G 111 104 false (.bin .gtr (.s 107) (.s 110)),I 112 (.pick (.s 104) (.v (.bool true)) (.s 111))])
def ZQF:PC :=
 (R [2] [I 2 (.mv (.v (.bool false)))])
def ZQG:PC :=
 (R [3,4,59,60,61] [W 113 .add 61 1,M 61 113])
def ZQH:PC :=
 (D ZT9
 (D (E 62
 .skip
 (.exit 0))
 (D (.block 1
 (D ZUA
 (D ZUB
 (E 112
 (D ZQF
 .ret)
 .skip))))
 ZQG)))
def ZQI:PC :=
 (R [2] [I 2 (.mv (.v (.bool true)))])
def ZJo:PF:=⟨false,
 (D ZT2
 (D (D ZT3
 (E 9
 (D ZT4
 .ret)
 .skip))
 (D (D ZT5
 (E 50
 (D ZT6
 .ret)
 .skip))
 (D ZT7
 (D (D ZT8
 (.block 0
 (.loop ZQH)))
 (D ZQI
 .ret)))))),
 [.s 2]⟩
theorem ZcS:Zr Proofs.Tryz.prog false ZcR Proofs.Tryz.f240=some ZJo:=by kernel_rfl
def Zfn:List Hint:=[H [0,2],H [0,2,3],H [0,2,3,6,7],H [0,2,3,6,7,8],H [0,2,3,4,5,6,7],H [0,2,3,6,7],H [0,2,3,6,7],H [2]]
def ZY3:PC :=
 (R [0,2] [I 2 (.box (.v ZM))])
def ZY4:PC :=
 (R [0,2,3] [I 3 (.box (.v ZM))])
def ZY5:PC :=
 (R [0,2,3,6,7] [I 6 (.build [.nilfunc,.nilfunc,.nilfunc] [(0,1,(.v (.func (.func XS) [] []))),(1,1,(.v (.func (.func Y7) [] []))),(2,1,(.v (.func (.func XR) [] [])))]),K 7 0])
def ZY6:PC :=
 (R [0,2,3,6,7,8] [W 8 .lss 7 3])
def ZY7:PC :=
 (R [0,2,3,4,5,6,7] [M 9 7,I 10 (.ixArr false 3 1 (.s 6) (.s 7)),M 4 9,M 5 10])
def ZY8:PC :=
 (R [0,2,3,6,7] [M 11 4,M 12 0,M 13 5,I 14 (C ZA9 [(.s 12),(.s 13)]),I 15 (.ixA 3 1 (.s 3) (.s 11)),N 1 15 14])
def ZY9:PC :=
 (R [0,2,3,6,7] [W 16 .add 7 1,M 7 16])
def ZZA:PC :=
 (D ZY6
 (D (E 8
 .skip
 (.exit 0))
 (D (.block 1
 (D ZY7
 ZY8))
 ZY9)))
def ZZB:PC :=
 (R [2] [T 17 3 3,I 18 (C YT [(.s 17)]),N 3 2 18])
def ZNY:PF:=⟨false,
 (D ZY3
 (D ZY4
 (D (D ZY5
 (.block 0
 (.loop ZZA)))
 (D ZZB
 .ret)))),
 [.c 2 true 3]⟩
theorem Zfo:Zr Proofs.Tryz.prog false Zfn Proofs.Tryz.f241=some ZNY:=by kernel_rfl
def ZcT:List Hint:=[H [0,2],H [0,2,3],H [2,3,8,9,10],H [2,3,8,9,10,11],H [2,3,5,8,9,10],H [2,3,8,9,10,20,21],H [2,3,8,9,10,20,21,22],H [2,3,6,7,8,9,10,20,21],H [2,3,8,9,10,20,21],H [2,3,8,9,10,20,21],H [2,3,8,9,10],H [2]]
def ZUC:PC :=
 (R [0,2] [I 2 (.box (.v ZM))])
def ZUD:PC :=
 (R [0,2,3] [I 3 (.box (.v ZM))])
def ZUE:PC :=
 (R [2,3,8,9,10] [M 8 0,I 9 (.len 1 (.s 8)),K 10 0])
def ZUF:PC :=
 (R [2,3,8,9,10,11] [B 11 .lss 10 9])
def ZUG:PC :=
 (R [2,3,5,8,9,10] [I 12 (.ixS 3 (.s 8) (.s 10)),T 13 3 12,I 5 (.box (.v ZM)),N 3 5 13])
def ZUH:PC :=
 (R [2,3,8,9,10,20,21] [F 14 0 5,L 15 14,F 16 1 5,L 17 16,F 18 2 5,L 19 18,I 20 (.build [(.int .i64 0),(.int .i64 0),(.int .i64 0)] [(0,1,(.s 15)),(1,1,(.s 17)),(2,1,(.s 19))]),K 21 0])
def ZUI:PC :=
 (R [2,3,8,9,10,20,21,22] [W 22 .lss 21 3])
def ZUJ:PC :=
 (R [2,3,6,7,8,9,10,20,21] [M 23 21,I 24 (.ixArr false 3 1 (.s 20) (.s 21)),M 6 23,M 7 24])
def ZUK:PC :=
 (R [2,3,8,9,10,20,21] [M 25 6,I 26 (.ixA 3 1 (.s 3) (.s 25)),L 27 26,M 28 7,B 29 .add 27 28,I 30 (.ixA 3 1 (.s 3) (.s 25)),N 1 30 29])
def ZUL:PC :=
 (R [2,3,8,9,10,20,21] [W 31 .add 21 1,M 21 31])
def ZQJ:PC :=
 (D ZUI
 (D (E 22
 .skip
 (.exit 2))
 (D (.block 3
 (D ZUJ
 ZUK))
 ZUL)))
def ZQK:PC :=
 (R [2,3,8,9,10] [W 32 .add 10 1,M 10 32])
def ZQL:PC :=
 (D ZUF
 (D (E 11
 .skip
 (.exit 0))
 (D (.block 1
 (D ZUG
 (D ZUH
 (.block 2
 (.loop ZQJ)))))
 ZQK)))
def ZQM:PC :=
 (R [2] [T 33 3 3,I 34 (C YT [(.s 33)]),N 3 2 34])
def ZJp:PF:=⟨false,
 (D ZUC
 (D ZUD
 (D (D ZUE
 (.block 0
 (.loop ZQL)))
 (D ZQM
 .ret)))),
 [.c 2 true 3]⟩
theorem ZcU:Zr Proofs.Tryz.prog false ZcT Proofs.Tryz.f242=some ZJp:=by kernel_rfl
def ZUM:List Hint:=[H [0,1,2],H [1,2,9],H [4],H [4]]
def ZNZ:PC :=
 (R [0,1,2] [K 4 0])
def ZNa:PC :=
 (R [1,2,9] [M 5 0,L 6 1,L 7 2,B 8 .rem 6 7,B 9 .lss 5 8])
def ZNb:PC :=
 (R [4] [L 10 1,L 11 2,B 12 .quo 10 11,W 13 .add 12 1,M 4 13])
def ZNc:PC :=
 (R [4] [L 14 1,L 15 2,B 16 .quo 14 15,M 4 16])
def ZFv:PF:=⟨false,
 (D ZNZ
 (D (D ZNa
 (E 9
 (D ZNb
 .ret)
 .skip))
 (D ZNc
 .ret))),
 [.s 4]⟩
theorem ZUN:Zr Proofs.Tryz.prog false ZUM Proofs.Tryz.f243=some ZFv:=by kernel_rfl
def ZcV:List Hint:=[H [0,4,5],⟨[0,4,5,8,9],[],[(1,.pure)],[],[],[]⟩,H [0,4,5,32],H [6,7],H [0,5,10,11],H [0,5,10,11,43],H [6,7],H [10,11,12],H [10,11,12,52],H [6,7],H [11,13],H [11,13,61],H [6,7],⟨[13,14],[0],[],[],[],[]⟩,H [14,63,64,65],H [14,63,64,65,66],H [14,16,63,64,65],H [14,63,64,65],H [14,63,64,65],H [6,7]]
def ZUO:PC :=
 (R [0,4,5] [I 4 (.box (.s 1)),I 5 (.box (.s 2)),I 6 (.mv (.v .nils)),K 7 0])
def ZUP:PC :=
 (R [0,4,5,8,9] [T 17 7 4,I 18 (.call .pure (.v (.func (.func Qb) [] [])) [(.s 17)]),T 19 7 5,I 20 (C Qb [(.s 19)]),M 8 18,M 9 20])
def ZUQ:PC :=
 (R [0,4,5,32] [M 21 8,M 22 9,B 23 .add 21 22,W 24 .gtr 23 16,M 25 24,U 26 25 true 8,G 27 25 true (.bin .geq (.s 26) (V 8)),I 28 (.pick (.s 25) (.s 27) (.v (.bool false))),M 29 28,U 30 29 true 9,G 31 29 true (.bin .geq (.s 30) (V 8)),I 32 (.pick (.s 29) (.s 31) (.v (.bool false)))])
def ZUR:PC :=
 (R [6,7] [T 33 7 4,T 34 7 5,I 35 (.bslice false 7 [ZT,ZT] [(0,(.s 33)),(1,(.s 34))]),M 6 35,K 7 0])
def ZUS:PC :=
 (R [0,5,10,11] [M 37 0,T 38 7 4,I 39 (C Xn [(.s 37),(.s 38)]),M 36 39,X 40 36 0,X 41 36 1,M 10 40,M 11 41])
def ZUT:PC :=
 (R [0,5,10,11,43] [M 42 11,W 43 .neq 42 0])
def ZUU:PC :=
 (R [6,7] [M 44 11,I 6 (.mv (.v .nils)),M 7 44])
def ZUV:PC :=
 (R [10,11,12] [M 46 0,T 47 7 5,I 48 (C Xn [(.s 46),(.s 47)]),M 45 48,X 49 45 0,X 50 45 1,M 12 49,M 11 50])
def ZUW:PC :=
 (R [10,11,12,52] [M 51 11,W 52 .neq 51 0])
def ZUX:PC :=
 (R [6,7] [M 53 11,I 6 (.mv (.v .nils)),M 7 53])
def ZQN:PC :=
 (R [11,13] [M 55 10,M 56 12,I 57 (C ZEn [(.s 55),(.s 56)]),M 54 57,X 58 54 0,X 59 54 1,M 13 58,M 11 59])
def ZQO:PC :=
 (R [11,13,61] [M 60 11,W 61 .neq 60 0])
def ZQP:PC :=
 (R [6,7] [M 62 11,I 6 (.mv (.v .nils)),M 7 62])
def ZQQ:PC :=
 (R [13,14] [I 14 (.onil 7)])
def ZQR:PC :=
 (R [14,63,64,65] [M 63 13,I 64 (.len 1 (.s 63)),K 65 0])
def ZQS:PC :=
 (R [14,63,64,65,66] [B 66 .lss 65 64])
def ZQT:PC :=
 (R [14,16,63,64,65] [I 67 (.ixS 1 (.s 63) (.s 65)),L 68 67,M 16 68])
def ZQU:PC :=
 (R [14,63,64,65] [M 69 14,M 70 16,I 71 (.build [(.int .u64 0),(.int .i64 0),(.int .i64 0),(.int .i64 0),(.int .i64 0),(.str []),.nils] [(5,1,(.s 70))]),I 72 (.bslice false 7 [ZT] [(0,(.s 71))]),I 73 (.app 7 80 (.s 69) (.s 72)),M 14 73])
def ZQV:PC :=
 (R [14,63,64,65] [W 74 .add 65 1,M 65 74])
def ZEG:PC :=
 (D ZQS
 (D (E 66
 .skip
 (.exit 0))
 (D (.block 1
 (D ZQT
 ZQU))
 ZQV)))
def ZQW:PC :=
 (R [6,7] [M 75 14,M 6 75,K 7 0])
def ZJq:PF:=⟨false,
 (D ZUO
 (D ZUP
 (D (D ZUQ
 (E 32
 (D ZUR
 .ret)
 .skip))
 (D ZUS
 (D (D ZUT
 (E 43
 (D ZUU
 .ret)
 .skip))
 (D ZUV
 (D (D ZUW
 (E 52
 (D ZUX
 .ret)
 .skip))
 (D ZQN
 (D (D ZQO
 (E 61
 (D ZQP
 .ret)
 .skip))
 (D ZQQ
 (D (D ZQR
 (.block 0
 (.loop ZEG)))
 (D ZQW
 .ret)))))))))))),
 [.s 6,.s 7]⟩
theorem ZcW:Zr Proofs.Tryz.prog false ZcV Proofs.Tryz.f245=some ZJq:=by kernel_rfl
def Zhe:List Hint:=[H [0],H [0,6],H [2],H [0,3],⟨[2],[],[(3,.pure)],[],[],[]⟩]
def ZcX:PC :=
 (R [0] [I 2 (.mv (.v .nils))])
def ZcY:PC :=
 (R [0,6] [M 4 0,I 5 (.len 1 (.s 4)),W 6 .leq 5 4])
def ZcZ:PC :=
 (R [2] [M 7 0,I 8 (C QP [(.s 7)]),I 9 (.bslice false 7 [ZT] [(0,(.s 8))]),M 2 9])
def Zca:PC :=
 (R [0,3] [M 10 0,I 11 (.len 1 (.s 10)),W 12 .add 11 1,W 13 .quo 12 2,M 3 13])
def Zcb:PC :=
 (R [2] [M 14 0,M 15 3,I 16 (.slc 7 (.s 14) none (some (.s 15))),I 17 (.call .pure (.v (.func (.func QP) [] [])) [(.s 16)]),M 18 0,M 19 3,I 20 (.slc 7 (.s 18) (some (.s 19)) none),I 21 (C QP [(.s 20)]),I 22 (.bslice false 7 [ZT,ZT] [(0,(.s 17)),(1,(.s 21))]),M 2 22])
def ZRN:PF:=⟨false,
 (D ZcX
 (D (D ZcY
 (E 6
 (D ZcZ
 .ret)
 .skip))
 (D Zca
 (D Zcb
 .ret)))),
 [.s 2]⟩
theorem Zhf:Zr Proofs.Tryz.prog false Zhe Proofs.Tryz.f246=some ZRN:=by kernel_rfl
def ZQX:List Hint:=[H [0,1,2],⟨[2,5,6],[],[(5,.pure)],[],[],[]⟩,H [2,5,6,18],H [5,6],H [3,4]]
def ZKy:PC :=
 (R [0,1,2] [I 3 (.mv (.v (.int .u64 0))),K 4 0])
def ZKz:PC :=
 (R [2,5,6] [L 8 0,I 9 (.nilck (.s 8)),F 10 0 9,L 11 10,L 12 1,I 13 (.call .pure (.s 12) []),I 14 (C Jg [(.s 11),(.s 13)]),M 7 14,X 15 7 0,X 16 7 1,M 5 15,M 6 16])
def ZK0:PC :=
 (R [2,5,6,18] [M 17 6,W 18 .eql 17 0])
def ZK1:PC :=
 (R [5,6] [L 19 2,M 20 5,I 21 (.nilck (.s 19)),F 22 0 21,N 1 22 20])
def ZK2:PC :=
 (R [3,4] [M 23 5,M 24 6,M 3 23,M 4 24])
def ZEH:PF:=⟨false,
 (D ZKy
 (D ZKz
 (D (D ZK0
 (E 18
 ZK1
 .skip))
 (D ZK2
 .ret)))),
 [.s 3,.s 4]⟩
theorem ZQY:Zr Proofs.Tryz.prog false ZQX Proofs.Tryz.f247=some ZEH:=by kernel_rfl
def ZJU:List Hint:=[H [0,3],H [0,3,16],H [4,5],H [0,3,6],H [0,3,6,20],H [4,5],H [0,3,23,24,25],H [0,3,23,24,25,26],H [0,3,8,23,24,25],H [0,3,8,9,10,23,24,25],H [0,3,8,9,23,24,25,40],H [4,5],H [0,3,8,9,11,12,23,24,25],H [0,3,23,24,25,61],H [4,5],H [0,3,23,24,25],H [0,3,13,14],H [0,3,13,14,72],H [4,5],H [0,3,13],H [0,13],H [13],H [4,5]]
def ZGn:PC :=
 (R [0,3] [I 3 (.box (.s 1)),I 4 (.mv (.v (.int .u64 0))),K 5 0])
def ZGo:PC :=
 (R [0,3,16] [M 15 0,I 16 (.eqs false 3 [] (.s 15) (.v .nilptr))])
def ZGp:PC :=
 (R [4,5] [I 4 (.mv (.v (.int .u64 0))),K 5 1])
def ZGq:PC :=
 (R [0,3,6] [T 17 3 3,I 18 (C X5 [(.s 17)]),M 6 18])
def ZGr:PC :=
 (R [0,3,6,20] [M 19 6,W 20 .neq 19 0])
def ZGs:PC :=
 (R [4,5] [M 21 6,I 4 (.mv (.v (.int .u64 0))),M 5 21])
def ZGt:PC :=
 (R [0,3,23,24,25] [F 22 2 3,L 23 22,I 24 (.len 1 (.s 23)),K 25 0])
def ZGu:PC :=
 (R [0,3,23,24,25,26] [B 26 .lss 25 24])
def ZGv:PC :=
 (R [0,3,8,23,24,25] [I 27 (.ixS 4 (.s 23) (.s 25)),T 28 4 27,I 8 (.box (.v ZK)),N 4 8 28])
def ZGw:PC :=
 (R [0,3,8,9,10,23,24,25] [M 30 0,I 31 (.nilck (.s 30)),F 32 2 31,L 33 32,F 34 0 8,L 35 34,I 36 (.look 0 ZN true (.s 33) (.s 35)),M 29 36,X 37 29 0,X 38 29 1,I 9 (.box (.v ZN)),N 3 9 37,M 10 38])
def ZFB:PC :=
 (R [0,3,8,9,23,24,25,40] [M 39 10,I 40 (.un .not (.s 39))])
def ZFC:PC :=
 (R [4,5] [I 4 (.mv (.v (.int .u64 0))),K 5 10])
def ZFD:PC :=
 (R [0,3,8,9,11,12,23,24,25] [T 42 3 9,I 43 (C YJ [(.s 42)]),M 41 43,X 44 41 0,X 45 41 1,I 11 (.box (.v ZM)),N 3 11 44,M 12 45])
def ZFE:PC :=
 (R [0,3,23,24,25,61] [M 46 12,W 47 .neq 46 0,M 48 47,G 49 48 false (.fadr 0 (.s 9)),G 50 48 false (.ld false 1 (.s 49)),G 51 48 false (.fadr 0 (.s 3)),G 52 48 false (.ld false 1 (.s 51)),G 53 48 false (.bin .sub (.s 52) (V 1)),G 54 48 false (.bin .neq (.s 50) (.s 53)),I 55 (.pick (.s 48) (.v (.bool true)) (.s 54)),M 56 55,G 57 56 false (.ld true 3 (.s 11)),G 58 56 false (.fadr 1 (.s 8)),G 59 56 false (.ld true 3 (.s 58)),G 60 56 false (.eqs true 0 [(0,0),(1,0),(2,0)] (.s 57) (.s 59)),I 61 (.pick (.s 56) (.v (.bool true)) (.s 60))])
def ZFF:PC :=
 (R [4,5] [I 4 (.mv (.v (.int .u64 0))),K 5 23])
def ZFG:PC :=
 (R [0,3,23,24,25] [W 62 .add 25 1,M 25 62])
def ZFH:PC :=
 (D ZGu
 (D (E 26
 .skip
 (.exit 0))
 (D (.block 1
 (D ZGv
 (D ZGw
 (D (D ZFB
 (E 40
 (D ZFC
 .ret)
 .skip))
 (D ZFD
 (D ZFE
 (E 61
 (D ZFF
 .ret)
 .skip)))))))
 ZFG)))
def ZFI:PC :=
 (R [0,3,13,14] [M 64 0,I 65 (.nilck (.s 64)),F 66 1 65,L 67 66,I 68 (C Yx [(.s 67)]),M 63 68,X 69 63 0,X 70 63 1,M 13 69,M 14 70])
def ZFJ:PC :=
 (R [0,3,13,14,72] [M 71 14,W 72 .neq 71 0])
def ZFK:PC :=
 (R [4,5] [M 73 14,I 4 (.mv (.v (.int .u64 0))),M 5 73])
def X9:PC :=
 (R [0,3,13] [F 74 2 3,L 75 74,I 76 (C Z6 [(.s 75)]),F 77 2 3,N 1 77 76])
def ZAA:PC :=
 (R [0,13] [M 78 0,I 79 (.nilck (.s 78)),F 80 2 79,L 81 80,M 82 13,T 83 3 3,J (.mupd 0 (.s 81) (.s 82) (.s 83))])
def ZAB:PC :=
 (R [13] [M 84 0,I 85 (.nilck (.s 84)),F 86 3 85,L 87 86,W 88 .add 87 1,I 89 (.nilck (.s 84)),F 90 3 89,N 1 90 88])
def ZAC:PC :=
 (R [4,5] [M 91 13,M 4 91,K 5 0])
def ZBe:PF:=⟨false,
 (D ZGn
 (D (D ZGo
 (E 16
 (D ZGp
 .ret)
 .skip))
 (D (D ZGq
 (D ZGr
 (E 20
 (D ZGs
 .ret)
 .skip)))
 (D (D ZGt
 (.block 0
 (.loop ZFH)))
 (D ZFI
 (D (D ZFJ
 (E 72
 (D ZFK
 .ret)
 .skip))
 (D X9
 (D ZAA
 (D ZAB
 (D ZAC
 .ret)))))))))),
 [.s 4,.s 5]⟩
theorem ZJV:Zr Proofs.Tryz.prog false ZJU Proofs.Tryz.f248=some ZBe:=by kernel_rfl
def Zcc:List Hint:=[H [0],H [0,2,3],H [2,3,4,5],H [2,3,4,5,6],H [2,3,4,5],H [2,3,4,5],H [2,3,4,5],H [2,3]]
def ZUY:PC :=
 (R [0] [K 2 0,K 3 0])
def ZUZ:PC :=
 (R [0,2,3] [K 2 8,K 3 16])
def ZUa:PC :=
 (R [2,3,4,5] [M 4 0,K 5 0])
def ZUb:PC :=
 (R [2,3,4,5,6] [B 6 .lss 5 4])
def ZUc:PC :=
 (R [2,3,4,5] [M 7 2,W 8 .mul 7 2,M 2 8])
def ZUd:PC :=
 (R [2,3,4,5] [M 9 3,W 10 .mul 9 4,I 11 (.mnx false (.s 10) (V 65536)),M 3 11])
def ZUe:PC :=
 (R [2,3,4,5] [W 12 .add 5 1,M 5 12])
def ZUf:PC :=
 (D ZUb
 (D (E 6
 .skip
 (.exit 0))
 (D (.block 1
 (D ZUc
 ZUd))
 ZUe)))
def ZUg:PC :=
 (R [2,3] [M 13 2,M 14 3,I 15 (.mnx false (.s 14) (V 65536)),M 2 13,M 3 15])
def ZJr:PF:=⟨false,
 (D ZUY
 (D ZUZ
 (D (D ZUa
 (.block 0
 (.loop ZUf)))
 (D ZUg
 .ret)))),
 [.s 2,.s 3]⟩
theorem Zcd:Zr Proofs.Tryz.prog false Zcc Proofs.Tryz.f254=some ZJr:=by kernel_rfl
def ZZC:List Hint:=[H [0],H [3,4],H [19],H [2],H [2]]
def ZQZ:PC :=
 (R [0] [K 2 0])
def ZQa:PC :=
 (R [3,4] [M 6 0,I 7 (C ZCa [(.s 6)]),M 5 7,X 8 5 0,X 9 5 1,M 3 8,M 4 9])
def ZQb:PC :=
 (R [19] [M 10 3,W 11 .geq 10 16384,M 12 11,U 13 12 false 4,G 14 12 false (.bin .lss (.s 13) (.v (.int .u64 1))),I 15 (.pick (.s 12) (.v (.bool true)) (.s 14)),M 16 15,U 17 16 false 4,G 18 16 false (.bin .gtr (.s 17) (.v (.int .u64 4294967295))),I 19 (.pick (.s 16) (.v (.bool true)) (.s 18))])
def ZQc:PC :=
 (R [2] [K 2 2])
def ZQd:PC :=
 (R [2] [K 2 0])
def ZIG:PF:=⟨false,
 (D ZQZ
 (D (D ZQa
 (D ZQb
 (E 19
 (D ZQc
 .ret)
 .skip)))
 (D ZQd
 .ret))),
 [.s 2]⟩
theorem ZZD:Zr Proofs.Tryz.prog false ZZC Proofs.Tryz.f255=some ZIG:=by kernel_rfl
def ZUh:List Hint:=[H [],H [2]]
def ZNd:PC :=
 (R [] [I 2 (.mv (.v (.bool false)))])
def ZNe:PC :=
 (R [2] [I 2 (.mv (.v (.bool true)))])
def ZFw:PF:=⟨false,
 (D ZNd
 (D ZNe
 .ret)),
 [.s 2]⟩
theorem ZUi:Zr Proofs.Tryz.prog false ZUh Proofs.Tryz.f256=some ZFw:=by kernel_rfl
def ZK3:List Hint:=[H [1,2],H [1,2,5],H [2],H [2]]
def ZIH:PC :=
 (R [1,2] [I 1 (.box (.s 0)),I 2 (.box (.v ZM))])
def ZII:PC :=
 (R [1,2,5] [T 3 3 1,I 4 (.build [(.int .i64 0),(.int .i64 0),(.int .i64 0)] []),I 5 (.eqs false 0 [(0,0),(1,0),(2,0)] (.s 3) (.s 4))])
def ZIJ:PC :=
 (R [2] [I 6 (.build [(.int .i64 0),(.int .i64 0),(.int .i64 0)] []),N 3 2 6])
def ZIK:PC :=
 (R [2] [I 7 (.ixA 3 1 (.s 1) (V 0)),L 8 7,I 9 (.ixA 3 1 (.s 1) (V 1)),L 10 9,I 11 (.ixA 3 1 (.s 1) (V 2)),L 12 11,I 13 (.build [(.int .i64 0),(.int .i64 0),(.int .i64 0)] [(0,1,(.s 8)),(1,1,(.s 10)),(2,1,(.s 12))]),N 3 2 13])
def ZCs:PF:=⟨false,
 (D ZIH
 (D (D ZII
 (E 5
 (D ZIJ
 .ret)
 .skip))
 (D ZIK
 .ret))),
 [.c 2 true 3]⟩
theorem ZK4:Zr Proofs.Tryz.prog false ZK3 Proofs.Tryz.f257=some ZCs:=by kernel_rfl
def Zfp:List Hint:=[H [0,1],H [0,1,15],H [4,5],H [0,1,6],H [0,1,6,21],H [4,5],H [0,1,6,31],H [4,5],H [6,7],H [4,5]]
def ZZE:PC :=
 (R [0,1] [I 4 (.mv (.v .nils)),K 5 0])
def ZZF:PC :=
 (R [0,1,15] [M 8 0,I 9 (C X8 [(.s 8)]),I 10 (.un .not (.s 9)),M 11 10,U 12 11 false 1,G 13 11 false (C X8 [(.s 12)]),G 14 11 false (.un .not (.s 13)),I 15 (.pick (.s 11) (.v (.bool true)) (.s 14))])
def ZZG:PC :=
 (R [4,5] [I 4 (.mv (.v .nils)),K 5 2])
def ZZH:PC :=
 (R [0,1,6] [M 16 0,M 17 1,B 18 .add 16 17,M 6 18])
def ZZI:PC :=
 (R [0,1,6,21] [M 19 6,I 20 (.len 0 (.s 19)),W 21 .leq 20 16])
def ZZJ:PC :=
 (R [4,5] [M 22 6,I 23 (.bslice false 1 [(.str [])] [(0,(.s 22))]),M 4 23,K 5 0])
def ZZK:PC :=
 (R [0,1,6,31] [M 24 0,I 25 (.len 0 (.s 24)),W 26 .geq 25 8,M 27 26,U 28 27 true 1,G 29 27 true (.len 0 (.s 28)),G 30 27 true (.bin .geq (.s 29) (V 8)),I 31 (.pick (.s 27) (.s 30) (.v (.bool false)))])
def ZZL:PC :=
 (R [4,5] [M 32 0,M 33 1,I 34 (.bslice false 1 [(.str []),(.str [])] [(0,(.s 32)),(1,(.s 33))]),M 4 34,K 5 0])
def ZZM:PC :=
 (R [6,7] [M 35 6,I 36 (.len 0 (.s 35)),W 37 .add 36 1,W 38 .quo 37 2,M 7 38])
def ZZN:PC :=
 (R [4,5] [M 39 6,M 40 7,I 41 (.slcS (.s 39) none (some (.s 40))),M 42 6,M 43 7,I 44 (.slcS (.s 42) (some (.s 43)) none),I 45 (.bslice false 1 [(.str []),(.str [])] [(0,(.s 41)),(1,(.s 44))]),M 4 45,K 5 0])
def ZNf:PF:=⟨false,
 (D ZZE
 (D (D ZZF
 (E 15
 (D ZZG
 .ret)
 .skip))
 (D ZZH
 (D (D ZZI
 (E 21
 (D ZZJ
 .ret)
 .skip))
 (D (D ZZK
 (E 31
 (D ZZL
 .ret)
 .skip))
 (D ZZM
 (D ZZN
 .ret))))))),
 [.s 4,.s 5]⟩
theorem Zfq:Zr Proofs.Tryz.prog false Zfp Proofs.Tryz.f260=some ZNf:=by kernel_rfl
def ZIL:List Hint:=[H [0],H [0,6],H [2,3],H [0,12],H [2,3],H [0,4],H [0,4],H [0,4],H [2,3]]
def ZFL:PC :=
 (R [0] [I 2 (.mv (.v (.int .u64 0))),K 3 0])
def ZFM:PC :=
 (R [0,6] [M 5 0,I 6 (.eqs false 3 [] (.s 5) (.v .nilptr))])
def ZFN:PC :=
 (R [2,3] [I 2 (.mv (.v (.int .u64 0))),K 3 1])
def ZFO:PC :=
 (R [0,12] [M 7 0,I 8 (.nilck (.s 7)),F 9 0 8,L 10 9,I 11 (.len 1 (.s 10)),W 12 .eql 11 0])
def ZFP:PC :=
 (R [2,3] [I 2 (.mv (.v (.int .u64 0))),K 3 6])
def ZFQ:PC :=
 (R [0,4] [M 13 0,I 14 (.nilck (.s 13)),F 15 0 14,L 16 15,M 17 0,I 18 (.nilck (.s 17)),F 19 0 18,L 20 19,I 21 (.len 1 (.s 20)),W 22 .sub 21 1,I 23 (.ixS 1 (.s 16) (.s 22)),L 24 23,M 4 24])
def ZFR:PC :=
 (R [0,4] [M 25 0,M 26 0,I 27 (.nilck (.s 26)),F 28 0 27,L 29 28,M 30 0,I 31 (.nilck (.s 30)),F 32 0 31,L 33 32,I 34 (.len 1 (.s 33)),W 35 .sub 34 1,I 36 (.slc 1 (.s 29) none (some (.s 35))),I 37 (.nilck (.s 25)),F 38 0 37,N 1 38 36])
def ZFS:PC :=
 (R [0,4] [M 39 0,I 40 (.nilck (.s 39)),F 41 1 40,L 42 41,M 43 4,I 44 (.ixS 1 (.s 42) (.s 43)),J (.st 1 (.s 44) (.v (.int .u8 1)))])
def ZFT:PC :=
 (R [2,3] [M 45 4,M 46 0,I 47 (.nilck (.s 46)),F 48 2 47,L 49 48,M 50 4,I 51 (.ixS 1 (.s 49) (.s 50)),L 52 51,I 53 (C ZDX [(.s 45),(.s 52)]),X 54 53 0,X 55 53 1,M 2 54,M 3 55])
def ZAz:PF:=⟨false,
 (D ZFL
 (D (D ZFM
 (E 6
 (D ZFN
 .ret)
 .skip))
 (D (D ZFO
 (E 12
 (D ZFP
 .ret)
 .skip))
 (D ZFQ
 (D ZFR
 (D ZFS
 (D ZFT
 .ret))))))),
 [.s 2,.s 3]⟩
theorem ZIM:Zr Proofs.Tryz.prog false ZIL Proofs.Tryz.f261=some ZAz:=by kernel_rfl
def ZZO:List Hint:=[H [0],H [2,3]]
def ZQe:PC :=
 (R [0] [K 2 0,I 3 (.mv (.v (.int .u64 0)))])
def ZQf:PC :=
 (R [2,3] [M 4 0,I 5 (.bin .and (.s 4) (.v (.int .u64 65535))),I 6 (.cint .i64 (.s 5)),M 7 0,I 8 (.bin .shr (.s 7) (.v (.int .u64 16))),M 2 6,M 3 8])
def ZIN:PF:=⟨false,
 (D ZQe
 (D ZQf
 .ret)),
 [.s 2,.s 3]⟩
theorem ZZP:Zr Proofs.Tryz.prog false ZZO Proofs.Tryz.f263=some ZIN:=by kernel_rfl
end Go.Q15
