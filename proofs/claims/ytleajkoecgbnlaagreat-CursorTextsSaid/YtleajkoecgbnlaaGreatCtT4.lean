/- Resolved code, printed by program. No condition. -/
import Derived.Test.YtleajkoecgbnlaaGreatProg
import Derived.KernelRfl
import Derived.Test.YtleajkoecgbnlaaGreatCtT3
set_option linter.unusedVariables false
set_option linter.unusedSimpArgs false
namespace Go.Q15
open Go Go.QAbs
set_option maxRecDepth 100000
abbrev JS:FuncId:=10
abbrev Y3:FuncId:=14
abbrev YZ:FuncId:=16
abbrev Ya:FuncId:=17
abbrev ZXW:FuncId:=21
abbrev XZ:FuncId:=35
abbrev Jn:FuncId:=42
abbrev ZAL:FuncId:=43
abbrev JA:FuncId:=44
abbrev Qe:FuncId:=45
abbrev QG:FuncId:=47
abbrev QM:FuncId:=48
abbrev QH:FuncId:=53
abbrev ZAM:FuncId:=54
abbrev Xf:FuncId:=55
abbrev QL:FuncId:=56
abbrev ZEE:FuncId:=57
abbrev ZDB:FuncId:=58
abbrev Xx:FuncId:=68
abbrev Xy:FuncId:=69
abbrev Yb:FuncId:=71
abbrev Xa:FuncId:=72
abbrev ZJo:FuncId:=73
abbrev ZAN:FuncId:=74
abbrev JY:FuncId:=75
abbrev ZBK:FuncId:=82
abbrev Y5:FuncId:=94
abbrev J6:FuncId:=95
abbrev Xb:FuncId:=105
abbrev ZDC:FuncId:=106
abbrev QX:FuncId:=107
abbrev Qv:FuncId:=108
abbrev QZ:FuncId:=109
abbrev Yc:FuncId:=110
abbrev Qc:FuncId:=111
abbrev Qo:FuncId:=112
abbrev ZCX:FuncId:=116
abbrev Yd:FuncId:=120
abbrev ZA8:FuncId:=121
abbrev ZXX:FuncId:=122
abbrev Y6:FuncId:=123
abbrev QT:FuncId:=124
abbrev Ye:FuncId:=125
abbrev ZDD:FuncId:=126
abbrev ZAO:FuncId:=127
abbrev ZDE:FuncId:=134
abbrev Yf:FuncId:=135
abbrev Yp:FuncId:=136
abbrev ZAB:FuncId:=137
abbrev J8:FuncId:=138
abbrev Qu:FuncId:=139
abbrev XJ:FuncId:=140
abbrev Xn:FuncId:=141
abbrev ZBb:FuncId:=142
abbrev ZJq:FuncId:=144
abbrev ZEF:FuncId:=149
abbrev Q0:FuncId:=157
abbrev ZAw:FuncId:=158
abbrev ZDF:FuncId:=159
abbrev Ys:FuncId:=164
abbrev Ym:FuncId:=176
abbrev Jo:FuncId:=177
abbrev QK:FuncId:=178
abbrev QC:FuncId:=179
abbrev Y7:FuncId:=180
abbrev ZJs:FuncId:=181
abbrev ZCY:FuncId:=182
abbrev Xo:FuncId:=185
abbrev YQ:FuncId:=186
abbrev ZEW:FuncId:=188
abbrev ZEs:FuncId:=192
abbrev ZEt:FuncId:=193
abbrev ZAP:FuncId:=194
abbrev Yu:FuncId:=195
abbrev ZDG:FuncId:=196
abbrev ZDH:FuncId:=197
abbrev ZGA:FuncId:=198
abbrev QY:FuncId:=199
abbrev ZEX:FuncId:=201
abbrev Yq:FuncId:=203
abbrev ZCZ:FuncId:=204
abbrev ZAx:FuncId:=205
abbrev Qy:FuncId:=206
abbrev ZA9:FuncId:=207
abbrev XK:FuncId:=208
abbrev ZJt:FuncId:=213
abbrev ZEG:FuncId:=218
abbrev ZDI:FuncId:=219
abbrev ZBc:FuncId:=220
abbrev ZAQ:FuncId:=221
abbrev ZDJ:FuncId:=222
abbrev ZBA:FuncId:=223
abbrev ZAR:FuncId:=225
abbrev ZAS:FuncId:=226
abbrev Jw:FuncId:=227
abbrev JZ:FuncId:=228
abbrev ZAT:FuncId:=229
abbrev ZBB:FuncId:=240
abbrev ZGB:FuncId:=241
abbrev ZEY:FuncId:=242
abbrev J9:FuncId:=243
abbrev ZEZ:FuncId:=245
abbrev ZEI:FuncId:=246
abbrev XL:FuncId:=247
abbrev Jp:FuncId:=248
abbrev ZEa:FuncId:=254
abbrev ZDK:FuncId:=255
abbrev Xp:FuncId:=256
abbrev Yg:FuncId:=257
abbrev ZGC:FuncId:=260
abbrev Y8:FuncId:=261
abbrev ZDL:FuncId:=263
abbrev I (d:Nat) (o:PO):PI:=⟨some d,none,false,o⟩
abbrev G (d g:Nat) (b:Bool) (o:PO):PI:=⟨some d,some (g,b),false,o⟩
abbrev J (o:PO):PI:=⟨none,none,false,o⟩
abbrev C (f:FuncId) (a:List Opd):PO:=.call .norm (.v (.func (.func f) [] [])) a
abbrev H (k:List Nat):Hint:=⟨k,[],[],[],[],[]⟩
abbrev V (i:Int):Opd:=.v (.int .i64 i)
abbrev M (d s:Nat):PI:=I d (.mv (.s s))
abbrev X (d s i:Nat):PI:=I d (.ext (.s s) i)
abbrev L (d s:Nat):PI:=I d (.ld false 1 (.s s))
abbrev T (d n s:Nat):PI:=I d (.ld true n (.s s))
abbrev F (d n s:Nat):PI:=I d (.fadr n (.s s))
abbrev U (d g:Nat) (b:Bool) (s:Nat):PI:=G d g b (.mv (.s s))
abbrev W (d:Nat) (o:BinOp) (s:Nat) (i:Int):PI:=I d (.bin o (.s s) (V i))
abbrev B (d:Nat) (o:BinOp) (s t:Nat):PI:=I d (.bin o (.s s) (.s t))
abbrev K (d:Nat) (i:Int):PI:=I d (.mv (V i))
abbrev N (n a x:Nat):PI:=J (.st n (.s a) (.s x))
abbrev E (c:Nat) (a b:PC):PC:=.ite (.s c) a b
abbrev D (a b:PC):PC:=.seq a b
abbrev R (k:List Nat) (l:List PI):PC:=.reg k l
abbrev ZT:AV:=.agg [(.int .u64 0),(.int .i64 0),(.int .i64 0),(.int .i64 0),(.int .i64 0),(.str []),.nils]
abbrev ZR:AV:=.agg [(.int .u64 0),(.int .i64 0),(.int .i64 0),(.int .i64 0),(.int .i64 0)]
abbrev ZM:AV:=.agg [(.int .i64 0),(.int .i64 0),(.int .i64 0)]
abbrev ZN:AV:=.agg [(.int .i64 0),(.str []),.nils]
abbrev ZK:AV:=.agg [(.int .u64 0),(.int .i64 0),(.int .i64 0),(.int .i64 0)]
def ZDn:List Hint:=[H [0,1,2,3],H [0,1,2,3,38],H [8],H [2,3,9,10,11,12],H [2,3,9,10,11,49],H [8],H [2,3,9,10,11,52],H [8],H [3,9,10,11,13],H [3,9,10,13,14],H [3,14,15,16],H [3,14,15,77],H [8],⟨[3,14,15,17],[0],[],[],[],[]⟩,H [3,14,15,17,18],H [3,14,15,17,18,81],H [3,14,15,17,18,19,20],H [3,14,15,17,18,19,20,21,22],H [3,14,15,17,19,21,112],H [8],H [3,14,15,17,21],H [3,14,15,17,18],H [3,14,15,17,18,24],H [3,14,15,17,18,131],H [8],H [3,14,15,17,18,25],H [3,14,15,17,18,25,26],H [3,14,15,17,18,25,26,141],H [3,14,15,17,18,25,26,27,28],H [3,14,15,17,18,25,26,27,167],H [8],H [3,14,15,17,18,25,26,27],H [3,14,15,17,18,25,26,27,28,29],H [3,14,15,17,18,25,26,183],H [8],H [3,14,15,17,18,25,26,31],H [3,14,15,17,18,25,26,196],H [8],H [3,14,15,17,18,25,26],H [3,14,15,201],H [8],H [3,14,15,204],H [8],H [3,14,15,18],H [14,15,18,32],H [14,15,18,32,211],H [14,15,18,32,33,34],H [14,15,18,32,33,34,35],H [14,15,18,32,35,243],H [8],H [14,15,18,32],H [8]]
def ZCa:PC :=
 (R [0,1,2,3] [I 8 (.mv (.v (.bool false)))])
def ZCb:PC :=
 (R [0,1,2,3,38] [M 36 0,M 37 1,I 38 (C Y3 [(.s 36),(.s 37)])])
def ZCc:PC :=
 (R [8] [I 39 (C Jn []),M 8 39])
def ZCd:PC :=
 (R [2,3,9,10,11,12] [M 41 0,M 42 1,I 43 (C YZ [(.s 41),(.s 42)]),M 40 43,X 44 40 0,X 45 40 1,X 46 40 2,X 47 40 3,M 9 44,M 10 45,M 11 46,M 12 47])
def ZCe:PC :=
 (R [2,3,9,10,11,49] [M 48 12,I 49 (.un .not (.s 48))])
def ZCf:PC :=
 (R [8] [I 8 (.mv (.v (.bool false)))])
def ZCg:PC :=
 (R [2,3,9,10,11,52] [M 50 10,I 51 (.len 1 (.s 50)),W 52 .eql 51 0])
def ZCh:PC :=
 (R [8] [I 53 (C Jn []),M 8 53])
def ZCi:PC :=
 (R [3,9,10,11,13] [M 54 2,M 55 10,I 56 (.len 1 (.s 55)),W 57 .sub 56 1,I 58 (C Ya [(.s 54),(.s 57)]),M 13 58])
def ZCj:PC :=
 (R [3,9,10,13,14] [M 59 11,M 60 13,I 61 (.ixS 1 (.s 59) (.s 60)),L 62 61,M 14 62])
def ZBd:PC :=
 (R [3,14,15,16] [M 64 9,M 65 10,M 66 13,I 67 (.ixS 5 (.s 65) (.s 66)),T 68 5 67,I 69 (C ZAL [(.s 64),(.s 68)]),M 63 69,X 70 63 0,X 71 63 1,M 15 70,M 16 71])
def ZBe:PC :=
 (R [3,14,15,77] [M 72 15,I 73 (.eqs false 3 [] (.s 72) (.v .nilptr)),M 74 73,U 75 74 false 16,G 76 74 false (.bin .neq (.s 75) (V 0)),I 77 (.pick (.s 74) (.v (.bool true)) (.s 76))])
def ZBf:PC :=
 (R [8] [I 8 (.mv (.v (.bool false)))])
def ZBg:PC :=
 (R [3,14,15,17] [I 17 (.onil 1)])
def ZBh:PC :=
 (R [3,14,15,17,18] [K 18 0])
def ZBi:PC :=
 (R [3,14,15,17,18,81] [M 78 18,M 79 14,I 80 (.len 0 (.s 79)),B 81 .lss 78 80])
def ZBj:PC :=
 (R [3,14,15,17,18,19,20] [M 83 15,I 84 (C QH [(.s 83)]),M 82 84,X 85 82 0,X 86 82 1,M 19 85,M 20 86])
def ZBk:PC :=
 (R [3,14,15,17,18,19,20,21,22] [M 88 14,M 89 18,I 90 (C ZAM [(.s 88),(.s 89)]),M 87 90,X 91 87 0,X 92 87 1,M 21 91,M 22 92])
def ZBl:PC :=
 (R [3,14,15,17,19,21,112] [M 93 20,W 94 .neq 93 0,M 95 94,U 96 95 false 22,G 97 95 false (.un .not (.s 96)),I 98 (.pick (.s 95) (.v (.bool true)) (.s 97)),M 99 98,U 100 99 false 19,U 101 99 false 14,U 102 99 false 18,U 103 99 false 21,G 104 99 false (.slcS (.s 101) (some (.s 102)) (some (.s 103))),G 105 99 false (.bin .neq (.s 100) (.s 104)),I 106 (.pick (.s 99) (.v (.bool true)) (.s 105)),M 107 106,U 108 107 false 15,G 109 107 false (C QM [(.s 108)]),U 110 107 false 21,G 111 107 false (.bin .neq (.s 109) (.s 110)),I 112 (.pick (.s 107) (.v (.bool true)) (.s 111))])
def ZBm:PC :=
 (R [8] [I 8 (.mv (.v (.bool false)))])
def ZBn:PC :=
 (R [3,14,15,17,21] [M 113 17,M 114 19,I 115 (.bslice false 1 [(.str [])] [(0,(.s 114))]),I 116 (.app 1 16 (.s 113) (.s 115)),M 17 116])
def ZBo:PC :=
 (R [3,14,15,17,18] [M 117 21,M 18 117])
def p_quartolaw21_CursorTexts_22:PC :=
 (D (D ZBi
 (E 81
 .skip
 (.exit 0)))
 (.block 1
 (D ZBj
 (D ZBk
 (D (D ZBl
 (E 112
 (D ZBm
 .ret)
 .skip))
 (D ZBn
 ZBo))))))
def ZBp:PC :=
 (R [3,14,15,17,18,24] [M 119 15,I 120 (C QH [(.s 119)]),M 118 120,X 121 118 0,X 122 118 1,M 23 121,M 24 122])
def ZBq:PC :=
 (R [3,14,15,17,18,131] [M 123 24,W 124 .neq 123 3,M 125 124,U 126 125 false 15,G 127 125 false (C QM [(.s 126)]),U 128 125 false 14,G 129 125 false (.len 0 (.s 128)),G 130 125 false (.bin .neq (.s 127) (.s 129)),I 131 (.pick (.s 125) (.v (.bool true)) (.s 130))])
def ZBr:PC :=
 (R [8] [I 8 (.mv (.v (.bool false)))])
def ZBs:PC :=
 (R [3,14,15,17,18,25] [M 132 14,I 133 (C Xf [(.s 132)]),M 25 133])
def ZBt:PC :=
 (R [3,14,15,17,18,25,26] [M 134 17,I 135 (.len 1 (.s 134)),W 136 .sub 135 1,M 26 136])
def ZBu:PC :=
 (R [3,14,15,17,18,25,26,141] [M 137 26,W 138 .geq 137 0,M 139 138,U 140 139 true 25,I 141 (.pick (.s 139) (.s 140) (.v (.bool false)))])
def ZBv:PC :=
 (R [3,14,15,17,18,25,26,27,28] [M 145 15,I 146 (C QL [(.s 145)]),M 144 146,X 147 144 0,X 148 144 1,M 27 147,M 28 148])
def ZBw:PC :=
 (R [3,14,15,17,18,25,26,27,167] [M 149 28,W 150 .neq 149 0,M 151 150,U 152 151 false 27,U 153 151 false 17,U 154 151 false 26,G 155 151 false (.ixS 1 (.s 153) (.s 154)),G 156 151 false (.ld false 1 (.s 155)),G 157 151 false (.bin .neq (.s 152) (.s 156)),I 158 (.pick (.s 151) (.v (.bool true)) (.s 157)),M 159 158,U 160 159 false 15,G 161 159 false (C QM [(.s 160)]),U 162 159 false 18,U 163 159 false 27,G 164 159 false (.len 0 (.s 163)),G 165 159 false (.bin .sub (.s 162) (.s 164)),G 166 159 false (.bin .neq (.s 161) (.s 165)),I 167 (.pick (.s 159) (.v (.bool true)) (.s 166))])
def ZBx:PC :=
 (R [8] [I 8 (.mv (.v (.bool false)))])
def ZBy:PC :=
 (R [3,14,15,17,18,25,26,27] [M 168 18,M 169 27,I 170 (.len 0 (.s 169)),B 171 .sub 168 170,M 18 171])
def ZBz:PC :=
 (R [3,14,15,17,18,25,26,27,28,29] [M 173 15,I 174 (C QH [(.s 173)]),M 172 174,X 175 172 0,X 176 172 1,M 29 175,M 28 176])
def ZB0:PC :=
 (R [3,14,15,17,18,25,26,183] [M 177 28,W 178 .neq 177 0,M 179 178,U 180 179 false 29,U 181 179 false 27,G 182 179 false (.bin .neq (.s 180) (.s 181)),I 183 (.pick (.s 179) (.v (.bool true)) (.s 182))])
def ZB1:PC :=
 (R [8] [I 8 (.mv (.v (.bool false)))])
def ZB2:PC :=
 (R [3,14,15,17,18,25,26,31] [M 185 15,I 186 (C QL [(.s 185)]),M 184 186,X 187 184 0,X 188 184 1,M 30 187,M 31 188])
def ZB3:PC :=
 (R [3,14,15,17,18,25,26,196] [M 189 31,W 190 .neq 189 0,M 191 190,U 192 191 false 15,G 193 191 false (C QM [(.s 192)]),U 194 191 false 18,G 195 191 false (.bin .neq (.s 193) (.s 194)),I 196 (.pick (.s 191) (.v (.bool true)) (.s 195))])
def ZB4:PC :=
 (R [8] [I 8 (.mv (.v (.bool false)))])
def ZB5:PC :=
 (R [3,14,15,17,18,25,26] [M 142 26,W 143 .sub 142 1,M 26 143])
def p_quartolaw21_CursorTexts_40:PC :=
 (D (D ZBu
 (E 141
 .skip
 (.exit 2)))
 (D (.block 3
 (D ZBv
 (D (D ZBw
 (E 167
 (D ZBx
 .ret)
 .skip))
 (D ZBy
 (D ZBz
 (D (D ZB0
 (E 183
 (D ZB1
 .ret)
 .skip))
 (D ZB2
 (D ZB3
 (E 196
 (D ZB4
 .ret)
 .skip)))))))))
 ZB5))
def ZB6:PC :=
 (R [3,14,15,201] [M 197 25,M 198 197,U 199 198 true 18,G 200 198 true (.bin .neq (.s 199) (V 0)),I 201 (.pick (.s 198) (.s 200) (.v (.bool false)))])
def ZB7:PC :=
 (R [8] [I 8 (.mv (.v (.bool false)))])
def ZB8:PC :=
 (R [3,14,15,204] [M 202 15,I 203 (C QG [(.s 202),(V 0)]),W 204 .neq 203 0])
def ZB9:PC :=
 (R [8] [I 8 (.mv (.v (.bool false)))])
def ZCA:PC :=
 (R [3,14,15,18] [K 18 0])
def ZCB:PC :=
 (R [14,15,18,32] [M 205 3,I 206 (C Ya [(.s 205),(V 40)]),I 207 (.bin .add (V 1) (.s 206)),M 32 207])
def ZCC:PC :=
 (R [14,15,18,32,211] [M 208 18,M 209 14,I 210 (.len 0 (.s 209)),B 211 .lss 208 210])
def ZCD:PC :=
 (R [14,15,18,32,33,34] [M 213 15,M 214 32,I 215 (C Qe [(.s 213),(.s 214)]),M 212 215,X 216 212 0,X 217 212 1,M 33 216,M 34 217])
def ZCE:PC :=
 (R [14,15,18,32,33,34,35] [M 218 32,M 219 14,I 220 (.len 0 (.s 219)),M 221 18,B 222 .sub 220 221,I 223 (.mnx false (.s 218) (.s 222)),M 35 223])
def ZCF:PC :=
 (R [14,15,18,32,35,243] [M 224 34,W 225 .neq 224 0,M 226 225,U 227 226 false 33,U 228 226 false 14,U 229 226 false 18,U 230 226 false 18,U 231 226 false 35,G 232 226 false (.bin .add (.s 230) (.s 231)),G 233 226 false (.slcS (.s 228) (some (.s 229)) (some (.s 232))),G 234 226 false (.bin .neq (.s 227) (.s 233)),I 235 (.pick (.s 226) (.v (.bool true)) (.s 234)),M 236 235,U 237 236 false 15,G 238 236 false (C QM [(.s 237)]),U 239 236 false 18,U 240 236 false 35,G 241 236 false (.bin .add (.s 239) (.s 240)),G 242 236 false (.bin .neq (.s 238) (.s 241)),I 243 (.pick (.s 236) (.v (.bool true)) (.s 242))])
def ZCG:PC :=
 (R [8] [I 8 (.mv (.v (.bool false)))])
def ZCH:PC :=
 (R [14,15,18,32] [M 244 18,M 245 35,B 246 .add 244 245,M 18 246])
def p_quartolaw21_CursorTexts_53:PC :=
 (D (D ZCC
 (E 211
 .skip
 (.exit 4)))
 (.block 5
 (D ZCD
 (D ZCE
 (D (D ZCF
 (E 243
 (D ZCG
 .ret)
 .skip))
 ZCH)))))
def ZCI:PC :=
 (R [8] [I 247 (C Jn []),M 8 247])
def J7:PF:=⟨false,
 (D ZCa
 (D (D ZCb
 (E 38
 (D ZCc
 .ret)
 .skip))
 (D ZCd
 (D (D ZCe
 (E 49
 (D ZCf
 .ret)
 .skip))
 (D (D ZCg
 (E 52
 (D ZCh
 .ret)
 .skip))
 (D ZCi
 (D ZCj
 (D ZBd
 (D (D ZBe
 (E 77
 (D ZBf
 .ret)
 .skip))
 (D ZBg
 (D ZBh
 (D (.block 0
 (.loop p_quartolaw21_CursorTexts_22))
 (D (D ZBp
 (D ZBq
 (E 131
 (D ZBr
 .ret)
 .skip)))
 (D ZBs
 (D (D ZBt
 (.block 2
 (.loop p_quartolaw21_CursorTexts_40)))
 (D (D ZB6
 (E 201
 (D ZB7
 .ret)
 .skip))
 (D (D ZB8
 (E 204
 (D ZB9
 .ret)
 .skip))
 (D ZCA
 (D ZCB
 (D (.block 4
 (.loop p_quartolaw21_CursorTexts_53))
 (D ZCI
 .ret))))))))))))))))))))),
 [.s 8]⟩
theorem ZDo:Zr Proofs.Tryz.prog false ZDn Proofs.Tryz.f10=some J7:=by kernel_rfl
def ZJv:List Hint:=[H [0,1],H [4]]
def ZGD:PC :=
 (R [0,1] [I 4 (.mv (.v (.bool false)))])
def ZGE:PC :=
 (R [4] [M 5 0,I 6 (C Xx [(.s 5)]),M 7 6,U 8 7 false 1,G 9 7 false (C Xy [(.s 8)]),I 10 (.pick (.s 7) (.v (.bool true)) (.s 9)),M 11 10,U 12 11 false 1,G 13 11 false (.len 1 (.s 12)),G 14 11 false (.bin .gtr (.s 13) (V 12)),I 15 (.pick (.s 11) (.v (.bool true)) (.s 14)),M 4 15])
def ZBL:PF:=⟨false,
 (D ZGD
 (D ZGE
 .ret)),
 [.s 4]⟩
theorem ZJw:Zr Proofs.Tryz.prog false ZJv Proofs.Tryz.f14=some ZBL:=by kernel_rfl
def ZM7:List Hint:=[H [0,1],H [0,1,8,9,10],H [0,1,8,9,26],H [4,5,6,7],H [1,8,9,11],H [1,8,9,11,12],H [1,8,9,11,12,33],H [1,8,9,11,12,13,14],H [1,8,9,11,12,13,48],H [4,5,6,7],H [1,8,9,11,12,13,15,16],H [1,8,9,11,12,13,15,58],H [4,5,6,7],H [1,8,9,11,12,15,16,17],H [1,8,9,11,12,15,16,17,69],H [1,8,9,11,12,15,17,71],H [4,5,6,7],H [1,8,9,11,12,15],H [1,8,9,11,12],H [1,8,9,11,12],H [4,5,6,7]]
def ZJx:PC :=
 (R [0,1] [I 4 (.mv (.v .nilptr)),I 5 (.mv (.v .nils)),I 6 (.mv (.v .nils)),I 7 (.mv (.v (.bool false)))])
def ZJy:PC :=
 (R [0,1,8,9,10] [M 20 0,I 21 (C Yb [(.s 20)]),M 19 21,X 22 19 0,X 23 19 1,X 24 19 2,M 8 22,M 9 23,M 10 24])
def ZJz:PC :=
 (R [0,1,8,9,26] [M 25 10,I 26 (.un .not (.s 25))])
def ZJ0:PC :=
 (R [4,5,6,7] [I 4 (.mv (.v .nilptr)),I 5 (.mv (.v .nils)),I 6 (.mv (.v .nils)),I 7 (.mv (.v (.bool false)))])
def ZJ1:PC :=
 (R [1,8,9,11] [I 27 (.bslice false 1 [] []),M 28 0,I 29 (.app 1 16 (.s 27) (.s 28)),M 11 29])
def ZJ2:PC :=
 (R [1,8,9,11,12] [K 12 0])
def ZJ3:PC :=
 (R [1,8,9,11,12,33] [M 30 12,M 31 1,I 32 (.len 1 (.s 31)),B 33 .lss 30 32])
def ZJ4:PC :=
 (R [1,8,9,11,12,13,14] [M 37 8,M 38 9,M 39 1,M 40 12,M 41 12,W 42 .add 41 1,I 43 (.slc 5 (.s 39) (some (.s 40)) (some (.s 42))),I 44 (C Xa [(.s 37),(.s 38),(.s 43)]),M 36 44,X 45 36 0,X 46 36 1,M 13 45,M 14 46])
def ZJ5:PC :=
 (R [1,8,9,11,12,13,48] [M 47 14,I 48 (.un .not (.s 47))])
def ZJ6:PC :=
 (R [4,5,6,7] [I 4 (.mv (.v .nilptr)),I 5 (.mv (.v .nils)),I 6 (.mv (.v .nils)),I 7 (.mv (.v (.bool false)))])
def ZIQ:PC :=
 (R [1,8,9,11,12,13,15,16] [M 50 8,M 51 13,I 52 (.ixS 7 (.s 51) (V 0)),T 53 7 52,I 54 (C ZJo [(.s 50),(.s 53)]),M 49 54,X 55 49 0,X 56 49 1,M 15 55,M 16 56])
def ZIR:PC :=
 (R [1,8,9,11,12,13,15,58] [M 57 16,W 58 .neq 57 0])
def ZIS:PC :=
 (R [4,5,6,7] [I 4 (.mv (.v .nilptr)),I 5 (.mv (.v .nils)),I 6 (.mv (.v .nils)),I 7 (.mv (.v (.bool false)))])
def ZIT:PC :=
 (R [1,8,9,11,12,15,16,17] [M 60 8,M 61 13,I 62 (.ixS 7 (.s 61) (V 0)),T 63 7 62,I 64 (C ZAN [(.s 60),(.s 63)]),M 59 64,X 65 59 0,X 66 59 1,X 67 59 2,I 17 (.box (.v ZR)),N 5 17 65,M 18 66,M 16 67])
def ZIU:PC :=
 (R [1,8,9,11,12,15,16,17,69] [M 68 16,W 69 .eql 68 6])
def ZIV:PC :=
 (R [1,8,9,11,12,15,17,71] [M 70 16,W 71 .neq 70 0])
def ZIW:PC :=
 (R [4,5,6,7] [I 4 (.mv (.v .nilptr)),I 5 (.mv (.v .nils)),I 6 (.mv (.v .nils)),I 7 (.mv (.v (.bool false)))])
def ZIX:PC :=
 (R [1,8,9,11,12,15] [M 72 9,T 73 5 17,I 74 (.bslice false 5 [ZR] [(0,(.s 73))]),I 75 (.app 5 40 (.s 72) (.s 74)),M 9 75])
def ZIY:PC :=
 (R [1,8,9,11,12] [M 76 11,M 77 15,I 78 (.bslice false 1 [(.str [])] [(0,(.s 77))]),I 79 (.app 1 16 (.s 76) (.s 78)),M 11 79])
def ZIZ:PC :=
 (R [1,8,9,11,12] [M 34 12,W 35 .add 34 1,M 12 35])
def ZIa:PC :=
 (D (D ZJ3
 (E 33
 .skip
 (.exit 0)))
 (D (.block 1
 (D ZJ4
 (D (D ZJ5
 (E 48
 (D ZJ6
 .ret)
 .skip))
 (D ZIQ
 (D (D ZIR
 (E 58
 (D ZIS
 .ret)
 .skip))
 (D ZIT
 (D (D ZIU
 (E 69
 (.exit 1)
 .skip))
 (D (D ZIV
 (E 71
 (D ZIW
 .ret)
 .skip))
 (D ZIX
 ZIY)))))))))
 ZIZ))
def ZIb:PC :=
 (R [4,5,6,7] [M 80 8,M 81 9,M 82 11,M 4 80,M 5 81,M 6 82,I 7 (.mv (.v (.bool true)))])
def Xz:PF:=⟨true,
 (D ZJx
 (D ZJy
 (D (D ZJz
 (E 26
 (D ZJ0
 .ret)
 .skip))
 (D ZJ1
 (D (D ZJ2
 (.block 0
 (.loop ZIa)))
 (D ZIb
 .ret)))))),
 [.s 4,.s 5,.s 6,.s 7]⟩
theorem ZM8:Zr Proofs.Tryz.prog true ZM7 Proofs.Tryz.f16=some Xz:=by kernel_rfl
def ZM9:List Hint:=[H [0,1],H [4]]
def ZJ7:PC :=
 (R [0,1] [K 4 0])
def ZJ8:PC :=
 (R [4] [M 5 0,M 6 1,I 7 (C JY [(.s 5),(.s 6)]),M 4 7])
def ZDM:PF:=⟨false,
 (D ZJ7
 (D ZJ8
 .ret)),
 [.s 4]⟩
theorem ZNA:Zr Proofs.Tryz.prog false ZM9 Proofs.Tryz.f17=some ZDM:=by kernel_rfl
def ZLx:List Hint:=[H [0,2],H [0,2,4],H [2],⟨[2],[],[(8,.pure),(19,.pure)],[],[],[]⟩]
def ZIc:PC :=
 (R [0,2] [I 2 (.box (.v (.agg [(.int .i64 0),(.int .i64 0),(.int .i64 0),(.int .i64 0),(.int .i64 0),(.int .i64 0),(.int .i64 0)])))])
def ZId:PC :=
 (R [0,2,4] [M 3 0,I 4 (.eqs false 3 [] (.s 3) (.v .nilptr))])
def ZIe:PC :=
 (R [2] [I 5 (.build [(.int .i64 0),(.int .i64 0),(.int .i64 0),(.int .i64 0),(.int .i64 0),(.int .i64 0),(.int .i64 0)] []),N 7 2 5])
def ZIf:PC :=
 (R [2] [M 6 0,I 7 (.nilck (.s 6)),F 8 0 7,L 9 8,M 10 0,I 11 (.nilck (.s 10)),F 12 1 11,L 13 12,I 14 (.call .pure (.v (.func (.func Y5) [] [])) [(.s 13)]),I 15 (.len 1 (.s 14)),M 16 0,I 17 (.nilck (.s 16)),F 18 2 17,L 19 18,I 20 (.len 2 (.s 19)),M 21 0,I 22 (.nilck (.s 21)),F 23 1 22,L 24 23,I 25 (.call .pure (.v (.func (.func J6) [] [])) [(.s 24)]),I 26 (.len 1 (.s 25)),M 27 0,I 28 (.nilck (.s 27)),F 29 3 28,L 30 29,M 31 0,I 32 (.nilck (.s 31)),F 33 4 32,L 34 33,M 35 0,I 36 (.nilck (.s 35)),F 37 5 36,L 38 37,I 39 (.build [(.int .i64 0),(.int .i64 0),(.int .i64 0),(.int .i64 0),(.int .i64 0),(.int .i64 0),(.int .i64 0)] [(0,1,(.s 9)),(1,1,(.s 15)),(2,1,(.s 20)),(3,1,(.s 26)),(4,1,(.s 30)),(5,1,(.s 34)),(6,1,(.s 38))]),N 7 2 39])
def ZCK:PF:=⟨false,
 (D ZIc
 (D (D ZId
 (E 4
 (D ZIe
 .ret)
 .skip))
 (D ZIf
 .ret))),
 [.c 2 true 7]⟩
theorem ZLy:Zr Proofs.Tryz.prog false ZLx Proofs.Tryz.f35=some ZCK:=by kernel_rfl
def ZLz:List Hint:=[H [],H [1,2,3],H [1,2,13],H [0],H [4,5],H [4,25],H [0],H [4,5,6],H [0]]
def ZIg:PC :=
 (R [] [I 0 (.mv (.v (.bool false)))])
def ZIh:PC :=
 (R [1,2,3] [I 8 (C Xb []),M 7 8,X 9 7 0,X 10 7 1,X 11 7 2,I 2 (.box (.v ZR)),M 1 9,N 5 2 10,M 3 11])
def ZIi:PC :=
 (R [1,2,13] [M 12 3,I 13 (.un .not (.s 12))])
def ZIj:PC :=
 (R [0] [I 0 (.mv (.v (.bool false)))])
def ZIk:PC :=
 (R [4,5] [M 15 1,T 16 5 2,I 17 (C ZAL [(.s 15),(.s 16)]),M 14 17,X 18 14 0,X 19 14 1,M 4 18,M 5 19])
def ZIl:PC :=
 (R [4,25] [M 20 4,I 21 (.eqs false 3 [] (.s 20) (.v .nilptr)),M 22 21,U 23 22 false 5,G 24 22 false (.bin .neq (.s 23) (V 0)),I 25 (.pick (.s 22) (.v (.bool true)) (.s 24))])
def ZIm:PC :=
 (R [0] [I 0 (.mv (.v (.bool false)))])
def ZIn:PC :=
 (R [4,5,6] [M 27 4,I 28 (C QH [(.s 27)]),M 26 28,X 29 26 0,X 30 26 1,M 6 29,M 5 30])
def ZIo:PC :=
 (R [0] [M 31 5,W 32 .eql 31 0,M 33 32,U 34 33 true 6,G 35 33 true (.bin .eql (.s 34) (.v (.str [97]))),I 36 (.pick (.s 33) (.s 35) (.v (.bool false))),M 37 36,U 38 37 true 4,G 39 37 true (C QM [(.s 38)]),G 40 37 true (.bin .eql (.s 39) (V 1)),I 41 (.pick (.s 37) (.s 40) (.v (.bool false))),M 42 41,U 43 42 true 4,G 44 42 true (C JA [(.s 43)]),G 45 42 true (.bin .eql (.s 44) (V 2)),I 46 (.pick (.s 42) (.s 45) (.v (.bool false))),M 0 46])
def ZCL:PF:=⟨false,
 (D ZIg
 (D ZIh
 (D (D ZIi
 (E 13
 (D ZIj
 .ret)
 .skip))
 (D ZIk
 (D (D ZIl
 (E 25
 (D ZIm
 .ret)
 .skip))
 (D ZIn
 (D ZIo
 .ret))))))),
 [.s 0]⟩
theorem ZL0:Zr Proofs.Tryz.prog false ZLz Proofs.Tryz.f42=some ZCL:=by kernel_rfl
def Ze6:List Hint:=[H [0,3],H [0,3,6],H [0,3,6,13],H [4,5],H [3,7],H [7,22],H [7,8],H [7,8,28],H [4,5],H [4,5]]
def ZXa:PC :=
 (R [0,3] [I 3 (.box (.s 1)),I 4 (.mv (.v .nilptr)),K 5 0])
def ZXb:PC :=
 (R [0,3,6] [M 9 0,T 10 5 3,I 11 (C ZDC [(.s 9),(.s 10)]),M 6 11])
def ZXc:PC :=
 (R [0,3,6,13] [M 12 6,W 13 .neq 12 0])
def ZXd:PC :=
 (R [4,5] [M 14 6,I 4 (.mv (.v .nilptr)),M 5 14])
def ZXe:PC :=
 (R [3,7] [M 15 0,T 16 5 3,I 17 (.build [.nilptr,(.int .u64 0),(.int .i64 0),(.int .i64 0),(.int .i64 0),(.int .i64 0),.nils,(.int .i64 0)] [(0,1,(.s 15)),(1,5,(.s 16))]),I 18 (.build [.nilptr,(.int .u64 0),(.int .i64 0),(.int .i64 0),(.int .i64 0),(.int .i64 0),.nils,(.int .i64 0),(.int .i64 0)] [(0,8,(.s 17))]),I 19 (.box (.s 18)),M 7 19])
def ZXf:PC :=
 (R [7,22] [F 20 0 3,L 21 20,I 22 (.bin .neq (.s 21) (.v (.int .u64 0)))])
def ZXg:PC :=
 (R [7,8] [M 23 7,I 24 (.nilck (.s 23)),F 25 0 24,I 26 (C QX [(.s 25),(V 0)]),M 8 26])
def ZXh:PC :=
 (R [7,8,28] [M 27 8,W 28 .neq 27 0])
def ZXi:PC :=
 (R [4,5] [M 29 8,I 4 (.mv (.v .nilptr)),M 5 29])
def ZXj:PC :=
 (R [4,5] [M 30 7,M 4 30,K 5 0])
def ZOU:PF:=⟨true,
 (D ZXa
 (D (D ZXb
 (D ZXc
 (E 13
 (D ZXd
 .ret)
 .skip)))
 (D ZXe
 (D (D ZXf
 (E 22
 (D ZXg
 (D ZXh
 (E 28
 (D ZXi
 .ret)
 .skip)))
 .skip))
 (D ZXj
 .ret))))),
 [.s 4,.s 5]⟩
theorem Ze7:Zr Proofs.Tryz.prog true Ze6 Proofs.Tryz.f43=some ZOU:=by kernel_rfl
def ZEu:List Hint:=[H [0],H [0,4],H [2],H [2]]
def ZDp:PC :=
 (R [0] [K 2 0])
def ZDq:PC :=
 (R [0,4] [M 3 0,I 4 (.eqs false 3 [] (.s 3) (.v .nilptr))])
def ZDr:PC :=
 (R [2] [K 2 0])
def ZDs:PC :=
 (R [2] [M 5 0,I 6 (.nilck (.s 5)),F 7 0 6,F 8 7 7,L 9 8,M 2 9])
def ZAC:PF:=⟨false,
 (D ZDp
 (D (D ZDq
 (E 4
 (D ZDr
 .ret)
 .skip))
 (D ZDs
 .ret))),
 [.s 2]⟩
theorem ZEv:Zr Proofs.Tryz.prog false ZEu Proofs.Tryz.f44=some ZAC:=by kernel_rfl
def ZJ9:List Hint:=[H [0,3],H [0,3,6],H [0,3,6,10],H [4,5],H [0,3,13],H [4,5],H [4,5]]
def ZGF:PC :=
 (R [0,3] [I 3 (.box (.s 1)),I 4 (.mv (.v (.str []))),K 5 0])
def ZGG:PC :=
 (R [0,3,6] [M 7 0,I 8 (C Qv [(.s 7)]),M 6 8])
def ZGH:PC :=
 (R [0,3,6,10] [M 9 6,W 10 .neq 9 0])
def ZGI:PC :=
 (R [4,5] [M 11 6,I 4 (.mv (.v (.str []))),M 5 11])
def ZGJ:PC :=
 (R [0,3,13] [L 12 3,W 13 .lss 12 0])
def ZGK:PC :=
 (R [4,5] [I 4 (.mv (.v (.str []))),K 5 2])
def ZGL:PC :=
 (R [4,5] [M 14 0,I 15 (.mkf (.func Yc) [] [(.s 3)]),I 16 (C QZ [(.s 14),(.s 15)]),X 17 16 0,X 18 16 1,M 4 17,M 5 18])
def ZBM:PF:=⟨false,
 (D ZGF
 (D (D ZGG
 (D ZGH
 (E 10
 (D ZGI
 .ret)
 .skip)))
 (D (D ZGJ
 (E 13
 (D ZGK
 .ret)
 .skip))
 (D ZGL
 .ret)))),
 [.s 4,.s 5]⟩
theorem ZKA:Zr Proofs.Tryz.prog false ZJ9 Proofs.Tryz.f45=some ZBM:=by kernel_rfl
def ZKB:List Hint:=[H [0,1],H [0,1,5],H [0,1,5,9],H [4],H [0,1,23],H [4],H [4]]
def ZGM:PC :=
 (R [0,1] [K 4 0])
def ZGN:PC :=
 (R [0,1,5] [M 6 0,I 7 (C Qv [(.s 6)]),M 5 7])
def ZGO:PC :=
 (R [0,1,5,9] [M 8 5,W 9 .neq 8 0])
def ZGP:PC :=
 (R [4] [M 10 5,M 4 10])
def ZGQ:PC :=
 (R [0,1,23] [M 11 1,W 12 .lss 11 0,M 13 12,U 14 13 false 1,U 15 13 false 0,G 16 13 false (.nilck (.s 15)),G 17 13 false (.fadr 0 (.s 16)),G 18 13 false (.fadr 1 (.s 17)),G 19 13 false (.fadr 2 (.s 18)),G 20 13 false (.fadr 0 (.s 19)),G 21 13 false (.ld false 1 (.s 20)),G 22 13 false (.bin .gtr (.s 14) (.s 21)),I 23 (.pick (.s 13) (.v (.bool true)) (.s 22))])
def ZGR:PC :=
 (R [4] [K 4 3])
def ZGS:PC :=
 (R [4] [M 24 0,M 25 1,I 26 (C Qo [(.s 24),(.s 25)]),M 4 26])
def ZBN:PF:=⟨false,
 (D ZGM
 (D (D ZGN
 (D ZGO
 (E 9
 (D ZGP
 .ret)
 .skip)))
 (D (D ZGQ
 (E 23
 (D ZGR
 .ret)
 .skip))
 (D ZGS
 .ret)))),
 [.s 4]⟩
theorem ZKC:Zr Proofs.Tryz.prog false ZKB Proofs.Tryz.f47=some ZBN:=by kernel_rfl
def ZNB:List Hint:=[H [0],H [0,4],H [2],H [2]]
def ZKD:PC :=
 (R [0] [K 2 0])
def ZKE:PC :=
 (R [0,4] [M 3 0,I 4 (.eqs false 3 [] (.s 3) (.v .nilptr))])
def ZKF:PC :=
 (R [2] [K 2 0])
def ZKG:PC :=
 (R [2] [M 5 0,I 6 (.nilck (.s 5)),F 7 8 6,L 8 7,M 2 8])
def ZDN:PF:=⟨false,
 (D ZKD
 (D (D ZKE
 (E 4
 (D ZKF
 .ret)
 .skip))
 (D ZKG
 .ret))),
 [.s 2]⟩
theorem ZNC:Zr Proofs.Tryz.prog false ZNB Proofs.Tryz.f48=some ZDN:=by kernel_rfl
def ZKH:List Hint:=[H [0],H [0,4],H [0,4,8],H [2,3],H [0,21],H [2,3],H [2,3]]
def ZGT:PC :=
 (R [0] [I 2 (.mv (.v (.str []))),K 3 0])
def ZGU:PC :=
 (R [0,4] [M 5 0,I 6 (C Qv [(.s 5)]),M 4 6])
def ZGV:PC :=
 (R [0,4,8] [M 7 4,W 8 .neq 7 0])
def ZGW:PC :=
 (R [2,3] [M 9 4,I 2 (.mv (.v (.str []))),M 3 9])
def ZGX:PC :=
 (R [0,21] [M 10 0,I 11 (.nilck (.s 10)),F 12 8 11,L 13 12,M 14 0,I 15 (.nilck (.s 14)),F 16 0 15,F 17 1 16,F 18 2 17,F 19 0 18,L 20 19,B 21 .eql 13 20])
def ZGY:PC :=
 (R [2,3] [I 2 (.mv (.v (.str []))),K 3 3])
def ZGZ:PC :=
 (R [2,3] [M 22 0,I 23 (C QZ [(.s 22),(.v (.func (.func Yd) [] []))]),X 24 23 0,X 25 23 1,M 2 24,M 3 25])
def ZBO:PF:=⟨false,
 (D ZGT
 (D (D ZGU
 (D ZGV
 (E 8
 (D ZGW
 .ret)
 .skip)))
 (D (D ZGX
 (E 21
 (D ZGY
 .ret)
 .skip))
 (D ZGZ
 .ret)))),
 [.s 2,.s 3]⟩
theorem ZKI:Zr Proofs.Tryz.prog false ZKH Proofs.Tryz.f53=some ZBO:=by kernel_rfl
def ZbS:List Hint:=[H [0],H [0,7],H [0,4,5],H [0,4,15],H [2],H [0],H [2]]
def ZTu:PC :=
 (R [0] [I 2 (.mv (.v (.bool false)))])
def ZTv:PC :=
 (R [0,7] [M 6 0,I 7 (.bin .neq (.s 6) (.v (.str [])))])
def ZTw:PC :=
 (R [0,4,5] [M 9 0,I 10 (C Y6 [(.s 9)]),M 8 10,X 11 8 0,X 12 8 1,X 13 8 2,M 3 11,M 4 12,M 5 13])
def ZTx:PC :=
 (R [0,4,15] [M 14 5,W 15 .neq 14 0])
def ZTy:PC :=
 (R [2] [I 2 (.mv (.v (.bool false)))])
def ZTz:PC :=
 (R [0] [M 16 0,M 17 4,I 18 (.slcS (.s 16) (some (.s 17)) none),M 0 18])
def ZT0:PC :=
 (D (D ZTv
 (E 7
 .skip
 (.exit 0)))
 (.block 1
 (D ZTw
 (D (D ZTx
 (E 15
 (D ZTy
 .ret)
 .skip))
 ZTz))))
def ZT1:PC :=
 (R [2] [I 2 (.mv (.v (.bool true)))])
def ZEb:PF:=⟨false,
 (D ZTu
 (D (.block 0
 (.loop ZT0))
 (D ZT1
 .ret))),
 [.s 2]⟩
theorem ZbT:Zr Proofs.Tryz.prog false ZbS Proofs.Tryz.f55=some ZEb:=by kernel_rfl
def ZKJ:List Hint:=[H [0],H [0,4],H [0,4,19],H [2,3],H [0,25],H [2,3],⟨[0,5],[0],[],[],[],[]⟩,H [0,5,6],H [0,5,6,7],H [0,5,6,7,34],H [0,5,6,7,8,9],H [0,5,6,7,8,9,49],H [0,5,6,7,11],H [0,5,6,7,11,60],H [2,3],H [0,5,6,8,9,71],H [2,3],H [0,5,6,8,9],H [0,5,6,12],H [0,5,6,12],H [0,5,6,7],H [5,13],H [5,13,95,96,97],H [5,13,95,96,97,98],H [5,13,14,15,95,96,97],H [5,13,95,96,97],H [5,13,95,96,97],H [2,3]]
def ZGa:PC :=
 (R [0] [I 2 (.mv (.v (.str []))),K 3 0])
def ZGb:PC :=
 (R [0,4] [M 16 0,I 17 (C Qv [(.s 16)]),M 4 17])
def ZGc:PC :=
 (R [0,4,19] [M 18 4,W 19 .neq 18 0])
def ZGd:PC :=
 (R [2,3] [M 20 4,I 2 (.mv (.v (.str []))),M 3 20])
def ZGe:PC :=
 (R [0,25] [M 21 0,I 22 (.nilck (.s 21)),F 23 8 22,L 24 23,W 25 .eql 24 0])
def ZGf:PC :=
 (R [2,3] [I 2 (.mv (.v (.str []))),K 3 3])
def ZGg:PC :=
 (R [0,5] [I 5 (.boxnil 1)])
def ZGh:PC :=
 (R [0,5,6] [I 26 (.mkf (.func QT) [] [(.s 5)]),M 6 26])
def ZGi:PC :=
 (R [0,5,6,7] [I 7 (.mv (.v (.bool true)))])
def ZGj:PC :=
 (R [0,5,6,7,34] [M 27 7,M 28 27,U 29 28 true 0,G 30 28 true (.nilck (.s 29)),G 31 28 true (.fadr 8 (.s 30)),G 32 28 true (.ld false 1 (.s 31)),G 33 28 true (.bin .gtr (.s 32) (V 0)),I 34 (.pick (.s 28) (.s 33) (.v (.bool false)))])
def ZEw:PC :=
 (R [0,5,6,7,8,9] [M 36 0,I 37 (.nilck (.s 36)),F 38 0 37,I 39 (C Ye [(.s 38)]),M 35 39,X 40 35 0,X 41 35 1,X 42 35 2,M 8 40,M 9 41,M 10 42])
def ZEx:PC :=
 (R [0,5,6,7,8,9,49] [M 43 0,I 44 (.nilck (.s 43)),F 45 8 44,L 46 45,W 47 .sub 46 1,M 48 9,B 49 .lss 47 48])
def ZEy:PC :=
 (R [0,5,6,7,11] [M 50 0,I 51 (.nilck (.s 50)),F 52 0 51,M 53 0,I 54 (.nilck (.s 53)),F 55 8 54,L 56 55,W 57 .sub 56 1,I 58 (C QX [(.s 52),(.s 57)]),M 11 58])
def ZEz:PC :=
 (R [0,5,6,7,11,60] [M 59 11,W 60 .neq 59 0])
def ZE0:PC :=
 (R [2,3] [M 61 11,I 2 (.mv (.v (.str []))),M 3 61])
def ZE1:PC :=
 (R [0,5,6,8,9,71] [M 62 0,I 63 (.nilck (.s 62)),F 64 8 63,L 65 64,W 66 .sub 65 1,M 67 9,B 68 .sub 66 67,M 69 8,I 70 (.len 0 (.s 69)),B 71 .geq 68 70])
def ZE2:PC :=
 (R [2,3] [I 2 (.mv (.v (.str []))),K 3 23])
def ZE3:PC :=
 (R [0,5,6,8,9] [M 72 0,I 73 (.nilck (.s 72)),F 74 8 73,L 75 74,W 76 .sub 75 1,I 77 (.nilck (.s 72)),F 78 8 77,N 1 78 76])
def ZE4:PC :=
 (R [0,5,6,12] [M 79 8,M 80 0,I 81 (.nilck (.s 80)),F 82 8 81,L 83 82,M 84 9,B 85 .sub 83 84,I 86 (.ixStr (.s 79) (.s 85)),M 12 86])
def ZE5:PC :=
 (R [0,5,6,12] [M 87 6,M 88 12,I 89 (.call .norm (.s 87) [(.s 88)])])
def ZE6:PC :=
 (R [0,5,6,7] [M 90 12,I 91 (C ZA8 [(.s 90)]),M 7 91])
def ZE7:PC :=
 (D (D ZGj
 (E 34
 .skip
 (.exit 0)))
 (.block 1
 (D ZEw
 (D (D ZEx
 (E 49
 (D (D ZEy
 (D ZEz
 (E 60
 (D ZE0
 .ret)
 .skip)))
 (.exit 1))
 .skip))
 (D (D ZE1
 (E 71
 (D ZE2
 .ret)
 .skip))
 (D ZE3
 (D ZE4
 (D ZE5
 ZE6))))))))
def ZAD:PC :=
 (R [5,13] [L 92 5,I 93 (.len 1 (.s 92)),I 94 (.mkslice 1 1 (.int .u8 0) (.s 93) (.s 93)),M 13 94])
def ZAE:PC :=
 (R [5,13,95,96,97] [L 95 5,I 96 (.len 1 (.s 95)),K 97 0])
def ZE8:PC :=
 (R [5,13,95,96,97,98] [B 98 .lss 97 96])
def ZE9:PC :=
 (R [5,13,14,15,95,96,97] [M 99 97,I 100 (.ixS 1 (.s 95) (.s 97)),L 101 100,M 14 99,M 15 101])
def ZFA:PC :=
 (R [5,13,95,96,97] [M 102 13,L 103 5,I 104 (.len 1 (.s 103)),W 105 .sub 104 1,M 106 14,B 107 .sub 105 106,M 108 15,I 109 (.ixS 1 (.s 102) (.s 107)),N 1 109 108])
def ZFB:PC :=
 (R [5,13,95,96,97] [W 110 .add 97 1,M 97 110])
def ZAF:PC :=
 (D ZE8
 (D (E 98
 .skip
 (.exit 2))
 (D (.block 3
 (D ZE9
 ZFA))
 ZFB)))
def ZAG:PC :=
 (R [2,3] [M 111 13,I 112 (.b2s (.s 111)),M 2 112,K 3 0])
def Y9:PF:=⟨false,
 (D ZGa
 (D (D ZGb
 (D ZGc
 (E 19
 (D ZGd
 .ret)
 .skip)))
 (D (D ZGe
 (E 25
 (D ZGf
 .ret)
 .skip))
 (D ZGg
 (D ZGh
 (D (D ZGi
 (.block 0
 (.loop ZE7)))
 (D ZAD
 (D (D ZAE
 (.block 2
 (.loop ZAF)))
 (D ZAG
 .ret))))))))),
 [.s 2,.s 3]⟩
theorem ZKK:Zr Proofs.Tryz.prog false ZKJ Proofs.Tryz.f56=some Y9:=by kernel_rfl
def ZhY:List Hint:=[H [0,1],H [0,6,7],H [0,6,7,15],H [4,5],H [4,5]]
def ZbU:PC :=
 (R [0,1] [I 4 (.mv (.v .nilptr)),K 5 0])
def ZbV:PC :=
 (R [0,6,7] [M 9 0,M 10 1,I 11 (C ZDD [(.s 9),(.s 10)]),M 8 11,X 12 8 0,X 13 8 1,M 6 12,M 7 13])
def ZbW:PC :=
 (R [0,6,7,15] [M 14 7,W 15 .neq 14 0])
def ZbX:PC :=
 (R [4,5] [M 16 7,I 4 (.mv (.v .nilptr)),M 5 16])
def ZbY:PC :=
 (R [4,5] [M 17 0,M 18 6,I 19 (.mkmap),I 20 (.build [(.int .i64 0),.nilptr,.nilmap,(.int .i64 0),(.int .i64 0),(.int .i64 0)] [(0,1,(.s 17)),(1,1,(.s 18)),(2,1,(.s 19))]),I 21 (.box (.s 20)),M 4 21,K 5 0])
def ZTW:PF:=⟨true,
 (D ZbU
 (D ZbV
 (D (D ZbW
 (E 15
 (D ZbX
 .ret)
 .skip))
 (D ZbY
 .ret)))),
 [.s 4,.s 5]⟩
theorem ZhZ:Zr Proofs.Tryz.prog true ZhY Proofs.Tryz.f57=some ZTW:=by kernel_rfl
def ZjQ:List Hint:=[H [0,1,4],H [0,1,4,11],H [4,5],H [0,4,6,7],H [0,4,6,7,19],H [4,5],H [4,7,8],H [4,5]]
def Ze8:PC :=
 (R [0,1,4] [I 4 (.box (.v ZR)),K 5 0])
def Ze9:PC :=
 (R [0,1,4,11] [M 10 0,I 11 (.eqs false 3 [] (.s 10) (.v .nilptr))])
def ZfA:PC :=
 (R [4,5] [I 12 (.build [(.int .u64 0),(.int .i64 0),(.int .i64 0),(.int .i64 0),(.int .i64 0)] []),N 5 4 12,K 5 1])
def ZfB:PC :=
 (R [0,4,6,7] [M 14 1,I 15 (C ZAO [(.s 14)]),M 13 15,X 16 13 0,X 17 13 1,I 6 (.box (.v ZT)),N 7 6 16,M 7 17])
def ZfC:PC :=
 (R [0,4,6,7,19] [M 18 7,W 19 .neq 18 0])
def ZfD:PC :=
 (R [4,5] [I 20 (.build [(.int .u64 0),(.int .i64 0),(.int .i64 0),(.int .i64 0),(.int .i64 0)] []),M 21 7,N 5 4 20,M 5 21])
def ZfE:PC :=
 (R [4,7,8] [M 23 0,T 24 7 6,I 25 (C ZAN [(.s 23),(.s 24)]),M 22 25,X 26 22 0,X 27 22 1,X 28 22 2,I 8 (.box (.v ZR)),N 5 8 26,M 9 27,M 7 28])
def ZfF:PC :=
 (R [4,5] [T 29 5 8,M 30 7,N 5 4 29,M 5 30])
def ZXk:PF:=⟨false,
 (D Ze8
 (D (D Ze9
 (E 11
 (D ZfA
 .ret)
 .skip))
 (D ZfB
 (D (D ZfC
 (E 19
 (D ZfD
 .ret)
 .skip))
 (D ZfE
 (D ZfF
 .ret)))))),
 [.c 4 true 5,.s 5]⟩
theorem ZjR:Zr Proofs.Tryz.prog false ZjQ Proofs.Tryz.f58=some ZXk:=by kernel_rfl
def ZND:List Hint:=[H [0],H [0,3],H [0,3,4],H [0,3,4,12],H [0,3,4],H [0,3,4],H [2]]
def ZKL:PC :=
 (R [0] [I 2 (.mv (.v (.bool false)))])
def ZKM:PC :=
 (R [0,3] [K 3 0])
def ZKN:PC :=
 (R [0,3,4] [K 4 0])
def ZKO:PC :=
 (R [0,3,4,12] [M 5 4,M 6 0,I 7 (.len 1 (.s 6)),B 8 .lss 5 7,M 9 8,U 10 9 true 3,G 11 9 true (.bin .leq (.s 10) (V 900)),I 12 (.pick (.s 9) (.s 11) (.v (.bool false)))])
def ZKP:PC :=
 (R [0,3,4] [M 15 3,M 16 0,M 17 4,I 18 (.ixS 1 (.s 16) (.s 17)),L 19 18,I 20 (.len 0 (.s 19)),I 21 (.mnx false (.s 20) (V 1000)),B 22 .add 15 21,M 3 22])
def ZKQ:PC :=
 (R [0,3,4] [M 13 4,W 14 .add 13 1,M 4 14])
def ZKR:PC :=
 (D (D ZKO
 (E 12
 .skip
 (.exit 0)))
 (D (.block 1
 ZKP)
 ZKQ))
def ZKS:PC :=
 (R [2] [M 23 0,I 24 (.len 1 (.s 23)),W 25 .gtr 24 4,M 26 25,U 27 26 false 3,G 28 26 false (.bin .gtr (.s 27) (V 900)),I 29 (.pick (.s 26) (.v (.bool true)) (.s 28)),M 2 29])
def ZDO:PF:=⟨false,
 (D ZKL
 (D ZKM
 (D (D ZKN
 (.block 0
 (.loop ZKR)))
 (D ZKS
 .ret)))),
 [.s 2]⟩
theorem ZNE:Zr Proofs.Tryz.prog false ZND Proofs.Tryz.f68=some ZDO:=by kernel_rfl
def ZNF:List Hint:=[H [0],H [0,3],H [0,3,11],H [0,3,20],H [2],H [0,3],H [2]]
def ZKT:PC :=
 (R [0] [I 2 (.mv (.v (.bool false)))])
def ZKU:PC :=
 (R [0,3] [K 3 0])
def ZKV:PC :=
 (R [0,3,11] [M 4 3,M 5 0,I 6 (.len 1 (.s 5)),B 7 .lss 4 6,M 8 7,U 9 8 true 3,G 10 8 true (.bin .lss (.s 9) (V 100)),I 11 (.pick (.s 8) (.s 10) (.v (.bool false)))])
def ZKW:PC :=
 (R [0,3,20] [M 14 0,M 15 3,I 16 (.ixS 5 (.s 14) (.s 15)),F 17 4 16,L 18 17,I 19 (.len 0 (.s 18)),W 20 .gtr 19 200])
def ZKX:PC :=
 (R [2] [I 2 (.mv (.v (.bool true)))])
def ZKY:PC :=
 (R [0,3] [M 12 3,W 13 .add 12 1,M 3 13])
def ZKZ:PC :=
 (D (D ZKV
 (E 11
 .skip
 (.exit 0)))
 (D (.block 1
 (D ZKW
 (E 20
 (D ZKX
 .ret)
 .skip)))
 ZKY))
def ZKa:PC :=
 (R [2] [M 21 0,I 22 (.len 1 (.s 21)),W 23 .gtr 22 60,M 2 23])
def ZDP:PF:=⟨false,
 (D ZKT
 (D (D ZKU
 (.block 0
 (.loop ZKZ)))
 (D ZKa
 .ret))),
 [.s 2]⟩
theorem ZNG:Zr Proofs.Tryz.prog false ZNF Proofs.Tryz.f69=some ZDP:=by kernel_rfl
def ZNH:List Hint:=[H [0],H [0,5,6],H [0,5,20],H [2,3,4],⟨[0,5,7],[0],[],[],[],[]⟩,H [0,5,7,8],H [0,5,7,8,24],H [0,5,7,8,9,10],H [0,5,7,8,9,37],H [2,3,4],H [0,5,7,8],H [0,5,7,8],H [2,3,4]]
def ZKb:PC :=
 (R [0] [I 2 (.mv (.v .nilptr)),I 3 (.mv (.v .nils)),I 4 (.mv (.v (.bool false)))])
def ZKc:PC :=
 (R [0,5,6] [I 12 (C ZEE [(V 1500),(.v (.int .u64 3))]),M 11 12,X 13 11 0,X 14 11 1,M 5 13,M 6 14])
def ZKd:PC :=
 (R [0,5,20] [M 15 5,I 16 (.eqs false 3 [] (.s 15) (.v .nilptr)),M 17 16,U 18 17 false 6,G 19 17 false (.bin .neq (.s 18) (V 0)),I 20 (.pick (.s 17) (.v (.bool true)) (.s 19))])
def ZKe:PC :=
 (R [2,3,4] [I 2 (.mv (.v .nilptr)),I 3 (.mv (.v .nils)),I 4 (.mv (.v (.bool false)))])
def ZKf:PC :=
 (R [0,5,7] [I 7 (.onil 5)])
def ZKg:PC :=
 (R [0,5,7,8] [K 8 0])
def ZKh:PC :=
 (R [0,5,7,8,24] [M 21 8,M 22 0,I 23 (.len 1 (.s 22)),B 24 .lss 21 23])
def ZKi:PC :=
 (R [0,5,7,8,9,10] [M 28 5,M 29 0,M 30 8,I 31 (.ixS 1 (.s 29) (.s 30)),L 32 31,I 33 (C ZDB [(.s 28),(.s 32)]),M 27 33,X 34 27 0,X 35 27 1,I 9 (.box (.v ZR)),N 5 9 34,M 10 35])
def ZKj:PC :=
 (R [0,5,7,8,9,37] [M 36 10,W 37 .neq 36 0])
def ZKk:PC :=
 (R [2,3,4] [I 2 (.mv (.v .nilptr)),I 3 (.mv (.v .nils)),I 4 (.mv (.v (.bool false)))])
def ZIp:PC :=
 (R [0,5,7,8] [M 38 7,T 39 5 9,I 40 (.bslice false 5 [ZR] [(0,(.s 39))]),I 41 (.app 5 40 (.s 38) (.s 40)),M 7 41])
def ZIq:PC :=
 (R [0,5,7,8] [M 25 8,W 26 .add 25 1,M 8 26])
def ZIr:PC :=
 (D (D ZKh
 (E 24
 .skip
 (.exit 0)))
 (D (.block 1
 (D ZKi
 (D (D ZKj
 (E 37
 (D ZKk
 .ret)
 .skip))
 ZIp)))
 ZIq))
def ZIs:PC :=
 (R [2,3,4] [M 42 5,M 43 7,M 2 42,M 3 43,I 4 (.mv (.v (.bool true)))])
def ZDQ:PF:=⟨true,
 (D ZKb
 (D ZKc
 (D (D ZKd
 (E 20
 (D ZKe
 .ret)
 .skip))
 (D ZKf
 (D (D ZKg
 (.block 0
 (.loop ZIr)))
 (D ZIs
 .ret)))))),
 [.s 2,.s 3,.s 4]⟩
theorem ZNI:Zr Proofs.Tryz.prog true ZNH Proofs.Tryz.f71=some ZDQ:=by kernel_rfl
def ZL1:List Hint:=[H [0,1,2],⟨[0,1,2,8],[0],[],[],[],[]⟩,H [0,1,2,8,9],H [0,1,2,8,9,19],H [0,1,2,8,9,24],H [0,1,2,8,9,10,11],H [0,1,2,8,9,10,35],H [6,7],H [0,1,2,8,9],H [0,1,2,8,9,12],H [0,1,2,8,9,12,13,14],H [0,1,2,8,9,12,13,59],H [6,7],H [0,1,2,8,9,12,13,15],⟨[0,1,2,8,9,13,14],[],[(13,.pure)],[],[],[]⟩,H [0,1,2,8,9,13,93],H [6,7],H [0,1,2,8,9],H [0,1,2,8,9],H [6,7]]
def ZIt:PC :=
 (R [0,1,2] [I 6 (.mv (.v .nils)),I 7 (.mv (.v (.bool false)))])
def ZIu:PC :=
 (R [0,1,2,8] [I 8 (.onil 7)])
def ZIv:PC :=
 (R [0,1,2,8,9] [K 9 0])
def ZIw:PC :=
 (R [0,1,2,8,9,19] [M 16 9,M 17 2,I 18 (.len 1 (.s 17)),B 19 .lss 16 18])
def ZIx:PC :=
 (R [0,1,2,8,9,24] [M 22 1,I 23 (.len 1 (.s 22)),W 24 .eql 23 0])
def ZIy:PC :=
 (R [0,1,2,8,9,10,11] [M 26 2,M 27 9,I 28 (.ixS 5 (.s 26) (.s 27)),F 29 4 28,L 30 29,I 31 (C ZAO [(.s 30)]),M 25 31,X 32 25 0,X 33 25 1,I 10 (.box (.v ZT)),N 7 10 32,M 11 33])
def ZIz:PC :=
 (R [0,1,2,8,9,10,35] [M 34 11,W 35 .neq 34 0])
def ZI0:PC :=
 (R [6,7] [I 6 (.mv (.v .nils)),I 7 (.mv (.v (.bool false)))])
def ZI1:PC :=
 (R [0,1,2,8,9] [M 36 8,T 37 7 10,I 38 (.bslice false 7 [ZT] [(0,(.s 37))]),I 39 (.app 7 80 (.s 36) (.s 38)),M 8 39])
def ZI2:PC :=
 (R [0,1,2,8,9,12] [M 40 1,M 41 2,M 42 9,I 43 (.ixS 5 (.s 41) (.s 42)),F 44 1 43,L 45 44,M 46 1,I 47 (.len 1 (.s 46)),W 48 .sub 47 1,I 49 (C JY [(.s 45),(.s 48)]),I 50 (.ixS 5 (.s 40) (.s 49)),T 51 5 50,I 12 (.box (.v ZR)),N 5 12 51])
def ZGk:PC :=
 (R [0,1,2,8,9,12,13,14] [M 53 0,T 54 5 12,I 55 (C ZBK [(.s 53),(.s 54)]),M 52 55,X 56 52 0,X 57 52 1,I 13 (.box (.v ZT)),N 7 13 56,M 14 57])
def ZGl:PC :=
 (R [0,1,2,8,9,12,13,59] [M 58 14,W 59 .neq 58 0])
def ZGm:PC :=
 (R [6,7] [I 6 (.mv (.v .nils)),I 7 (.mv (.v (.bool false)))])
def ZGn:PC :=
 (R [0,1,2,8,9,12,13,15] [M 60 2,M 61 9,I 62 (.ixS 5 (.s 60) (.s 61)),F 63 2 62,L 64 63,F 65 2 12,F 66 0 65,L 67 66,I 68 (C JY [(.s 64),(.s 67)]),M 15 68])
def ZGo:PC :=
 (R [0,1,2,8,9,13,14] [M 70 0,T 71 7 13,M 72 15,M 73 2,M 74 9,I 75 (.ixS 5 (.s 73) (.s 74)),F 76 3 75,L 77 76,F 78 2 12,F 79 0 78,L 80 79,M 81 15,B 82 .sub 80 81,I 83 (.call .pure (.v (.func (.func JY) [] [])) [(.s 77),(.s 82)]),M 84 2,M 85 9,I 86 (.ixS 5 (.s 84) (.s 85)),F 87 4 86,L 88 87,I 89 (C ZDE [(.s 70),(.s 71),(.s 72),(.s 83),(.s 88)]),M 69 89,X 90 69 0,X 91 69 1,N 7 13 90,M 14 91])
def ZGp:PC :=
 (R [0,1,2,8,9,13,93] [M 92 14,W 93 .neq 92 0])
def ZGq:PC :=
 (R [6,7] [I 6 (.mv (.v .nils)),I 7 (.mv (.v (.bool false)))])
def ZGr:PC :=
 (R [0,1,2,8,9] [M 94 8,T 95 7 13,I 96 (.bslice false 7 [ZT] [(0,(.s 95))]),I 97 (.app 7 80 (.s 94) (.s 96)),M 8 97])
def ZGs:PC :=
 (R [0,1,2,8,9] [M 20 9,W 21 .add 20 1,M 9 21])
def ZGt:PC :=
 (D (D ZIw
 (E 19
 .skip
 (.exit 0)))
 (D (.block 1
 (D (D ZIx
 (E 24
 (D ZIy
 (D (D ZIz
 (E 35
 (D ZI0
 .ret)
 .skip))
 (D ZI1
 (.exit 1))))
 .skip))
 (D ZI2
 (D ZGk
 (D (D ZGl
 (E 59
 (D ZGm
 .ret)
 .skip))
 (D ZGn
 (D ZGo
 (D (D ZGp
 (E 93
 (D ZGq
 .ret)
 .skip))
 ZGr))))))))
 ZGs))
def ZGu:PC :=
 (R [6,7] [M 98 8,M 6 98,I 7 (.mv (.v (.bool true)))])
def ZCM:PF:=⟨false,
 (D ZIt
 (D ZIu
 (D (D ZIv
 (.block 0
 (.loop ZGt)))
 (D ZGu
 .ret)))),
 [.s 6,.s 7]⟩
theorem ZL2:Zr Proofs.Tryz.prog false ZL1 Proofs.Tryz.f72=some ZCM:=by kernel_rfl
def Zha:List Hint:=[H [2,3],H [2,3,6],H [2,3,6,14],H [4,5],⟨[2,3,7],[0],[],[],[],[]⟩,H [2,3,7,8],H [3,7,8],H [3,7,8,19],H [4,5],H [7,9],H [7,9,24],H [4,5],H [4,5]]
def ZbZ:PC :=
 (R [2,3] [I 2 (.box (.s 0)),I 3 (.box (.s 1)),I 4 (.mv (.v (.str []))),K 5 0])
def Zba:PC :=
 (R [2,3,6] [L 10 2,T 11 7 3,I 12 (C Yf [(.s 10),(.s 11)]),M 6 12])
def Zbb:PC :=
 (R [2,3,6,14] [M 13 6,W 14 .neq 13 0])
def Zbc:PC :=
 (R [4,5] [M 15 6,I 4 (.mv (.v (.str []))),M 5 15])
def Zbd:PC :=
 (R [2,3,7] [I 7 (.boxnil 1)])
def Zbe:PC :=
 (R [2,3,7,8] [I 8 (.box (.v .nilfunc))])
def Zbf:PC :=
 (R [3,7,8] [I 16 (.mkf (.func Yp) [] [(.s 2),(.s 7),(.s 8)]),N 1 8 16])
def Zbg:PC :=
 (R [3,7,8,19] [T 17 7 3,I 18 (C Qu [(.s 17)]),W 19 .eql 18 1])
def Zbh:PC :=
 (R [4,5] [I 4 (.mv (.v (.str []))),K 5 0])
def Zbi:PC :=
 (R [7,9] [L 20 8,T 21 7 3,I 22 (.call .norm (.s 20) [(.s 21)]),M 9 22])
def ZXl:PC :=
 (R [7,9,24] [M 23 9,W 24 .neq 23 0])
def ZXm:PC :=
 (R [4,5] [M 25 9,I 4 (.mv (.v (.str []))),M 5 25])
def ZXn:PC :=
 (R [4,5] [L 26 7,I 27 (.b2s (.s 26)),M 4 27,K 5 0])
def ZTX:PF:=⟨false,
 (D ZbZ
 (D (D Zba
 (D Zbb
 (E 14
 (D Zbc
 .ret)
 .skip)))
 (D Zbd
 (D Zbe
 (D Zbf
 (D (D Zbg
 (E 19
 (D Zbh
 .ret)
 .skip))
 (D (D Zbi
 (D ZXl
 (E 24
 (D ZXm
 .ret)
 .skip)))
 (D ZXn
 .ret)))))))),
 [.s 4,.s 5]⟩
theorem Zhb:Zr Proofs.Tryz.prog false Zha Proofs.Tryz.f73=some ZTX:=by kernel_rfl
def ZfG:List Hint:=[⟨[0,3,4,5],[2],[],[],[],[]⟩,H [4,5,6,7],H [4,5,6,7,18],⟨[4,5,6],[3],[],[],[],[]⟩,H [4,5,7,26],H [4,5,7,8,10],H [4,5,7,8,10,34],⟨[4,5,6],[3],[],[],[],[]⟩,H [4,5,7],H [4,5,6],H [4,5,6]]
def ZXo:PC :=
 (R [0,3,4,5] [I 3 (.box (.s 1)),I 4 (.box (.v ZR)),I 5 (.onil 1),K 6 0])
def ZXp:PC :=
 (R [4,5,6,7] [M 12 0,T 13 7 3,I 14 (C XJ [(.s 12),(.s 13)]),M 11 14,X 15 11 0,X 16 11 1,M 7 15,M 6 16])
def ZXq:PC :=
 (R [4,5,6,7,18] [M 17 6,W 18 .neq 17 0])
def ZXr:PC :=
 (R [4,5,6] [I 19 (.build [(.int .u64 0),(.int .i64 0),(.int .i64 0),(.int .i64 0),(.int .i64 0)] []),M 20 6,N 5 4 19,I 5 (.onil 1),M 6 20])
def ZXs:PC :=
 (R [4,5,7,26] [M 21 7,I 22 (.nilck (.s 21)),F 23 1 22,L 24 23,I 25 (.len 1 (.s 24)),W 26 .gtr 25 0])
def ZXt:PC :=
 (R [4,5,7,8,10] [M 28 7,I 29 (C Xn [(.s 28)]),M 27 29,X 30 27 0,X 31 27 1,X 32 27 2,M 8 30,M 9 31,M 10 32])
def ZXu:PC :=
 (R [4,5,7,8,10,34] [M 33 10,W 34 .neq 33 0])
def ZXv:PC :=
 (R [4,5,6] [I 35 (.build [(.int .u64 0),(.int .i64 0),(.int .i64 0),(.int .i64 0),(.int .i64 0)] []),M 36 10,N 5 4 35,I 5 (.onil 1),M 6 36])
def ZXw:PC :=
 (R [4,5,7] [M 37 5,M 38 8,I 39 (.bslice false 1 [(.int .u64 0)] [(0,(.s 38))]),I 40 (.app 1 8 (.s 37) (.s 39)),M 5 40])
def ZXx:PC :=
 (D (D ZXs
 (E 26
 .skip
 (.exit 0)))
 (.block 1
 (D ZXt
 (D (D ZXu
 (E 34
 (D ZXv
 .ret)
 .skip))
 ZXw))))
def ZT2:PC :=
 (R [4,5,6] [M 42 7,I 43 (C ZBb [(.s 42)]),M 41 43,X 44 41 0,X 45 41 1,N 5 4 44,M 6 45])
def ZT3:PC :=
 (R [4,5,6] [T 46 5 4,M 47 5,M 48 6,N 5 4 46,M 5 47,M 6 48])
def ZOV:PF:=⟨false,
 (D ZXo
 (D ZXp
 (D (D ZXq
 (E 18
 (D ZXr
 .ret)
 .skip))
 (D (.block 0
 (.loop ZXx))
 (D ZT2
 (D ZT3
 .ret)))))),
 [.c 4 true 5,.s 5,.s 6]⟩
theorem ZfH:Zr Proofs.Tryz.prog false ZfG Proofs.Tryz.f74=some ZOV:=by kernel_rfl
def ZNJ:List Hint:=[H [0,1],H [4]]
def ZKl:PC :=
 (R [0,1] [K 4 0])
def ZKm:PC :=
 (R [4] [M 5 0,I 6 (.cint .u64 (.s 5)),M 7 1,W 8 .add 7 1,I 9 (.cint .u64 (.s 8)),B 10 .rem 6 9,I 11 (.cint .i64 (.s 10)),M 4 11])
def ZDR:PF:=⟨false,
 (D ZKl
 (D ZKm
 .ret)),
 [.s 4]⟩
theorem ZNK:Zr Proofs.Tryz.prog false ZNJ Proofs.Tryz.f75=some ZDR:=by kernel_rfl
def Zhc:List Hint:=[H [0,3,4],H [0,3,4,8],H [4,5],H [0,3,4,12],H [4,5],H [0,3,4,16],H [4,5],H [3,4,6],H [3,4,6,27],H [4,5],H [4,5]]
def Zbj:PC :=
 (R [0,3,4] [I 3 (.box (.s 1)),I 4 (.box (.v ZT)),K 5 0])
def Zbk:PC :=
 (R [0,3,4,8] [M 7 0,I 8 (.eqs false 3 [] (.s 7) (.v .nilptr))])
def Zbl:PC :=
 (R [4,5] [I 9 (.build [(.int .u64 0),(.int .i64 0),(.int .i64 0),(.int .i64 0),(.int .i64 0),(.str []),.nils] []),N 7 4 9,K 5 1])
def Zbm:PC :=
 (R [0,3,4,12] [T 10 5 3,I 11 (.build [(.int .u64 0),(.int .i64 0),(.int .i64 0),(.int .i64 0),(.int .i64 0)] []),I 12 (.eqs false 0 [(0,0),(1,0),(2,0),(3,0),(4,0)] (.s 10) (.s 11))])
def Zbn:PC :=
 (R [4,5] [I 13 (.build [(.int .u64 0),(.int .i64 0),(.int .i64 0),(.int .i64 0),(.int .i64 0),(.str []),.nils] []),N 7 4 13,K 5 0])
def Zbo:PC :=
 (R [0,3,4,16] [F 14 0 3,L 15 14,I 16 (.bin .eql (.s 15) (.v (.int .u64 0)))])
def Zbp:PC :=
 (R [4,5] [I 17 (.build [(.int .u64 0),(.int .i64 0),(.int .i64 0),(.int .i64 0),(.int .i64 0),(.str []),.nils] []),N 7 4 17,K 5 2])
def Zbq:PC :=
 (R [3,4,6] [M 18 0,F 19 0 3,L 20 19,F 21 1 3,L 22 21,F 23 2 3,T 24 3 23,I 25 (C ZEF [(.s 18),(.s 20),(.s 22),(.s 24)]),M 6 25])
def Zbr:PC :=
 (R [3,4,6,27] [M 26 6,W 27 .neq 26 0])
def Zbs:PC :=
 (R [4,5] [I 28 (.build [(.int .u64 0),(.int .i64 0),(.int .i64 0),(.int .i64 0),(.int .i64 0),(.str []),.nils] []),M 29 6,N 7 4 28,M 5 29])
def ZXy:PC :=
 (R [4,5] [F 30 0 3,L 31 30,F 32 1 3,L 33 32,F 34 2 3,T 35 3 34,I 36 (.build [(.int .u64 0),(.int .i64 0),(.int .i64 0),(.int .i64 0),(.int .i64 0),(.str []),.nils] [(0,1,(.s 31)),(1,1,(.s 33)),(2,3,(.s 35))]),N 7 4 36,K 5 0])
def ZTY:PF:=⟨false,
 (D Zbj
 (D (D Zbk
 (E 8
 (D Zbl
 .ret)
 .skip))
 (D (D Zbm
 (E 12
 (D Zbn
 .ret)
 .skip))
 (D (D Zbo
 (E 16
 (D Zbp
 .ret)
 .skip))
 (D (D Zbq
 (D Zbr
 (E 27
 (D Zbs
 .ret)
 .skip)))
 (D ZXy
 .ret)))))),
 [.c 4 true 7,.s 5]⟩
theorem Zhd:Zr Proofs.Tryz.prog false Zhc Proofs.Tryz.f82=some ZTY:=by kernel_rfl
def ZKn:List Hint:=[H [0],H [0,7],H [2],H [0,3],H [3],H [3,4,5],H [3,4,5,25],H [3,4,5],H [3,4,5],H [2]]
def ZGv:PC :=
 (R [0] [I 2 (.mv (.v .nils))])
def ZGw:PC :=
 (R [0,7] [M 6 0,I 7 (.eqs false 3 [] (.s 6) (.v .nilptr))])
def ZGx:PC :=
 (R [2] [I 2 (.mv (.v .nils))])
def ZGy:PC :=
 (R [0,3] [M 8 0,I 9 (.nilck (.s 8)),F 10 0 9,L 11 10,I 12 (.len 1 (.s 11)),I 13 (.mkslice 1 8 (.int .i64 0) (.s 12) (.s 12)),M 3 13])
def ZGz:PC :=
 (R [3] [M 14 3,M 15 0,I 16 (.nilck (.s 15)),F 17 0 16,L 18 17,I 19 (.cpy 1 (.s 14) (.s 18))])
def ZG0:PC :=
 (R [3,4,5] [M 20 3,I 21 (.len 1 (.s 20)),W 22 .sub 21 1,K 4 0,M 5 22])
def ZG1:PC :=
 (R [3,4,5,25] [M 23 4,M 24 5,B 25 .lss 23 24])
def ZG2:PC :=
 (R [3,4,5] [M 30 3,M 31 4,M 32 3,M 33 5,M 34 3,M 35 5,I 36 (.ixS 1 (.s 34) (.s 35)),L 37 36,M 38 3,M 39 4,I 40 (.ixS 1 (.s 38) (.s 39)),L 41 40,I 42 (.ixS 1 (.s 30) (.s 31)),N 1 42 37,I 43 (.ixS 1 (.s 32) (.s 33)),N 1 43 41])
def ZG3:PC :=
 (R [3,4,5] [M 26 4,W 27 .add 26 1,M 28 5,W 29 .sub 28 1,M 4 27,M 5 29])
def ZG4:PC :=
 (D (D ZG1
 (E 25
 .skip
 (.exit 0)))
 (D (.block 1
 ZG2)
 ZG3))
def ZFC:PC :=
 (R [2] [M 44 3,M 2 44])
def ZBP:PF:=⟨false,
 (D ZGv
 (D (D ZGw
 (E 7
 (D ZGx
 .ret)
 .skip))
 (D ZGy
 (D ZGz
 (D (D ZG0
 (.block 0
 (.loop ZG4)))
 (D ZFC
 .ret)))))),
 [.s 2]⟩
theorem ZKo:Zr Proofs.Tryz.prog false ZKn Proofs.Tryz.f94=some ZBP:=by kernel_rfl
def ZDt:List Hint:=[H [0],H [2]]
def ZCk:PC :=
 (R [0] [I 2 (.mv (.v .nils))])
def ZCl:PC :=
 (R [2] [M 3 0,I 4 (C Ys [(.s 3),(.v (.int .u8 2))]),M 2 4])
def XR:PF:=⟨false,
 (D ZCk
 (D ZCl
 .ret)),
 [.s 2]⟩
theorem ZDu:Zr Proofs.Tryz.prog false ZDt Proofs.Tryz.f95=some XR:=by kernel_rfl
def ZL3:List Hint:=[H [1],H [1,3,4],H [1,3,15],H [0,1,2],H [1,3,4,5],⟨[0,1,2],[],[],[],[(6,(.hide [(.s 1)])),(10,(.plain (.s 1)))],[]⟩]
def ZI3:PC :=
 (R [1] [I 0 (.mv (.v .nilptr)),I 1 (.box (.v ZR)),I 2 (.mv (.v (.bool false)))])
def ZI4:PC :=
 (R [1,3,4] [I 7 (C ZEE [(V 8),(.v (.int .u64 4))]),M 6 7,X 8 6 0,X 9 6 1,M 3 8,M 4 9])
def ZI5:PC :=
 (R [1,3,15] [M 10 3,I 11 (.eqs false 3 [] (.s 10) (.v .nilptr)),M 12 11,U 13 12 false 4,G 14 12 false (.bin .neq (.s 13) (V 0)),I 15 (.pick (.s 12) (.v (.bool true)) (.s 14))])
def ZI6:PC :=
 (R [0,1,2] [I 16 (.build [(.int .u64 0),(.int .i64 0),(.int .i64 0),(.int .i64 0),(.int .i64 0)] []),I 0 (.mv (.v .nilptr)),N 5 1 16,I 2 (.mv (.v (.bool false)))])
def ZI7:PC :=
 (R [1,3,4,5] [M 18 3,I 19 (C ZDB [(.s 18),(.v (.str [97,98,99,100,101,102,103,104,105,106,107,108,109,110,111,112,113]))]),M 17 19,X 20 17 0,X 21 17 1,I 5 (.box (.v ZR)),N 5 5 20,M 4 21])
def ZI8:PC :=
 (R [0,1,2] [M 22 3,T 23 5 5,M 24 4,W 25 .eql 24 0,M 26 25,G 27 26 true (.fadr 0 (.s 5)),G 28 26 true (.w (.hide [(.s 1)]) (.ld false 1 (.s 27))),G 29 26 true (.bin .eql (.s 28) (.v (.int .u64 65538))),I 30 (.pick (.s 26) (.s 29) (.v (.bool false))),M 0 22,J (.w (.plain (.s 1)) (.st 5 (.s 1) (.s 23))),M 2 30])
def ZCN:PF:=⟨true,
 (D ZI3
 (D ZI4
 (D (D ZI5
 (E 15
 (D ZI6
 .ret)
 .skip))
 (D ZI7
 (D ZI8
 .ret))))),
 [.s 0,.c 1 true 5,.s 2]⟩
theorem ZL4:Zr Proofs.Tryz.prog true ZL3 Proofs.Tryz.f105=some ZCN:=by kernel_rfl
def ZXz:List Hint:=[H [0,3],H [6],H [4]]
def ZQz:PC :=
 (R [0,3] [I 3 (.box (.s 1)),K 4 0])
def ZQ0:PC :=
 (R [6] [M 8 0,T 9 5 3,I 10 (C Ym [(.s 8),(.s 9),(V 0)]),M 7 10,X 11 7 0,X 12 7 1,M 5 11,M 6 12])
def ZQ1:PC :=
 (R [4] [M 13 6,M 4 13])
def ZKp:PF:=⟨false,
 (D ZQz
 (D ZQ0
 (D ZQ1
 .ret))),
 [.s 4]⟩
theorem ZX0:Zr Proofs.Tryz.prog false ZXz Proofs.Tryz.f106=some ZKp:=by kernel_rfl
def ZL5:List Hint:=[H [0,1],H [0,1,18],H [0,1,5],H [0,1,40],H [0,1],H [0,1,60],H [0,1,6],H [0,1,6,75],H [4],H [0,1,7],H [0,1,7,92],H [4],H [0,1,7,8,9],H [0,1,8,9,97,98,99],H [0,1,8,9,97,98,99,100],H [0,1,8,9,11,97,98,99],H [0,1,8,9,11,97,98,99,109],H [0,1,12],H [0,1,12,121],H [4],H [0,1,9],H [0,1,8,9,97,98,99],H [0,1,8,9,97,98,99],H [0,1,130],H [4]]
def ZI9:PC :=
 (R [0,1] [K 4 0])
def ZJA:PC :=
 (R [0,1,18] [M 13 0,I 14 (.nilck (.s 13)),F 15 6 14,L 16 15,I 17 (.len 1 (.s 16)),W 18 .gtr 17 0])
def ZJB:PC :=
 (R [0,1,5] [M 19 0,I 20 (.nilck (.s 19)),F 21 6 20,L 22 21,M 23 0,I 24 (.nilck (.s 23)),F 25 6 24,L 26 25,I 27 (.len 1 (.s 26)),W 28 .sub 27 1,I 29 (.ixS 5 (.s 22) (.s 28)),T 30 5 29,I 5 (.box (.v (.agg [(.int .i64 0),(.str []),.nils,(.int .i64 0),(.int .i64 0)]))),N 5 5 30])
def ZJC:PC :=
 (R [0,1,40] [M 31 1,F 32 3 5,L 33 32,B 34 .geq 31 33,M 35 34,U 36 35 true 1,G 37 35 true (.fadr 4 (.s 5)),G 38 35 true (.ld false 1 (.s 37)),G 39 35 true (.bin .lss (.s 36) (.s 38)),I 40 (.pick (.s 35) (.s 39) (.v (.bool false)))])
def ZJD:PC :=
 (R [0,1] [M 41 0,M 42 0,I 43 (.nilck (.s 42)),F 44 6 43,L 45 44,M 46 0,I 47 (.nilck (.s 46)),F 48 6 47,L 49 48,I 50 (.len 1 (.s 49)),W 51 .sub 50 1,I 52 (.slc 5 (.s 45) none (some (.s 51))),I 53 (.nilck (.s 41)),F 54 6 53,N 1 54 52])
def ZJE:PC :=
 (D (D ZJA
 (E 18
 .skip
 (.exit 0)))
 (.block 1
 (D ZJB
 (D (D ZJC
 (E 40
 (.exit 0)
 .skip))
 ZJD))))
def ZJF:PC :=
 (R [0,1,60] [M 55 0,I 56 (.nilck (.s 55)),F 57 6 56,L 58 57,I 59 (.len 1 (.s 58)),W 60 .eql 59 0])
def ZJG:PC :=
 (R [0,1,6] [M 61 0,M 62 0,I 63 (.nilck (.s 62)),F 64 1 63,F 65 0 64,L 66 65,M 67 0,I 68 (.nilck (.s 67)),F 69 1 68,F 70 2 69,F 71 0 70,L 72 71,I 73 (C Jo [(.s 61),(.s 66),(V 0),(.s 72)]),M 6 73])
def ZJH:PC :=
 (R [0,1,6,75] [M 74 6,W 75 .neq 74 0])
def ZJI:PC :=
 (R [4] [M 76 6,M 4 76])
def ZG5:PC :=
 (R [0,1,7] [M 77 0,I 78 (.nilck (.s 77)),F 79 6 78,L 80 79,M 81 0,I 82 (.nilck (.s 81)),F 83 6 82,L 84 83,I 85 (.len 1 (.s 84)),W 86 .sub 85 1,I 87 (.ixS 5 (.s 80) (.s 86)),T 88 5 87,I 7 (.box (.v (.agg [(.int .i64 0),(.str []),.nils,(.int .i64 0),(.int .i64 0)]))),N 5 7 88])
def ZG6:PC :=
 (R [0,1,7,92] [F 89 0 7,F 90 0 89,L 91 90,W 92 .eql 91 0])
def ZG7:PC :=
 (R [4] [K 4 0])
def ZG8:PC :=
 (R [0,1,7,8,9] [F 93 3 7,L 94 93,M 8 94,I 9 (.mv (.v (.bool false)))])
def ZG9:PC :=
 (R [0,1,8,9,97,98,99] [F 95 0 7,F 96 2 95,L 97 96,I 98 (.len 1 (.s 97)),K 99 0])
def ZHA:PC :=
 (R [0,1,8,9,97,98,99,100] [B 100 .lss 99 98])
def ZHB:PC :=
 (R [0,1,8,9,11,97,98,99] [I 101 (.ixS 4 (.s 97) (.s 99)),T 102 4 101,I 11 (.box (.v ZK)),N 4 11 102])
def ZHC:PC :=
 (R [0,1,8,9,11,97,98,99,109] [M 103 1,M 104 8,F 105 1 11,F 106 0 105,L 107 106,B 108 .add 104 107,B 109 .lss 103 108])
def ZHD:PC :=
 (R [0,1,12] [M 110 0,F 111 0 11,L 112 111,M 113 8,M 114 8,F 115 1 11,F 116 0 115,L 117 116,B 118 .add 114 117,I 119 (C Jo [(.s 110),(.s 112),(.s 113),(.s 118)]),M 12 119])
def ZHE:PC :=
 (R [0,1,12,121] [M 120 12,W 121 .neq 120 0])
def ZHF:PC :=
 (R [4] [M 122 12,M 4 122])
def ZHG:PC :=
 (R [0,1,9] [I 9 (.mv (.v (.bool true)))])
def ZHH:PC :=
 (R [0,1,8,9,97,98,99] [M 123 8,F 124 1 11,F 125 0 124,L 126 125,B 127 .add 123 126,M 8 127])
def ZHI:PC :=
 (R [0,1,8,9,97,98,99] [W 128 .add 99 1,M 99 128])
def p_cursor_path_enter_24:PC :=
 (D ZHA
 (D (E 100
 .skip
 (.exit 4))
 (D (.block 5
 (D ZHB
 (D (D ZHC
 (E 109
 (D (D ZHD
 (D ZHE
 (E 121
 (D ZHF
 .ret)
 .skip)))
 (D ZHG
 (.exit 4)))
 .skip))
 ZHH)))
 ZHI)))
def ZHJ:PC :=
 (R [0,1,130] [M 129 9,I 130 (.un .not (.s 129))])
def ZHK:PC :=
 (R [4] [K 4 23])
def p_cursor_path_enter_27:PC :=
 (.block 3
 (D ZG5
 (D (D ZG6
 (E 92
 (D ZG7
 .ret)
 .skip))
 (D ZG8
 (D (D ZG9
 (.block 4
 (.loop p_cursor_path_enter_24)))
 (D ZHJ
 (E 130
 (D ZHK
 .ret)
 .skip)))))))
def YJ:PF:=⟨true,
 (D ZI9
 (D (.block 0
 (.loop ZJE))
 (D (D ZJF
 (E 60
 (D ZJG
 (D ZJH
 (E 75
 (D ZJI
 .ret)
 .skip)))
 .skip))
 (.block 2
 (.loop p_cursor_path_enter_27))))),
 [.s 4]⟩
theorem ZL6:Zr Proofs.Tryz.prog true ZL5 Proofs.Tryz.f107=some YJ:=by kernel_rfl
def ZJJ:List Hint:=[H [0],H [0,6],H [2],H [0,13],⟨[4],[],[(11,.inner)],[],[(15,(.here 15))],[15]⟩,H [30],H [2],H [2]]
def ZFD:PC :=
 (R [0] [K 2 0])
def ZFE:PC :=
 (R [0,6] [M 5 0,I 6 (.eqs false 3 [] (.s 5) (.v .nilptr))])
def ZFF:PC :=
 (R [2] [K 2 1])
def ZFG:PC :=
 (R [0,13] [M 7 0,I 8 (.nilck (.s 7)),F 9 0 8,F 10 1 9,F 11 0 10,L 12 11,I 13 (.bin .neq (.s 12) (.v (.int .u64 0)))])
def ZFH:PC :=
 (.regH [15] [4] [M 15 0,I 16 (.nilck (.s 15)),F 17 0 16,F 18 0 17,L 19 18,M 20 0,I 21 (.nilck (.s 20)),F 22 0 21,F 23 1 22,F 24 0 23,L 25 24,I 26 (.call .inner (.v (.func (.func Qc) [] [])) [(.s 19),(.s 25)]),M 14 26,X 27 14 0,X 28 14 1,I 3 (.w (.here 15) (.box (.v ZN))),N 3 3 27,M 4 28])
def ZFI:PC :=
 (R [30] [M 29 4,W 30 .neq 29 0])
def ZFJ:PC :=
 (R [2] [K 2 10])
def ZFK:PC :=
 (R [2] [K 2 0])
def ZAk:PF:=⟨false,
 (D ZFD
 (D (D ZFE
 (E 6
 (D ZFF
 .ret)
 .skip))
 (D (D ZFG
 (E 13
 (D ZFH
 (D ZFI
 (E 30
 (D ZFJ
 .ret)
 .skip)))
 .skip))
 (D ZFK
 .ret)))),
 [.s 2]⟩
theorem ZJK:Zr Proofs.Tryz.prog false ZJJ Proofs.Tryz.f108=some ZAk:=by kernel_rfl
def ZFL:List Hint:=[H [0,1],⟨[0,1,6],[0],[],[],[],[]⟩,H [0,1,6,7],H [0,1,6,7,25],H [0,1,6,7,8,9,10],H [0,1,6,7,8,9,39],H [0,1,6,7,11],H [0,1,6,7,11,49],H [4,5],H [0,1,6,7,8,9,59],H [4,5],H [0,1,6,7,12],H [0,1,6,7,12,73],H [0,1,6,7],H [0,1,6,7],H [4,5]]
def ZDv:PC :=
 (R [0,1] [I 4 (.mv (.v (.str []))),K 5 0])
def ZDw:PC :=
 (R [0,1,6] [I 6 (.boxnil 1)])
def ZDx:PC :=
 (R [0,1,6,7] [I 13 (.mkf (.func QK) [] [(.s 6)]),M 7 13])
def ZDy:PC :=
 (R [0,1,6,7,25] [M 14 0,I 15 (.nilck (.s 14)),F 16 8 15,L 17 16,M 18 0,I 19 (.nilck (.s 18)),F 20 0 19,F 21 1 20,F 22 2 21,F 23 0 22,L 24 23,B 25 .lss 17 24])
def ZDz:PC :=
 (R [0,1,6,7,8,9,10] [M 27 0,I 28 (.nilck (.s 27)),F 29 0 28,I 30 (C Ye [(.s 29)]),M 26 30,X 31 26 0,X 32 26 1,X 33 26 2,M 8 31,M 9 32,M 10 33])
def ZD0:PC :=
 (R [0,1,6,7,8,9,39] [M 34 0,I 35 (.nilck (.s 34)),F 36 8 35,L 37 36,M 38 10,B 39 .geq 37 38])
def ZD1:PC :=
 (R [0,1,6,7,11] [M 40 0,I 41 (.nilck (.s 40)),F 42 0 41,M 43 0,I 44 (.nilck (.s 43)),F 45 8 44,L 46 45,I 47 (C QX [(.s 42),(.s 46)]),M 11 47])
def ZD2:PC :=
 (R [0,1,6,7,11,49] [M 48 11,W 49 .neq 48 0])
def ZD3:PC :=
 (R [4,5] [M 50 11,I 4 (.mv (.v (.str []))),M 5 50])
def ZD4:PC :=
 (R [0,1,6,7,8,9,59] [M 51 0,I 52 (.nilck (.s 51)),F 53 8 52,L 54 53,M 55 9,B 56 .sub 54 55,M 57 8,I 58 (.len 0 (.s 57)),B 59 .geq 56 58])
def ZDS:PC :=
 (R [4,5] [I 4 (.mv (.v (.str []))),K 5 23])
def ZDT:PC :=
 (R [0,1,6,7,12] [M 60 8,M 61 0,I 62 (.nilck (.s 61)),F 63 8 62,L 64 63,M 65 9,B 66 .sub 64 65,I 67 (.ixStr (.s 60) (.s 66)),M 12 67])
def ZDU:PC :=
 (R [0,1,6,7,12,73] [M 68 1,L 69 6,I 70 (.len 1 (.s 69)),M 71 12,I 72 (.call .norm (.s 68) [(.s 70),(.s 71)]),I 73 (.un .not (.s 72))])
def ZDV:PC :=
 (R [0,1,6,7] [M 74 7,M 75 12,I 76 (.call .norm (.s 74) [(.s 75)])])
def ZDW:PC :=
 (R [0,1,6,7] [M 77 0,I 78 (.nilck (.s 77)),F 79 8 78,L 80 79,W 81 .add 80 1,I 82 (.nilck (.s 77)),F 83 8 82,N 1 83 81])
def ZDX:PC :=
 (D (D ZDy
 (E 25
 .skip
 (.exit 0)))
 (.block 1
 (D ZDz
 (D (D ZD0
 (E 39
 (D (D ZD1
 (D ZD2
 (E 49
 (D ZD3
 .ret)
 .skip)))
 (.exit 1))
 .skip))
 (D (D ZD4
 (E 59
 (D ZDS
 .ret)
 .skip))
 (D ZDT
 (D (D ZDU
 (E 73
 (.exit 0)
 .skip))
 (D ZDV
 ZDW))))))))
def ZDY:PC :=
 (R [4,5] [L 84 6,I 85 (.b2s (.s 84)),M 4 85,K 5 0])
def YS:PF:=⟨false,
 (D ZDv
 (D ZDw
 (D ZDx
 (D (.block 0
 (.loop ZDX))
 (D ZDY
 .ret))))),
 [.s 4,.s 5]⟩
theorem ZFM:Zr Proofs.Tryz.prog false ZFL Proofs.Tryz.f109=some YS:=by kernel_rfl
def ZHL:List Hint:=[H [0,2],H [5]]
def ZEc:PC :=
 (R [0,2] [I 5 (.mv (.v (.bool false)))])
def ZEd:PC :=
 (R [5] [M 6 0,L 7 2,B 8 .lss 6 7,M 5 8])
def ZAU:PF:=⟨false,
 (D ZEc
 (D ZEd
 .ret)),
 [.s 5]⟩
theorem ZHM:Zr Proofs.Tryz.prog false ZHL Proofs.Tryz.f110=some ZAU:=by kernel_rfl
def ZOW:List Hint:=[H [0,1,4],H [0,1,4,9],H [4,5],H [0,4,6,7],H [0,4,6,21],H [4],H [4,5],H [4,6],H [4,5]]
def ZL7:PC :=
 (R [0,1,4] [I 4 (.box (.v ZN)),K 5 0])
def ZL8:PC :=
 (R [0,1,4,9] [M 8 0,I 9 (.eqs false 3 [] (.s 8) (.v .nilptr))])
def ZL9:PC :=
 (R [4,5] [I 10 (.build [(.int .i64 0),(.str []),.nils] []),N 3 4 10,K 5 1])
def ZMA:PC :=
 (R [0,4,6,7] [M 12 0,I 13 (.nilck (.s 12)),F 14 2 13,L 15 14,M 16 1,I 17 (.look 0 ZN true (.s 15) (.s 16)),M 11 17,X 18 11 0,X 19 11 1,I 6 (.box (.v ZN)),N 3 6 18,M 7 19])
def ZMB:PC :=
 (R [0,4,6,21] [M 20 7,I 21 (.un .not (.s 20))])
def ZMC:PC :=
 (R [4] [M 22 0,I 23 (.nilck (.s 22)),F 24 5 23,L 25 24,W 26 .add 25 1,I 27 (.nilck (.s 22)),F 28 5 27,N 1 28 26])
def ZMD:PC :=
 (R [4,5] [I 29 (.build [(.int .i64 0),(.str []),.nils] []),N 3 4 29,K 5 10])
def ZME:PC :=
 (R [4,6] [F 30 2 6,L 31 30,I 32 (C QC [(.s 31)]),F 33 2 6,N 1 33 32])
def ZMF:PC :=
 (R [4,5] [T 34 3 6,N 3 4 34,K 5 0])
def ZEJ:PF:=⟨false,
 (D ZL7
 (D (D ZL8
 (E 9
 (D ZL9
 .ret)
 .skip))
 (D ZMA
 (D (D ZMB
 (E 21
 (D ZMC
 (D ZMD
 .ret))
 .skip))
 (D ZME
 (D ZMF
 .ret)))))),
 [.c 4 true 3,.s 5]⟩
theorem ZOX:Zr Proofs.Tryz.prog false ZOW Proofs.Tryz.f111=some ZEJ:=by kernel_rfl
def ZKq:List Hint:=[H [0,1],H [0,1],H [0,1,15],H [4],H [4]]
def ZHN:PC :=
 (R [0,1] [K 4 0])
def ZHO:PC :=
 (R [0,1] [M 5 0,M 6 1,I 7 (.nilck (.s 5)),F 8 8 7,N 1 8 6])
def ZHP:PC :=
 (R [0,1,15] [M 9 0,I 10 (.nilck (.s 9)),F 11 0 10,F 12 1 11,F 13 0 12,L 14 13,I 15 (.bin .eql (.s 14) (.v (.int .u64 0)))])
def ZHQ:PC :=
 (R [4] [K 4 0])
def ZHR:PC :=
 (R [4] [M 16 0,I 17 (.nilck (.s 16)),F 18 0 17,M 19 0,I 20 (.nilck (.s 19)),F 21 0 20,M 22 1,I 23 (C Y7 [(.s 21),(.s 22)]),I 24 (C QX [(.s 18),(.s 23)]),M 4 24])
def XA:PF:=⟨false,
 (D ZHN
 (D ZHO
 (D (D ZHP
 (E 15
 (D ZHQ
 .ret)
 .skip))
 (D ZHR
 .ret)))),
 [.s 4]⟩
theorem ZKr:Zr Proofs.Tryz.prog false ZKq Proofs.Tryz.f112=some XA:=by kernel_rfl
def ZfI:List Hint:=[H [0,3],H [0,3,9],H [4],H [0,3,12],H [4],H [0,3,15],H [4],H [3,5,6],H [3,5,6,24],H [4],H [3,5,6,7],H [45],H [4],H [4]]
def ZX1:PC :=
 (R [0,3] [I 3 (.box (.s 1)),K 4 0])
def ZX2:PC :=
 (R [0,3,9] [M 8 0,I 9 (.eqs false 3 [] (.s 8) (.v .nilptr))])
def ZX3:PC :=
 (R [4] [K 4 1])
def ZX4:PC :=
 (R [0,3,12] [T 10 5 3,I 11 (.build [(.int .u64 0),(.int .i64 0),(.int .i64 0),(.int .i64 0),(.int .i64 0)] []),I 12 (.eqs false 0 [(0,0),(1,0),(2,0),(3,0),(4,0)] (.s 10) (.s 11))])
def ZX5:PC :=
 (R [4] [K 4 0])
def ZX6:PC :=
 (R [0,3,15] [F 13 0 3,L 14 13,I 15 (.bin .eql (.s 14) (.v (.int .u64 0)))])
def ZX7:PC :=
 (R [4] [K 4 2])
def ZX8:PC :=
 (R [3,5,6] [M 17 0,F 18 0 3,L 19 18,I 20 (C Qc [(.s 17),(.s 19)]),M 16 20,X 21 16 0,X 22 16 1,I 5 (.box (.v ZN)),N 3 5 21,M 6 22])
def ZX9:PC :=
 (R [3,5,6,24] [M 23 6,W 24 .neq 23 0])
def ZYA:PC :=
 (R [4] [M 25 6,M 4 25])
def ZT4:PC :=
 (R [3,5,6,7] [T 27 3 5,I 28 (C YQ [(.s 27)]),M 26 28,X 29 26 0,X 30 26 1,I 7 (.box (.v ZM)),N 3 7 29,M 6 30])
def ZT5:PC :=
 (R [45] [M 31 6,W 32 .neq 31 0,M 33 32,G 34 33 false (.fadr 0 (.s 5)),G 35 33 false (.ld false 1 (.s 34)),G 36 33 false (.fadr 1 (.s 3)),G 37 33 false (.ld false 1 (.s 36)),G 38 33 false (.bin .neq (.s 35) (.s 37)),I 39 (.pick (.s 33) (.v (.bool true)) (.s 38)),M 40 39,G 41 40 false (.ld true 3 (.s 7)),G 42 40 false (.fadr 2 (.s 3)),G 43 40 false (.ld true 3 (.s 42)),G 44 40 false (.eqs true 0 [(0,0),(1,0),(2,0)] (.s 41) (.s 43)),I 45 (.pick (.s 40) (.v (.bool true)) (.s 44))])
def ZT6:PC :=
 (R [4] [K 4 23])
def ZT7:PC :=
 (R [4] [K 4 0])
def ZOY:PF:=⟨false,
 (D ZX1
 (D (D ZX2
 (E 9
 (D ZX3
 .ret)
 .skip))
 (D (D ZX4
 (E 12
 (D ZX5
 .ret)
 .skip))
 (D (D ZX6
 (E 15
 (D ZX7
 .ret)
 .skip))
 (D ZX8
 (D (D ZX9
 (E 24
 (D ZYA
 .ret)
 .skip))
 (D ZT4
 (D (D ZT5
 (E 45
 (D ZT6
 .ret)
 .skip))
 (D ZT7
 .ret))))))))),
 [.s 4]⟩
theorem ZfJ:Zr Proofs.Tryz.prog false ZfI Proofs.Tryz.f116=some ZOY:=by kernel_rfl
def ZHS:List Hint:=[H [0,1],H [4]]
def ZEe:PC :=
 (R [0,1] [I 4 (.mv (.v (.bool false)))])
def ZEf:PC :=
 (R [4] [M 5 0,W 6 .eql 5 0,M 7 6,U 8 7 false 1,G 9 7 false (C ZA8 [(.s 8)]),I 10 (.pick (.s 7) (.v (.bool true)) (.s 9)),M 4 10])
def ZAV:PF:=⟨false,
 (D ZEe
 (D ZEf
 .ret)),
 [.s 4]⟩
theorem ZHT:Zr Proofs.Tryz.prog false ZHS Proofs.Tryz.f120=some ZAV:=by kernel_rfl
def Zbt:List Hint:=[H [0],H [2]]
def ZT8:PC :=
 (R [0] [I 2 (.mv (.v (.bool false)))])
def ZT9:PC :=
 (R [2] [M 3 0,I 4 (.bin .geq (.s 3) (.v (.int .u8 128))),M 5 4,U 6 5 true 0,G 7 5 true (.bin .lss (.s 6) (.v (.int .u8 192))),I 8 (.pick (.s 5) (.s 7) (.v (.bool false))),M 2 8])
def ZMa:PF:=⟨false,
 (D ZT8
 (D ZT9
 .ret)),
 [.s 2]⟩
theorem Zbu:Zr Proofs.Tryz.prog false Zbt Proofs.Tryz.f121=some ZMa:=by kernel_rfl
def ZYB:List Hint:=[H [2,3],H [4]]
def ZQ2:PC :=
 (R [2,3] [I 2 (.box (.s 0)),I 3 (.box (.s 1)),I 4 (.mv (.v .nilfunc))])
def ZQ3:PC :=
 (R [4] [I 5 (.mkf (.func ZEs) [] [(.s 3),(.s 2)]),M 4 5])
def ZKs:PF:=⟨false,
 (D ZQ2
 (D ZQ3
 .ret)),
 [.s 4]⟩
theorem ZYC:Zr Proofs.Tryz.prog false ZYB Proofs.Tryz.f122=some ZKs:=by kernel_rfl
def ZYD:List Hint:=[H [0],H [0,8],H [2,3,4],H [0,5],H [0,5,19],H [2,3,4],H [0,2,5],H [0,2,5,24],H [0,2,5],H [0,2,5,6],H [0,2,5,6,31],H [0,2,5,6,38],H [2,3,4],H [0,2,5,6],H [0,2,5,6],H [2,5,50],H [2,3,4],H [2,3,4]]
def ZQ4:PC :=
 (R [0] [K 2 0,K 3 0,K 4 0])
def ZQ5:PC :=
 (R [0,8] [M 7 0,I 8 (.bin .eql (.s 7) (.v (.str [])))])
def ZQ6:PC :=
 (R [2,3,4] [K 2 0,K 3 0,K 4 3])
def ZQ7:PC :=
 (R [0,5] [M 9 0,I 10 (.ixStr (.s 9) (V 0)),I 11 (C ZAP [(.s 10)]),M 5 11])
def ZQ8:PC :=
 (R [0,5,19] [M 12 5,W 13 .eql 12 0,M 14 13,U 15 14 false 5,U 16 14 false 0,G 17 14 false (.len 0 (.s 16)),G 18 14 false (.bin .gtr (.s 15) (.s 17)),I 19 (.pick (.s 14) (.v (.bool true)) (.s 18))])
def ZQ9:PC :=
 (R [2,3,4] [K 2 0,K 3 0,K 4 11])
def ZRA:PC :=
 (R [0,2,5] [M 20 0,I 21 (.ixStr (.s 20) (V 0)),I 22 (.cint .i64 (.s 21)),M 2 22])
def ZRB:PC :=
 (R [0,2,5,24] [M 23 5,W 24 .gtr 23 1])
def ZRC:PC :=
 (R [0,2,5] [M 25 2,M 26 5,I 27 (.bin .shr (V 127) (.s 26)),B 28 .and 25 27,M 2 28])
def ZRD:PC :=
 (R [0,2,5,6] [K 6 1])
def ZOZ:PC :=
 (R [0,2,5,6,31] [M 29 6,M 30 5,B 31 .lss 29 30])
def ZOa:PC :=
 (R [0,2,5,6,38] [M 34 0,M 35 6,I 36 (.ixStr (.s 34) (.s 35)),I 37 (C Yu [(.s 36)]),I 38 (.un .not (.s 37))])
def ZOb:PC :=
 (R [2,3,4] [K 2 0,K 3 0,K 4 11])
def ZOc:PC :=
 (R [0,2,5,6] [M 39 2,I 40 (.bin .shl (.s 39) (.v (.int .u64 6))),M 41 0,M 42 6,I 43 (.ixStr (.s 41) (.s 42)),I 44 (.bin .and (.s 43) (.v (.int .u8 63))),I 45 (.cint .i64 (.s 44)),B 46 .or 40 45,M 2 46])
def ZOd:PC :=
 (R [0,2,5,6] [M 32 6,W 33 .add 32 1,M 6 33])
def p_runes_Decode_15:PC :=
 (D (D ZOZ
 (E 31
 .skip
 (.exit 0)))
 (D (.block 1
 (D (D ZOa
 (E 38
 (D ZOb
 .ret)
 .skip))
 ZOc))
 ZOd))
def ZOe:PC :=
 (R [2,5,50] [M 47 2,I 48 (C ZDG [(.s 47)]),M 49 5,B 50 .neq 48 49])
def ZOf:PC :=
 (R [2,3,4] [K 2 0,K 3 0,K 4 11])
def ZOg:PC :=
 (R [2,3,4] [M 51 2,M 52 5,M 2 51,M 3 52,K 4 0])
def ZDZ:PF:=⟨false,
 (D ZQ4
 (D (D ZQ5
 (E 8
 (D ZQ6
 .ret)
 .skip))
 (D ZQ7
 (D (D ZQ8
 (E 19
 (D ZQ9
 .ret)
 .skip))
 (D ZRA
 (D (D ZRB
 (E 24
 ZRC
 .skip))
 (D (D ZRD
 (.block 0
 (.loop p_runes_Decode_15)))
 (D (D ZOe
 (E 50
 (D ZOf
 .ret)
 .skip))
 (D ZOg
 .ret))))))))),
 [.s 2,.s 3,.s 4]⟩
theorem ZYE:Zr Proofs.Tryz.prog false ZYD Proofs.Tryz.f123=some ZDZ:=by kernel_rfl
def ZHU:List Hint:=[H []]
def ZEg:PC :=
 (R [] [L 3 1,M 4 0,I 5 (.bslice false 1 [(.int .u8 0)] [(0,(.s 4))]),I 6 (.app 1 1 (.s 3) (.s 5)),N 1 1 6])
def ZAW:PF:=⟨false,
 ZEg,
 []⟩
theorem ZHV:Zr Proofs.Tryz.prog false ZHU Proofs.Tryz.f124=some ZAW:=by kernel_rfl
def ZNL:List Hint:=[H [0],H [0,11],H [2,3,4],H [5],H [2,3,4]]
def ZKt:PC :=
 (R [0] [I 2 (.mv (.v (.str []))),K 3 0,K 4 0])
def ZKu:PC :=
 (R [0,11] [M 6 0,I 7 (.nilck (.s 6)),F 8 6 7,L 9 8,I 10 (.len 1 (.s 9)),W 11 .eql 10 0])
def ZKv:PC :=
 (R [2,3,4] [I 2 (.mv (.v (.str []))),K 3 0,K 4 0])
def ZKw:PC :=
 (R [5] [M 12 0,I 13 (.nilck (.s 12)),F 14 6 13,L 15 14,M 16 0,I 17 (.nilck (.s 16)),F 18 6 17,L 19 18,I 20 (.len 1 (.s 19)),W 21 .sub 20 1,I 22 (.ixS 5 (.s 15) (.s 21)),T 23 5 22,I 5 (.box (.v (.agg [(.int .i64 0),(.str []),.nils,(.int .i64 0),(.int .i64 0)]))),N 5 5 23])
def ZKx:PC :=
 (R [2,3,4] [F 24 0 5,F 25 1 24,L 26 25,F 27 3 5,L 28 27,F 29 4 5,L 30 29,M 2 26,M 3 28,M 4 30])
def ZDa:PF:=⟨false,
 (D ZKt
 (D (D ZKu
 (E 11
 (D ZKv
 .ret)
 .skip))
 (D ZKw
 (D ZKx
 .ret)))),
 [.s 2,.s 3,.s 4]⟩
theorem ZNM:Zr Proofs.Tryz.prog false ZNL Proofs.Tryz.f125=some ZDa:=by kernel_rfl
def ZYF:List Hint:=[H [0,1],H [0,1,21],H [4,5],⟨[0,6],[],[],[],[(1,(.here 1)),(5,(.here 5)),(3,(.here 3))],[3,1,5]⟩,H [0,6,31,32],H [0,6,31,32,33],H [0,6,7,31,32],H [0,6,7,31,32],H [0,6,31,32],H [0,6,31,32],H [4,5]]
def ZRE:PC :=
 (R [0,1] [I 4 (.mv (.v .nilptr)),K 5 0])
def ZRF:PC :=
 (R [0,1,21] [M 8 0,W 9 .lss 8 1,M 10 9,U 11 10 false 0,G 12 10 false (.bin .gtr (.s 11) (V 16384)),I 13 (.pick (.s 10) (.v (.bool true)) (.s 12)),M 14 13,U 15 14 false 1,G 16 14 false (.bin .lss (.s 15) (.v (.int .u64 1))),I 17 (.pick (.s 14) (.v (.bool true)) (.s 16)),M 18 17,U 19 18 false 1,G 20 18 false (.bin .gtr (.s 19) (.v (.int .u64 4294967295))),I 21 (.pick (.s 18) (.v (.bool true)) (.s 20))])
def ZRG:PC :=
 (R [4,5] [I 4 (.mv (.v .nilptr)),K 5 3])
def ZRH:PC :=
 (.regH [3,1,5] [0,6] [M 22 0,I 23 (.w (.here 1) (.mkslice 1 8 (.int .i64 0) (.s 22) (.s 22))),M 24 0,I 25 (.w (.here 3) (.mkslice 1 1 (.int .u8 0) (.s 24) (.s 24))),M 26 0,I 27 (.w (.here 5) (.mkslice 1 8 (.int .u64 0) (.s 26) (.s 26))),M 28 1,I 29 (.build [.nils,.nils,.nils,(.int .u64 0)] [(0,1,(.s 23)),(1,1,(.s 25)),(2,1,(.s 27)),(3,1,(.s 28))]),I 30 (.box (.s 29)),M 6 30])
def ZRI:PC :=
 (R [0,6,31,32] [M 31 0,K 32 0])
def ZRJ:PC :=
 (R [0,6,31,32,33] [B 33 .lss 32 31])
def ZRK:PC :=
 (R [0,6,7,31,32] [M 34 32,M 7 34])
def ZRL:PC :=
 (R [0,6,7,31,32] [M 35 6,I 36 (.nilck (.s 35)),F 37 0 36,L 38 37,M 39 7,M 40 0,W 41 .sub 40 1,M 42 7,B 43 .sub 41 42,I 44 (.ixS 1 (.s 38) (.s 39)),N 1 44 43])
def ZRM:PC :=
 (R [0,6,31,32] [M 45 6,I 46 (.nilck (.s 45)),F 47 2 46,L 48 47,M 49 7,I 50 (.ixS 1 (.s 48) (.s 49)),J (.st 1 (.s 50) (.v (.int .u64 1)))])
def ZRN:PC :=
 (R [0,6,31,32] [W 51 .add 32 1,M 32 51])
def ZOh:PC :=
 (D ZRJ
 (D (E 33
 .skip
 (.exit 0))
 (D (.block 1
 (D ZRK
 (D ZRL
 ZRM)))
 ZRN)))
def ZOi:PC :=
 (R [4,5] [M 52 6,M 4 52,K 5 0])
def ZKy:PF:=⟨true,
 (D ZRE
 (D (D ZRF
 (E 21
 (D ZRG
 .ret)
 .skip))
 (D ZRH
 (D (D ZRI
 (.block 0
 (.loop ZOh)))
 (D ZOi
 .ret))))),
 [.s 4,.s 5]⟩
theorem ZYG:Zr Proofs.Tryz.prog true ZYF Proofs.Tryz.f126=some ZKy:=by kernel_rfl
def ZfK:List Hint:=[H [0,2],H [0,2,14],H [2,3],⟨[0,2,4],[0],[],[],[],[]⟩,H [2,4,17,18,19],H [2,4,17,18,19,20],H [2,4,6,17,18,19],H [2,4,17,18,19],H [2,4,17,18,19],H [2,4,31],H [2,4,7,8],H [2,4,7,8,39],H [2,3],⟨[2,4,7,9],[0],[],[],[],[]⟩,H [2,4,9,42,43,44],H [2,4,9,42,43,44,45],H [2,4,9,11,42,43,44],H [2,4,9,11,42,43,44],H [2,4,9,42,43,44],H [2,4,9,42,43,44],H [2,4],H [2,3]]
def ZYH:PC :=
 (R [0,2] [I 2 (.box (.v ZT)),K 3 0])
def ZYI:PC :=
 (R [0,2,14] [M 12 0,I 13 (.len 0 (.s 12)),W 14 .gtr 13 65536])
def ZYJ:PC :=
 (R [2,3] [I 15 (.build [(.int .u64 0),(.int .i64 0),(.int .i64 0),(.int .i64 0),(.int .i64 0),(.str []),.nils] []),N 7 2 15,K 3 5])
def ZYK:PC :=
 (R [0,2,4] [I 4 (.onil 7)])
def ZYL:PC :=
 (R [2,4,17,18,19] [M 16 0,I 17 (C ZDH [(.s 16)]),I 18 (.len 1 (.s 17)),K 19 0])
def ZYM:PC :=
 (R [2,4,17,18,19,20] [B 20 .lss 19 18])
def ZYN:PC :=
 (R [2,4,6,17,18,19] [I 21 (.ixS 1 (.s 17) (.s 19)),L 22 21,M 6 22])
def ZYO:PC :=
 (R [2,4,17,18,19] [M 23 4,M 24 6,I 25 (.build [(.int .u64 0),(.int .i64 0),(.int .i64 0),(.int .i64 0),(.int .i64 0),(.str []),.nils] [(5,1,(.s 24))]),I 26 (.bslice false 7 [ZT] [(0,(.s 25))]),I 27 (.app 7 80 (.s 23) (.s 26)),M 4 27])
def ZYP:PC :=
 (R [2,4,17,18,19] [W 28 .add 19 1,M 19 28])
def ZYQ:PC :=
 (D ZYM
 (D (E 20
 .skip
 (.exit 0))
 (D (.block 1
 (D ZYN
 ZYO))
 ZYP)))
def ZUA:PC :=
 (R [2,4,31] [M 29 4,I 30 (.len 1 (.s 29)),W 31 .gtr 30 1])
def ZUB:PC :=
 (R [2,4,7,8] [M 33 4,I 34 (.len 1 (.s 33)),I 35 (C ZGA [(.s 34),(V 4)]),M 32 35,X 36 32 0,X 37 32 1,M 7 36,M 8 37])
def ZUC:PC :=
 (R [2,4,7,8,39] [M 38 8,W 39 .neq 38 0])
def ZUD:PC :=
 (R [2,3] [I 40 (.build [(.int .u64 0),(.int .i64 0),(.int .i64 0),(.int .i64 0),(.int .i64 0),(.str []),.nils] []),M 41 8,N 7 2 40,M 3 41])
def ZUE:PC :=
 (R [2,4,7,9] [I 9 (.onil 7)])
def ZUF:PC :=
 (R [2,4,9,42,43,44] [M 42 7,I 43 (.len 1 (.s 42)),K 44 0])
def ZUG:PC :=
 (R [2,4,9,42,43,44,45] [B 45 .lss 44 43])
def ZUH:PC :=
 (R [2,4,9,11,42,43,44] [I 46 (.ixS 1 (.s 42) (.s 44)),L 47 46,M 11 47])
def ZUI:PC :=
 (R [2,4,9,11,42,43,44] [M 48 9,M 49 4,M 50 11,I 51 (.slc 7 (.s 49) none (some (.s 50))),I 52 (C QY [(.s 51)]),I 53 (.bslice false 7 [ZT] [(0,(.s 52))]),I 54 (.app 7 80 (.s 48) (.s 53)),M 9 54])
def ZUJ:PC :=
 (R [2,4,9,42,43,44] [M 55 4,M 56 11,I 57 (.slc 7 (.s 55) (some (.s 56)) none),M 4 57])
def ZUK:PC :=
 (R [2,4,9,42,43,44] [W 58 .add 44 1,M 44 58])
def ZUL:PC :=
 (D ZUG
 (D (E 45
 .skip
 (.exit 4))
 (D (.block 5
 (D ZUH
 (D ZUI
 ZUJ)))
 ZUK)))
def ZUM:PC :=
 (R [2,4] [M 59 9,M 4 59])
def ZIA:PC :=
 (D (D ZUA
 (E 31
 .skip
 (.exit 2)))
 (.block 3
 (D ZUB
 (D (D ZUC
 (E 39
 (D ZUD
 .ret)
 .skip))
 (D ZUE
 (D (D ZUF
 (.block 4
 (.loop ZUL)))
 ZUM))))))
def ZIB:PC :=
 (R [2,3] [M 60 4,I 61 (C QY [(.s 60)]),N 7 2 61,K 3 0])
def ZOj:PF:=⟨false,
 (D ZYH
 (D (D ZYI
 (E 14
 (D ZYJ
 .ret)
 .skip))
 (D ZYK
 (D (D ZYL
 (.block 0
 (.loop ZYQ)))
 (D (.block 2
 (.loop ZIA))
 (D ZIB
 .ret)))))),
 [.c 2 true 7,.s 3]⟩
theorem ZfL:Zr Proofs.Tryz.prog false ZfK Proofs.Tryz.f127=some ZOj:=by kernel_rfl
def ZYR:List Hint:=[H [0,2,3,4,6,10],H [0,2,3,4,6,10,12],H [0,2,3,4,6,10,12,24],H [10,11],H [0,2,3,4,6,10,13],H [0,2,3,4,6,10,13,46],H [10,11],H [0,2,3,4,6,10,60],H [10,11],H [0,2,3,4,6,10,67],H [10,11],H [0,3,4,10,14,15,16],H [0,3,4,10,14,15,16,79],H [10,11],H [0,4,10,14,16,18],H [0,4,10,14,16,18,91],H [10,11],H [0,10,14,16,18,19],H [0,10,14,16,18,19,100],H [10,11],H [0,10,14,16,18],H [0,10,14,16,18,111],H [10,11],H [10,14,16],H [10,11]]
def ZRO:PC :=
 (R [0,2,3,4,6,10] [I 6 (.box (.s 1)),I 10 (.box (.v ZT)),K 11 0])
def ZRP:PC :=
 (R [0,2,3,4,6,10,12] [M 20 0,T 21 7 6,I 22 (C Yf [(.s 20),(.s 21)]),M 12 22])
def ZRQ:PC :=
 (R [0,2,3,4,6,10,12,24] [M 23 12,W 24 .neq 23 0])
def ZRR:PC :=
 (R [10,11] [I 25 (.build [(.int .u64 0),(.int .i64 0),(.int .i64 0),(.int .i64 0),(.int .i64 0),(.str []),.nils] []),M 26 12,N 7 10 25,M 11 26])
def ZRS:PC :=
 (R [0,2,3,4,6,10,13] [T 27 7 6,I 28 (C Q0 [(.s 27)]),M 13 28])
def ZRT:PC :=
 (R [0,2,3,4,6,10,13,46] [M 29 2,W 30 .lss 29 0,M 31 30,U 32 31 false 2,U 33 31 false 13,G 34 31 false (.bin .gtr (.s 32) (.s 33)),I 35 (.pick (.s 31) (.v (.bool true)) (.s 34)),M 36 35,U 37 36 false 3,G 38 36 false (.bin .lss (.s 37) (V 0)),I 39 (.pick (.s 36) (.v (.bool true)) (.s 38)),M 40 39,U 41 40 false 3,U 42 40 false 13,U 43 40 false 2,G 44 40 false (.bin .sub (.s 42) (.s 43)),G 45 40 false (.bin .gtr (.s 41) (.s 44)),I 46 (.pick (.s 40) (.v (.bool true)) (.s 45))])
def ZRU:PC :=
 (R [10,11] [I 47 (.build [(.int .u64 0),(.int .i64 0),(.int .i64 0),(.int .i64 0),(.int .i64 0),(.str []),.nils] []),N 7 10 47,K 11 3])
def ZRV:PC :=
 (R [0,2,3,4,6,10,60] [M 48 13,M 49 3,B 50 .sub 48 49,M 51 4,I 52 (.len 0 (.s 51)),I 53 (.mnx false (.s 52) (V 65536)),I 54 (.bin .sub (V 65536) (.s 53)),B 55 .gtr 50 54,M 56 55,U 57 56 false 4,G 58 56 false (.len 0 (.s 57)),G 59 56 false (.bin .gtr (.s 58) (V 65536)),I 60 (.pick (.s 56) (.v (.bool true)) (.s 59))])
def ZRW:PC :=
 (R [10,11] [I 61 (.build [(.int .u64 0),(.int .i64 0),(.int .i64 0),(.int .i64 0),(.int .i64 0),(.str []),.nils] []),N 7 10 61,K 11 5])
def ZRX:PC :=
 (R [0,2,3,4,6,10,67] [M 62 3,W 63 .eql 62 0,M 64 63,U 65 64 true 4,G 66 64 true (.bin .eql (.s 65) (.v (.str []))),I 67 (.pick (.s 64) (.s 66) (.v (.bool false)))])
def ZOk:PC :=
 (R [10,11] [T 68 7 6,I 69 (C ZDF [(.s 68)]),N 7 10 69,K 11 0])
def ZOl:PC :=
 (R [0,3,4,10,14,15,16] [M 71 0,T 72 7 6,M 73 2,I 74 (C ZAw [(.s 71),(.s 72),(.s 73)]),M 70 74,X 75 70 0,X 76 70 1,X 77 70 2,I 14 (.box (.v ZT)),I 15 (.box (.v ZT)),N 7 14 75,N 7 15 76,M 16 77])
def ZOm:PC :=
 (R [0,3,4,10,14,15,16,79] [M 78 16,W 79 .neq 78 0])
def ZOn:PC :=
 (R [10,11] [I 80 (.build [(.int .u64 0),(.int .i64 0),(.int .i64 0),(.int .i64 0),(.int .i64 0),(.str []),.nils] []),M 81 16,N 7 10 80,M 11 81])
def ZOo:PC :=
 (R [0,4,10,14,16,18] [M 83 0,T 84 7 15,M 85 3,I 86 (C ZAw [(.s 83),(.s 84),(.s 85)]),M 82 86,X 87 82 0,X 88 82 1,X 89 82 2,I 17 (.box (.v ZT)),I 18 (.box (.v ZT)),N 7 17 87,N 7 18 88,M 16 89])
def ZOp:PC :=
 (R [0,4,10,14,16,18,91] [M 90 16,W 91 .neq 90 0])
def ZOq:PC :=
 (R [10,11] [I 92 (.build [(.int .u64 0),(.int .i64 0),(.int .i64 0),(.int .i64 0),(.int .i64 0),(.str []),.nils] []),M 93 16,N 7 10 92,M 11 93])
def ZOr:PC :=
 (R [0,10,14,16,18,19] [M 95 4,I 96 (C ZAO [(.s 95)]),M 94 96,X 97 94 0,X 98 94 1,I 19 (.box (.v ZT)),N 7 19 97,M 16 98])
def ZOs:PC :=
 (R [0,10,14,16,18,19,100] [M 99 16,W 100 .neq 99 0])
def ZOt:PC :=
 (R [10,11] [I 101 (.build [(.int .u64 0),(.int .i64 0),(.int .i64 0),(.int .i64 0),(.int .i64 0),(.str []),.nils] []),M 102 16,N 7 10 101,M 11 102])
def ZOu:PC :=
 (R [0,10,14,16,18] [M 104 0,T 105 7 14,T 106 7 19,I 107 (C Yq [(.s 104),(.s 105),(.s 106)]),M 103 107,X 108 103 0,X 109 103 1,N 7 14 108,M 16 109])
def ZOv:PC :=
 (R [0,10,14,16,18,111] [M 110 16,W 111 .neq 110 0])
def ZOw:PC :=
 (R [10,11] [I 112 (.build [(.int .u64 0),(.int .i64 0),(.int .i64 0),(.int .i64 0),(.int .i64 0),(.str []),.nils] []),M 113 16,N 7 10 112,M 11 113])
def ZOx:PC :=
 (R [10,14,16] [M 115 0,T 116 7 14,T 117 7 18,I 118 (C Yq [(.s 115),(.s 116),(.s 117)]),M 114 118,X 119 114 0,X 120 114 1,N 7 14 119,M 16 120])
def ZOy:PC :=
 (R [10,11] [T 121 7 14,I 122 (C ZDF [(.s 121)]),M 123 16,N 7 10 122,M 11 123])
def ZKz:PF:=⟨false,
 (D ZRO
 (D (D ZRP
 (D ZRQ
 (E 24
 (D ZRR
 .ret)
 .skip)))
 (D ZRS
 (D (D ZRT
 (E 46
 (D ZRU
 .ret)
 .skip))
 (D (D ZRV
 (E 60
 (D ZRW
 .ret)
 .skip))
 (D (D ZRX
 (E 67
 (D ZOk
 .ret)
 .skip))
 (D ZOl
 (D (D ZOm
 (E 79
 (D ZOn
 .ret)
 .skip))
 (D ZOo
 (D (D ZOp
 (E 91
 (D ZOq
 .ret)
 .skip))
 (D ZOr
 (D (D ZOs
 (E 100
 (D ZOt
 .ret)
 .skip))
 (D (D ZOu
 (D ZOv
 (E 111
 (D ZOw
 .ret)
 .skip)))
 (D ZOx
 (D ZOy
 .ret))))))))))))))),
 [.c 10 true 7,.s 11]⟩
theorem ZYS:Zr Proofs.Tryz.prog false ZYR Proofs.Tryz.f134=some ZKz:=by kernel_rfl
def ZfM:List Hint:=[H [0,3],H [0,3,7],H [4],H [0,3,10],H [4],H [3,5],H [3,5,15],H [4],H [19],H [4],H [4]]
def ZYT:PC :=
 (R [0,3] [I 3 (.box (.s 1)),K 4 0])
def ZYU:PC :=
 (R [0,3,7] [M 6 0,I 7 (.eqs false 3 [] (.s 6) (.v .nilptr))])
def ZYV:PC :=
 (R [4] [K 4 1])
def ZYW:PC :=
 (R [0,3,10] [T 8 7 3,I 9 (C Qu [(.s 8)]),W 10 .eql 9 1])
def ZYX:PC :=
 (R [4] [K 4 0])
def ZYY:PC :=
 (R [3,5] [M 11 0,T 12 7 3,I 13 (C ZCZ [(.s 11),(.s 12),(.v (.bool false)),(V 0)]),M 5 13])
def ZYZ:PC :=
 (R [3,5,15] [M 14 5,W 15 .neq 14 0])
def ZYa:PC :=
 (R [4] [M 16 5,M 4 16])
def ZYb:PC :=
 (R [19] [T 17 7 3,I 18 (C Q0 [(.s 17)]),W 19 .gtr 18 65536])
def ZYc:PC :=
 (R [4] [K 4 5])
def ZUN:PC :=
 (R [4] [K 4 0])
def ZOz:PF:=⟨false,
 (D ZYT
 (D (D ZYU
 (E 7
 (D ZYV
 .ret)
 .skip))
 (D (D ZYW
 (E 10
 (D ZYX
 .ret)
 .skip))
 (D (D ZYY
 (D ZYZ
 (E 15
 (D ZYa
 .ret)
 .skip)))
 (D (D ZYb
 (E 19
 (D ZYc
 .ret)
 .skip))
 (D ZUN
 .ret)))))),
 [.s 4]⟩
theorem ZfN:Zr Proofs.Tryz.prog false ZfM Proofs.Tryz.f135=some ZOz:=by kernel_rfl
def Zbv:List Hint:=[H [1,2,3,4],H [1,2,3,4,15],H [2,6,7],H [7],H [5],H [3,8,9],H [3,8,9,33],H [5],H [3,35,36,37],H [3,35,36,37,38],H [3,11,35,36,37],H [3,12,35,36,37],H [3,12,35,36,37,45],H [5],H [3,35,36,37],H [5]]
def ZUO:PC :=
 (R [1,2,3,4] [I 4 (.box (.s 0)),K 5 0])
def ZUP:PC :=
 (R [1,2,3,4,15] [F 13 1 4,L 14 13,W 15 .eql 14 0])
def ZUQ:PC :=
 (R [2,6,7] [L 17 1,T 18 7 4,I 19 (C ZAB [(.s 17),(.s 18)]),M 16 19,X 20 16 0,X 21 16 1,M 6 20,M 7 21])
def ZUR:PC :=
 (R [7] [L 22 2,M 23 6,I 24 (.app 1 1 (.s 22) (.s 23)),N 1 2 24])
def ZUS:PC :=
 (R [5] [M 25 7,M 5 25])
def ZUT:PC :=
 (R [3,8,9] [L 27 1,T 28 7 4,I 29 (C J8 [(.s 27),(.s 28)]),M 26 29,X 30 26 0,X 31 26 1,M 8 30,M 9 31])
def ZUU:PC :=
 (R [3,8,9,33] [M 32 9,W 33 .neq 32 0])
def ZUV:PC :=
 (R [5] [M 34 9,M 5 34])
def ZUW:PC :=
 (R [3,35,36,37] [M 35 8,I 36 (.len 1 (.s 35)),K 37 0])
def ZUX:PC :=
 (R [3,35,36,37,38] [B 38 .lss 37 36])
def ZRY:PC :=
 (R [3,11,35,36,37] [I 39 (.ixS 7 (.s 35) (.s 37)),T 40 7 39,I 11 (.box (.v ZT)),N 7 11 40])
def ZRZ:PC :=
 (R [3,12,35,36,37] [L 41 3,T 42 7 11,I 43 (.call .norm (.s 41) [(.s 42)]),M 12 43])
def ZRa:PC :=
 (R [3,12,35,36,37,45] [M 44 12,W 45 .neq 44 0])
def ZRb:PC :=
 (R [5] [M 46 12,M 5 46])
def ZRc:PC :=
 (R [3,35,36,37] [W 47 .add 37 1,M 37 47])
def ZRd:PC :=
 (D ZUX
 (D (E 38
 .skip
 (.exit 0))
 (D (.block 1
 (D ZRY
 (D ZRZ
 (D ZRa
 (E 45
 (D ZRb
 .ret)
 .skip)))))
 ZRc)))
def ZRe:PC :=
 (R [5] [K 5 0])
def ZMb:PF:=⟨false,
 (D ZUO
 (D (D ZUP
 (E 15
 (D ZUQ
 (D ZUR
 (D ZUS
 .ret)))
 .skip))
 (D ZUT
 (D (D ZUU
 (E 33
 (D ZUV
 .ret)
 .skip))
 (D (D ZUW
 (.block 0
 (.loop ZRd)))
 (D ZRe
 .ret)))))),
 [.s 5]⟩
theorem Zbw:Zr Proofs.Tryz.prog false Zbv Proofs.Tryz.f136=some ZMb:=by kernel_rfl
def Zhe:List Hint:=[H [0,3],H [0,3,10],H [4,5],H [6,7],H [4,5]]
def Zbx:PC :=
 (R [0,3] [I 3 (.box (.s 1)),I 4 (.mv (.v (.str []))),K 5 0])
def Zby:PC :=
 (R [0,3,10] [F 8 0 3,L 9 8,I 10 (.bin .eql (.s 9) (.v (.int .u64 0)))])
def Zbz:PC :=
 (R [4,5] [F 11 5 3,L 12 11,M 4 12,K 5 0])
def Zb0:PC :=
 (R [6,7] [M 14 0,F 15 0 3,L 16 15,I 17 (C Qc [(.s 14),(.s 16)]),M 13 17,X 18 13 0,X 19 13 1,I 6 (.box (.v ZN)),N 3 6 18,M 7 19])
def Zb1:PC :=
 (R [4,5] [F 20 1 6,L 21 20,M 22 7,M 4 21,M 5 22])
def ZTZ:PF:=⟨false,
 (D Zbx
 (D (D Zby
 (E 10
 (D Zbz
 .ret)
 .skip))
 (D Zb0
 (D Zb1
 .ret)))),
 [.s 4,.s 5]⟩
theorem Zhf:Zr Proofs.Tryz.prog false Zhe Proofs.Tryz.f137=some ZTZ:=by kernel_rfl
def ZUY:List Hint:=[H [0,3],H [0,3,13],H [4,5],H [6,7],H [6,7,24],H [4,5],⟨[6,8],[0],[],[],[],[]⟩,H [6,8,27,28,29],H [6,8,27,28,29,30],H [6,8,10,27,28,29],H [6,8,27,28,29],H [6,8,27,28,29],H [8,47],H [4,5],H [4,5]]
def ZO0:PC :=
 (R [0,3] [I 3 (.box (.s 1)),I 4 (.mv (.v .nils)),K 5 0])
def ZO1:PC :=
 (R [0,3,13] [F 11 0 3,L 12 11,I 13 (.bin .eql (.s 12) (.v (.int .u64 0)))])
def ZO2:PC :=
 (R [4,5] [F 14 6 3,L 15 14,M 4 15,K 5 0])
def ZO3:PC :=
 (R [6,7] [M 17 0,F 18 0 3,L 19 18,I 20 (C Qc [(.s 17),(.s 19)]),M 16 20,X 21 16 0,X 22 16 1,I 6 (.box (.v ZN)),N 3 6 21,M 7 22])
def ZO4:PC :=
 (R [6,7,24] [M 23 7,W 24 .neq 23 0])
def ZO5:PC :=
 (R [4,5] [M 25 7,I 4 (.mv (.v .nils)),M 5 25])
def ZO6:PC :=
 (R [6,8] [I 8 (.onil 7)])
def ZO7:PC :=
 (R [6,8,27,28,29] [F 26 2 6,L 27 26,I 28 (.len 1 (.s 27)),K 29 0])
def ZO8:PC :=
 (R [6,8,27,28,29,30] [B 30 .lss 29 28])
def ZO9:PC :=
 (R [6,8,10,27,28,29] [I 31 (.ixS 4 (.s 27) (.s 29)),T 32 4 31,I 10 (.box (.v ZK)),N 4 10 32])
def ZNN:PC :=
 (R [6,8,27,28,29] [M 33 8,F 34 0 10,L 35 34,F 36 0 6,L 37 36,W 38 .sub 37 1,F 39 1 10,T 40 3 39,I 41 (.build [(.int .u64 0),(.int .i64 0),(.int .i64 0),(.int .i64 0),(.int .i64 0),(.str []),.nils] [(0,1,(.s 35)),(1,1,(.s 38)),(2,3,(.s 40))]),I 42 (.bslice false 7 [ZT] [(0,(.s 41))]),I 43 (.app 7 80 (.s 33) (.s 42)),M 8 43])
def ZNO:PC :=
 (R [6,8,27,28,29] [W 44 .add 29 1,M 29 44])
def ZDb:PC :=
 (D ZO8
 (D (E 30
 .skip
 (.exit 0))
 (D (.block 1
 (D ZO9
 ZNN))
 ZNO)))
def ZNP:PC :=
 (R [8,47] [M 45 8,I 46 (.len 1 (.s 45)),W 47 .eql 46 0])
def ZNQ:PC :=
 (R [4,5] [I 4 (.mv (.v .nils)),K 5 23])
def ZNR:PC :=
 (R [4,5] [M 48 8,M 4 48,K 5 0])
def ZIC:PF:=⟨false,
 (D ZO0
 (D (D ZO1
 (E 13
 (D ZO2
 .ret)
 .skip))
 (D ZO3
 (D (D ZO4
 (E 24
 (D ZO5
 .ret)
 .skip))
 (D ZO6
 (D (D ZO7
 (.block 0
 (.loop ZDb)))
 (D (D ZNP
 (E 47
 (D ZNQ
 .ret)
 .skip))
 (D ZNR
 .ret)))))))),
 [.s 4,.s 5]⟩
theorem ZUZ:Zr Proofs.Tryz.prog false ZUY Proofs.Tryz.f138=some ZIC:=by kernel_rfl
def Zhg:List Hint:=[H [1],H [1,3],H [1,3,13],H [2],H [1,3,31],H [2],H [1,3,46],H [2],H [65],H [2],H [2]]
def Zb2:PC :=
 (R [1] [I 1 (.box (.s 0)),K 2 0])
def Zb3:PC :=
 (R [1,3] [F 4 2 1,T 5 3 4,I 6 (.build [(.int .i64 0),(.int .i64 0),(.int .i64 0)] []),I 7 (.eqs false 0 [(0,0),(1,0),(2,0)] (.s 5) (.s 6)),M 8 7,G 9 8 true (.fadr 0 (.s 1)),G 10 8 true (.ld false 1 (.s 9)),G 11 8 true (.bin .eql (.s 10) (.v (.int .u64 0))),I 12 (.pick (.s 8) (.s 11) (.v (.bool false))),M 3 12])
def Zb4:PC :=
 (R [1,3,13] [M 14 3,M 15 14,G 16 15 true (.fadr 1 (.s 1)),G 17 15 true (.ld false 1 (.s 16)),G 18 15 true (.bin .eql (.s 17) (V 0)),I 19 (.pick (.s 15) (.s 18) (.v (.bool false))),M 20 19,G 21 20 true (.fadr 5 (.s 1)),G 22 20 true (.ld false 1 (.s 21)),G 23 20 true (.bin .eql (.s 22) (.v (.str []))),I 24 (.pick (.s 20) (.s 23) (.v (.bool false))),M 25 24,G 26 25 true (.fadr 6 (.s 1)),G 27 25 true (.ld false 1 (.s 26)),G 28 25 true (.len 1 (.s 27)),G 29 25 true (.bin .eql (.s 28) (V 0)),I 30 (.pick (.s 25) (.s 29) (.v (.bool false))),M 13 30])
def Zb5:PC :=
 (R [2] [K 2 1])
def Zb6:PC :=
 (R [1,3,31] [F 32 0 1,L 33 32,I 34 (.bin .neq (.s 33) (.v (.int .u64 0))),M 35 34,G 36 35 true (.fadr 5 (.s 1)),G 37 35 true (.ld false 1 (.s 36)),G 38 35 true (.bin .eql (.s 37) (.v (.str []))),I 39 (.pick (.s 35) (.s 38) (.v (.bool false))),M 40 39,G 41 40 true (.fadr 6 (.s 1)),G 42 40 true (.ld false 1 (.s 41)),G 43 40 true (.len 1 (.s 42)),G 44 40 true (.bin .eql (.s 43) (V 0)),I 45 (.pick (.s 40) (.s 44) (.v (.bool false))),M 31 45])
def Zb7:PC :=
 (R [2] [K 2 2])
def Zb8:PC :=
 (R [1,3,46] [M 47 3,M 48 47,G 49 48 true (.fadr 1 (.s 1)),G 50 48 true (.ld false 1 (.s 49)),G 51 48 true (.bin .eql (.s 50) (V 0)),I 52 (.pick (.s 48) (.s 51) (.v (.bool false))),M 53 52,G 54 53 true (.fadr 6 (.s 1)),G 55 53 true (.ld false 1 (.s 54)),G 56 53 true (.len 1 (.s 55)),G 57 53 true (.bin .eql (.s 56) (V 0)),I 58 (.pick (.s 53) (.s 57) (.v (.bool false))),M 59 58,G 60 59 true (.fadr 5 (.s 1)),G 61 59 true (.ld false 1 (.s 60)),G 62 59 true (.len 0 (.s 61)),G 63 59 true (.bin .leq (.s 62) (V 16)),I 64 (.pick (.s 59) (.s 63) (.v (.bool false))),M 46 64])
def Zb9:PC :=
 (R [2] [K 2 3])
def ZcA:PC :=
 (R [65] [M 66 3,M 67 66,G 68 67 true (.fadr 5 (.s 1)),G 69 67 true (.ld false 1 (.s 68)),G 70 67 true (.bin .eql (.s 69) (.v (.str []))),I 71 (.pick (.s 67) (.s 70) (.v (.bool false))),M 72 71,G 73 72 true (.fadr 1 (.s 1)),G 74 72 true (.ld false 1 (.s 73)),G 75 72 true (.bin .geq (.s 74) (V 1)),I 76 (.pick (.s 72) (.s 75) (.v (.bool false))),M 77 76,G 78 77 true (.fadr 1 (.s 1)),G 79 77 true (.ld false 1 (.s 78)),G 80 77 true (.bin .leq (.s 79) (V 16)),I 81 (.pick (.s 77) (.s 80) (.v (.bool false))),M 82 81,G 83 82 true (.fadr 6 (.s 1)),G 84 82 true (.ld false 1 (.s 83)),G 85 82 true (.len 1 (.s 84)),G 86 82 true (.bin .geq (.s 85) (V 2)),I 87 (.pick (.s 82) (.s 86) (.v (.bool false))),M 88 87,G 89 88 true (.fadr 6 (.s 1)),G 90 88 true (.ld false 1 (.s 89)),G 91 88 true (.len 1 (.s 90)),G 92 88 true (.bin .leq (.s 91) (V 4)),I 93 (.pick (.s 88) (.s 92) (.v (.bool false))),M 65 93])
def ZcB:PC :=
 (R [2] [K 2 4])
def ZYd:PC :=
 (R [2] [K 2 0])
def ZTa:PF:=⟨false,
 (D Zb2
 (D Zb3
 (D (.block 0
 (D Zb4
 (E 13
 (D Zb5
 .ret)
 (D Zb6
 (E 31
 (D Zb7
 .ret)
 (D Zb8
 (E 46
 (D Zb9
 .ret)
 (D ZcA
 (E 65
 (D ZcB
 .ret)
 .skip)))))))))
 (D ZYd
 .ret)))),
 [.s 2]⟩
theorem Zhh:Zr Proofs.Tryz.prog false Zhg Proofs.Tryz.f139=some ZTa:=by kernel_rfl
def ZfO:List Hint:=[H [0,3],H [0,3,6],H [0,3,6,12],H [4,5],H [0,3,19],H [4,5],H [3,7],H [7],H [4,5]]
def ZYe:PC :=
 (R [0,3] [I 3 (.box (.s 1)),I 4 (.mv (.v .nilptr)),K 5 0])
def ZYf:PC :=
 (R [0,3,6] [M 8 0,T 9 7 3,I 10 (C Yf [(.s 8),(.s 9)]),M 6 10])
def ZYg:PC :=
 (R [0,3,6,12] [M 11 6,W 12 .neq 11 0])
def ZYh:PC :=
 (R [4,5] [M 13 6,I 4 (.mv (.v .nilptr)),M 5 13])
def ZYi:PC :=
 (R [0,3,19] [T 14 7 3,I 15 (C ZAx [(.s 14)]),M 16 0,I 17 (C XZ [(.s 16)]),I 18 (.fld false 1 1 (.s 17)),B 19 .gtr 15 18])
def ZYj:PC :=
 (R [4,5] [I 4 (.mv (.v .nilptr)),K 5 6])
def ZYk:PC :=
 (R [3,7] [M 20 0,I 21 (.build [.nilptr,.nils,.nilptr] [(0,1,(.s 20))]),I 22 (.box (.s 21)),M 7 22])
def ZYl:PC :=
 (R [7] [M 23 7,M 24 7,T 25 7 3,I 26 (C Qy [(.s 24),(.s 25)]),I 27 (.nilck (.s 23)),F 28 2 27,N 1 28 26])
def ZYm:PC :=
 (R [4,5] [M 29 7,M 4 29,K 5 0])
def ZPA:PF:=⟨true,
 (D ZYe
 (D (D ZYf
 (D ZYg
 (E 12
 (D ZYh
 .ret)
 .skip)))
 (D (D ZYi
 (E 19
 (D ZYj
 .ret)
 .skip))
 (D ZYk
 (D ZYl
 (D ZYm
 .ret)))))),
 [.s 4,.s 5]⟩
theorem ZfP:Zr Proofs.Tryz.prog true ZfO Proofs.Tryz.f140=some ZPA:=by kernel_rfl
def ZUa:List Hint:=[H [0],H [0,6],H [2,3,4],H [0,12],H [2,3,4],H [0,2,4],H [0,2,4,24],H [2,3,4],H [0,2],H [2,3,4]]
def ZPB:PC :=
 (R [0] [I 2 (.mv (.v (.int .u64 0))),I 3 (.mv (.v (.bool false))),K 4 0])
def ZPC:PC :=
 (R [0,6] [M 5 0,I 6 (.eqs false 3 [] (.s 5) (.v .nilptr))])
def ZPD:PC :=
 (R [2,3,4] [I 2 (.mv (.v (.int .u64 0))),I 3 (.mv (.v (.bool false))),K 4 1])
def ZPE:PC :=
 (R [0,12] [M 7 0,I 8 (.nilck (.s 7)),F 9 1 8,L 10 9,I 11 (.len 1 (.s 10)),W 12 .eql 11 0])
def ZPF:PC :=
 (R [2,3,4] [I 2 (.mv (.v (.int .u64 0))),I 3 (.mv (.v (.bool true))),K 4 0])
def ZPG:PC :=
 (R [0,2,4] [M 14 0,I 15 (.nilck (.s 14)),F 16 1 15,L 17 16,I 18 (.ixS 1 (.s 17) (V 0)),L 19 18,I 20 (.call .norm (.s 19) []),M 13 20,X 21 13 0,X 22 13 1,M 2 21,M 4 22])
def ZPH:PC :=
 (R [0,2,4,24] [M 23 4,W 24 .neq 23 0])
def ZPI:PC :=
 (R [2,3,4] [M 25 4,I 2 (.mv (.v (.int .u64 0))),I 3 (.mv (.v (.bool false))),M 4 25])
def ZPJ:PC :=
 (R [0,2] [M 26 0,M 27 0,I 28 (.nilck (.s 27)),F 29 1 28,L 30 29,I 31 (.slc 1 (.s 30) (some (V 1)) none),I 32 (.nilck (.s 26)),F 33 1 32,N 1 33 31])
def ZPK:PC :=
 (R [2,3,4] [M 34 2,M 35 0,I 36 (.nilck (.s 35)),F 37 1 36,L 38 37,I 39 (.len 1 (.s 38)),W 40 .eql 39 0,M 2 34,M 3 40,K 4 0])
def ZID:PF:=⟨false,
 (D ZPB
 (D (D ZPC
 (E 6
 (D ZPD
 .ret)
 .skip))
 (D (D ZPE
 (E 12
 (D ZPF
 .ret)
 .skip))
 (D ZPG
 (D (D ZPH
 (E 24
 (D ZPI
 .ret)
 .skip))
 (D ZPJ
 (D ZPK
 .ret))))))),
 [.s 2,.s 3,.s 4]⟩
theorem ZUb:Zr Proofs.Tryz.prog false ZUa Proofs.Tryz.f141=some ZID:=by kernel_rfl
def ZUc:List Hint:=[H [0,2],H [0,2,5],H [2,3],H [0,2,12],H [2,3],H [2,3]]
def ZPL:PC :=
 (R [0,2] [I 2 (.box (.v ZR)),K 3 0])
def ZPM:PC :=
 (R [0,2,5] [M 4 0,I 5 (.eqs false 3 [] (.s 4) (.v .nilptr))])
def ZPN:PC :=
 (R [2,3] [I 6 (.build [(.int .u64 0),(.int .i64 0),(.int .i64 0),(.int .i64 0),(.int .i64 0)] []),N 5 2 6,K 3 1])
def ZPO:PC :=
 (R [0,2,12] [M 7 0,I 8 (.nilck (.s 7)),F 9 1 8,L 10 9,I 11 (.len 1 (.s 10)),W 12 .gtr 11 0])
def ZPP:PC :=
 (R [2,3] [I 13 (.build [(.int .u64 0),(.int .i64 0),(.int .i64 0),(.int .i64 0),(.int .i64 0)] []),N 5 2 13,K 3 8])
def ZPQ:PC :=
 (R [2,3] [M 14 0,I 15 (.nilck (.s 14)),F 16 2 15,L 17 16,I 18 (.nilck (.s 17)),T 19 5 18,N 5 2 19,K 3 0])
def ZIE:PF:=⟨false,
 (D ZPL
 (D (D ZPM
 (E 5
 (D ZPN
 .ret)
 .skip))
 (D (D ZPO
 (E 12
 (D ZPP
 .ret)
 .skip))
 (D ZPQ
 .ret)))),
 [.c 2 true 5,.s 3]⟩
theorem ZUd:Zr Proofs.Tryz.prog false ZUc Proofs.Tryz.f142=some ZIE:=by kernel_rfl
def Zhi:List Hint:=[H [0,2,4],H [0,2,4,10],H [0,2,4,10,16],H [6,7,8,9],H [0,2,4,26],H [6,7,8,9],H [9,11],H [6,7,8,9]]
def ZcC:PC :=
 (R [0,2,4] [I 4 (.box (.s 1)),I 6 (.mv (.v (.str []))),K 7 0,I 8 (.mv (.v .nils)),K 9 0])
def ZcD:PC :=
 (R [0,2,4,10] [M 12 0,T 13 5 4,I 14 (C ZCX [(.s 12),(.s 13)]),M 10 14])
def ZcE:PC :=
 (R [0,2,4,10,16] [M 15 10,W 16 .neq 15 0])
def ZcF:PC :=
 (R [6,7,8,9] [M 17 10,I 6 (.mv (.v (.str []))),K 7 0,I 8 (.mv (.v .nils)),M 9 17])
def ZcG:PC :=
 (R [0,2,4,26] [M 18 2,W 19 .lss 18 0,M 20 19,U 21 20 false 2,G 22 20 false (.fadr 2 (.s 4)),G 23 20 false (.fadr 0 (.s 22)),G 24 20 false (.ld false 1 (.s 23)),G 25 20 false (.bin .geq (.s 21) (.s 24)),I 26 (.pick (.s 20) (.v (.bool true)) (.s 25))])
def ZcH:PC :=
 (R [6,7,8,9] [I 6 (.mv (.v (.str []))),K 7 0,I 8 (.mv (.v .nils)),K 9 3])
def ZcI:PC :=
 (R [9,11] [M 28 0,T 29 5 4,M 30 2,I 31 (C ZJs [(.s 28),(.s 29),(.s 30),(.v (.func (.func ZCY) [] [])),(.v (.func (.func ZA9) [] []))]),M 27 31,X 32 27 0,X 33 27 1,I 11 (.box (.v (.agg [(.str []),(.int .i64 0),.nils]))),N 3 11 32,M 9 33])
def ZcJ:PC :=
 (R [6,7,8,9] [F 34 0 11,L 35 34,F 36 1 11,L 37 36,F 38 2 11,L 39 38,M 40 9,M 6 35,M 7 37,M 8 39,M 9 40])
def ZTb:PF:=⟨false,
 (D ZcC
 (D (D ZcD
 (D ZcE
 (E 16
 (D ZcF
 .ret)
 .skip)))
 (D (D ZcG
 (E 26
 (D ZcH
 .ret)
 .skip))
 (D ZcI
 (D ZcJ
 .ret))))),
 [.s 6,.s 7,.s 8,.s 9]⟩
theorem Zhj:Zr Proofs.Tryz.prog false Zhi Proofs.Tryz.f144=some ZTb:=by kernel_rfl
def Zhk:List Hint:=[H [0,1,2,7],H [2,7,9,10],H [2,7,9,10,19],H [8],H [2,7,9,10,11],H [38],H [8],H [8]]
def ZcK:PC :=
 (R [0,1,2,7] [I 7 (.box (.s 3)),K 8 0])
def ZcL:PC :=
 (R [2,7,9,10] [M 13 0,M 14 1,I 15 (C Qc [(.s 13),(.s 14)]),M 12 15,X 16 12 0,X 17 12 1,I 9 (.box (.v ZN)),N 3 9 16,M 10 17])
def ZcM:PC :=
 (R [2,7,9,10,19] [M 18 10,W 19 .neq 18 0])
def ZcN:PC :=
 (R [8] [M 20 10,M 8 20])
def ZcO:PC :=
 (R [2,7,9,10,11] [T 22 3 9,I 23 (C YQ [(.s 22)]),M 21 23,X 24 21 0,X 25 21 1,I 11 (.box (.v ZM)),N 3 11 24,M 10 25])
def ZcP:PC :=
 (R [38] [M 26 10,W 27 .neq 26 0,M 28 27,G 29 28 false (.fadr 0 (.s 9)),G 30 28 false (.ld false 1 (.s 29)),U 31 28 false 2,G 32 28 false (.bin .neq (.s 30) (.s 31)),I 33 (.pick (.s 28) (.v (.bool true)) (.s 32)),M 34 33,G 35 34 false (.ld true 3 (.s 11)),G 36 34 false (.ld true 3 (.s 7)),G 37 34 false (.eqs true 0 [(0,0),(1,0),(2,0)] (.s 35) (.s 36)),I 38 (.pick (.s 34) (.v (.bool true)) (.s 37))])
def ZcQ:PC :=
 (R [8] [K 8 23])
def ZcR:PC :=
 (R [8] [K 8 0])
def ZTc:PF:=⟨false,
 (D ZcK
 (D ZcL
 (D (D ZcM
 (E 19
 (D ZcN
 .ret)
 .skip))
 (D ZcO
 (D (D ZcP
 (E 38
 (D ZcQ
 .ret)
 .skip))
 (D ZcR
 .ret)))))),
 [.s 8]⟩
theorem Zhl:Zr Proofs.Tryz.prog false Zhk Proofs.Tryz.f149=some ZTc:=by kernel_rfl
def ZfQ:List Hint:=[H [1],H [1,3],H [3,14,15,16],H [3,14,15,16,17],H [3,5,14,15,16],H [3,14,15,16],H [3,14,15,16],H [2]]
def ZYn:PC :=
 (R [1] [I 1 (.box (.s 0)),K 2 0])
def ZYo:PC :=
 (R [1,3] [F 6 2 1,F 7 0 6,L 8 7,F 9 5 1,L 10 9,I 11 (.len 0 (.s 10)),B 12 .add 8 11,M 3 12])
def ZYp:PC :=
 (R [3,14,15,16] [F 13 6 1,L 14 13,I 15 (.len 1 (.s 14)),K 16 0])
def ZYq:PC :=
 (R [3,14,15,16,17] [B 17 .lss 16 15])
def ZYr:PC :=
 (R [3,5,14,15,16] [I 18 (.ixS 7 (.s 14) (.s 16)),T 19 7 18,I 5 (.box (.v ZT)),N 7 5 19])
def ZYs:PC :=
 (R [3,14,15,16] [M 20 3,T 21 7 5,I 22 (C Q0 [(.s 21)]),B 23 .add 20 22,M 3 23])
def ZYt:PC :=
 (R [3,14,15,16] [W 24 .add 16 1,M 16 24])
def ZYu:PC :=
 (D ZYq
 (D (E 17
 .skip
 (.exit 0))
 (D (.block 1
 (D ZYr
 ZYs))
 ZYt)))
def ZYv:PC :=
 (R [2] [M 25 3,M 2 25])
def ZPR:PF:=⟨false,
 (D ZYn
 (D ZYo
 (D (D ZYp
 (.block 0
 (.loop ZYu)))
 (D ZYv
 .ret)))),
 [.s 2]⟩
theorem ZfR:Zr Proofs.Tryz.prog false ZfQ Proofs.Tryz.f157=some ZPR:=by kernel_rfl
def ZjS:List Hint:=[H [0,2,4,6,7],H [0,2,4,6,7,18],⟨[6,7,8],[],[],[],[(1,(.hide [(.s 6)])),(2,(.plain (.s 6)))],[]⟩,H [0,2,4,6,7,24],H [6,7,8],H [0,2,4,6,7,29],H [2,6,7,9,10],H [2,6,7,9,10,37],H [6,7,8],H [6,7,10,11,12],H [6,7,8],H [0,2,6,7,8,13],H [0,2,6,7,8,13,60],H [6,7,8],H [0,2,6,7,13,14],H [0,2,6,7,13,14,77],H [0,2,6,7,13,14],H [0,2,6,7,13,14],H [0,2,6,7,13,14,88],⟨[6,7,8],[],[(3,.pure)],[],[],[]⟩,H [0,6,7,8,13,14,15,16],H [0,6,7,8,13,14,15,16,109],H [6,7,8],⟨[0,6,7,8,13,14,16],[],[(4,.pure)],[],[],[]⟩,H [0,6,7,8,13,14,16,124],H [6,7,8],⟨[6,7,8],[],[(6,.pure)],[],[],[]⟩,H [6,7,8,140],H [6,7,8],⟨[6,7,8],[],[],[],[(1,(.hide [(.s 6)])),(2,(.plain (.s 6)))],[]⟩]
def ZfS:PC :=
 (R [0,2,4,6,7] [I 4 (.box (.s 1)),I 6 (.box (.v ZT)),I 7 (.box (.v ZT)),K 8 0])
def ZfT:PC :=
 (R [0,2,4,6,7,18] [M 17 2,W 18 .eql 17 0])
def ZfU:PC :=
 (R [6,7,8] [I 19 (.build [(.int .u64 0),(.int .i64 0),(.int .i64 0),(.int .i64 0),(.int .i64 0),(.str []),.nils] []),I 20 (.w (.hide [(.s 6)]) (.ld true 7 (.s 4))),J (.w (.plain (.s 6)) (.st 7 (.s 6) (.s 19))),N 7 7 20,K 8 0])
def ZfV:PC :=
 (R [0,2,4,6,7,24] [M 21 2,T 22 7 4,I 23 (C Q0 [(.s 22)]),B 24 .eql 21 23])
def ZfW:PC :=
 (R [6,7,8] [T 25 7 4,I 26 (.build [(.int .u64 0),(.int .i64 0),(.int .i64 0),(.int .i64 0),(.int .i64 0),(.str []),.nils] []),N 7 6 25,N 7 7 26,K 8 0])
def ZfX:PC :=
 (R [0,2,4,6,7,29] [F 27 1 4,L 28 27,W 29 .eql 28 0])
def ZfY:PC :=
 (R [2,6,7,9,10] [M 31 0,T 32 7 4,I 33 (C ZAB [(.s 31),(.s 32)]),M 30 33,X 34 30 0,X 35 30 1,M 9 34,M 10 35])
def ZfZ:PC :=
 (R [2,6,7,9,10,37] [M 36 10,W 37 .neq 36 0])
def Zfa:PC :=
 (R [6,7,8] [I 38 (.build [(.int .u64 0),(.int .i64 0),(.int .i64 0),(.int .i64 0),(.int .i64 0),(.str []),.nils] []),I 39 (.build [(.int .u64 0),(.int .i64 0),(.int .i64 0),(.int .i64 0),(.int .i64 0),(.str []),.nils] []),M 40 10,N 7 6 38,N 7 7 39,M 8 40])
def Zfb:PC :=
 (R [6,7,10,11,12] [M 42 9,M 43 2,I 44 (C ZJt [(.s 42),(.s 43)]),M 41 44,X 45 41 0,X 46 41 1,X 47 41 2,M 11 45,M 12 46,M 10 47])
def ZcS:PC :=
 (R [6,7,8] [M 48 11,I 49 (.build [(.int .u64 0),(.int .i64 0),(.int .i64 0),(.int .i64 0),(.int .i64 0),(.str []),.nils] [(5,1,(.s 48))]),M 50 12,I 51 (.build [(.int .u64 0),(.int .i64 0),(.int .i64 0),(.int .i64 0),(.int .i64 0),(.str []),.nils] [(5,1,(.s 50))]),M 52 10,N 7 6 49,N 7 7 51,M 8 52])
def ZcT:PC :=
 (R [0,2,6,7,8,13] [M 54 0,T 55 7 4,I 56 (C J8 [(.s 54),(.s 55)]),M 53 56,X 57 53 0,X 58 53 1,M 13 57,M 8 58])
def ZcU:PC :=
 (R [0,2,6,7,8,13,60] [M 59 8,W 60 .neq 59 0])
def ZcV:PC :=
 (R [6,7,8] [I 61 (.build [(.int .u64 0),(.int .i64 0),(.int .i64 0),(.int .i64 0),(.int .i64 0),(.str []),.nils] []),I 62 (.build [(.int .u64 0),(.int .i64 0),(.int .i64 0),(.int .i64 0),(.int .i64 0),(.str []),.nils] []),M 63 8,N 7 6 61,N 7 7 62,M 8 63])
def ZcW:PC :=
 (R [0,2,6,7,13,14] [K 14 0])
def ZcX:PC :=
 (R [0,2,6,7,13,14,77] [M 64 14,W 65 .add 64 1,M 66 13,I 67 (.len 1 (.s 66)),B 68 .lss 65 67,M 69 68,U 70 69 true 2,U 71 69 true 13,U 72 69 true 14,G 73 69 true (.ixS 7 (.s 71) (.s 72)),G 74 69 true (.ld true 7 (.s 73)),G 75 69 true (C Q0 [(.s 74)]),G 76 69 true (.bin .geq (.s 70) (.s 75)),I 77 (.pick (.s 69) (.s 76) (.v (.bool false)))])
def ZcY:PC :=
 (R [0,2,6,7,13,14] [M 78 2,M 79 13,M 80 14,I 81 (.ixS 7 (.s 79) (.s 80)),T 82 7 81,I 83 (C Q0 [(.s 82)]),B 84 .sub 78 83,M 2 84])
def ZcZ:PC :=
 (R [0,2,6,7,13,14] [M 85 14,W 86 .add 85 1,M 14 86])
def ZMc:PC :=
 (D (D ZcX
 (E 77
 .skip
 (.exit 0)))
 (.block 1
 (D ZcY
 ZcZ)))
def Zca:PC :=
 (R [0,2,6,7,13,14,88] [M 87 2,W 88 .eql 87 0])
def Zcb:PC :=
 (R [6,7,8] [M 89 13,M 90 14,I 91 (.slc 7 (.s 89) none (some (.s 90))),I 92 (.call .pure (.v (.func (.func QY) [] [])) [(.s 91)]),M 93 13,M 94 14,I 95 (.slc 7 (.s 93) (some (.s 94)) none),I 96 (C QY [(.s 95)]),N 7 6 92,N 7 7 96,K 8 0])
def Zcc:PC :=
 (R [0,6,7,8,13,14,15,16] [M 98 0,M 99 13,M 100 14,I 101 (.ixS 7 (.s 99) (.s 100)),T 102 7 101,M 103 2,I 104 (C ZAw [(.s 98),(.s 102),(.s 103)]),M 97 104,X 105 97 0,X 106 97 1,X 107 97 2,I 15 (.box (.v ZT)),I 16 (.box (.v ZT)),N 7 15 105,N 7 16 106,M 8 107])
def Zcd:PC :=
 (R [0,6,7,8,13,14,15,16,109] [M 108 8,W 109 .neq 108 0])
def Zce:PC :=
 (R [6,7,8] [I 110 (.build [(.int .u64 0),(.int .i64 0),(.int .i64 0),(.int .i64 0),(.int .i64 0),(.str []),.nils] []),I 111 (.build [(.int .u64 0),(.int .i64 0),(.int .i64 0),(.int .i64 0),(.int .i64 0),(.str []),.nils] []),M 112 8,N 7 6 110,N 7 7 111,M 8 112])
def Zcf:PC :=
 (R [0,6,7,8,13,14,16] [M 114 0,M 115 13,M 116 14,I 117 (.slc 7 (.s 115) none (some (.s 116))),I 118 (.call .pure (.v (.func (.func QY) [] [])) [(.s 117)]),T 119 7 15,I 120 (C Yq [(.s 114),(.s 118),(.s 119)]),M 113 120,X 121 113 0,X 122 113 1,N 7 6 121,M 8 122])
def Zcg:PC :=
 (R [0,6,7,8,13,14,16,124] [M 123 8,W 124 .neq 123 0])
def Zch:PC :=
 (R [6,7,8] [I 125 (.build [(.int .u64 0),(.int .i64 0),(.int .i64 0),(.int .i64 0),(.int .i64 0),(.str []),.nils] []),I 126 (.build [(.int .u64 0),(.int .i64 0),(.int .i64 0),(.int .i64 0),(.int .i64 0),(.str []),.nils] []),M 127 8,N 7 6 125,N 7 7 126,M 8 127])
def Zci:PC :=
 (R [6,7,8] [M 129 0,T 130 7 16,M 131 13,M 132 14,W 133 .add 132 1,I 134 (.slc 7 (.s 131) (some (.s 133)) none),I 135 (.call .pure (.v (.func (.func QY) [] [])) [(.s 134)]),I 136 (C Yq [(.s 129),(.s 130),(.s 135)]),M 128 136,X 137 128 0,X 138 128 1,N 7 7 137,M 8 138])
def Zcj:PC :=
 (R [6,7,8,140] [M 139 8,W 140 .neq 139 0])
def Zck:PC :=
 (R [6,7,8] [I 141 (.build [(.int .u64 0),(.int .i64 0),(.int .i64 0),(.int .i64 0),(.int .i64 0),(.str []),.nils] []),I 142 (.build [(.int .u64 0),(.int .i64 0),(.int .i64 0),(.int .i64 0),(.int .i64 0),(.str []),.nils] []),M 143 8,N 7 6 141,N 7 7 142,M 8 143])
def Zcl:PC :=
 (R [6,7,8] [T 144 7 6,I 145 (.w (.hide [(.s 6)]) (.ld true 7 (.s 7))),J (.w (.plain (.s 6)) (.st 7 (.s 6) (.s 144))),N 7 7 145,K 8 0])
def ZYw:PF:=⟨false,
 (D ZfS
 (D (D ZfT
 (E 18
 (D ZfU
 .ret)
 .skip))
 (D (D ZfV
 (E 24
 (D ZfW
 .ret)
 .skip))
 (D (D ZfX
 (E 29
 (D ZfY
 (D (D ZfZ
 (E 37
 (D Zfa
 .ret)
 .skip))
 (D Zfb
 (D ZcS
 .ret))))
 .skip))
 (D ZcT
 (D (D ZcU
 (E 60
 (D ZcV
 .ret)
 .skip))
 (D ZcW
 (D (.block 0
 (.loop ZMc))
 (D (D Zca
 (E 88
 (D Zcb
 .ret)
 .skip))
 (D Zcc
 (D (D Zcd
 (E 109
 (D Zce
 .ret)
 .skip))
 (D (D Zcf
 (D Zcg
 (E 124
 (D Zch
 .ret)
 .skip)))
 (D (D Zci
 (D Zcj
 (E 140
 (D Zck
 .ret)
 .skip)))
 (D Zcl
 .ret)))))))))))))),
 [.c 6 true 7,.c 7 true 7,.s 8]⟩
theorem ZjT:Zr Proofs.Tryz.prog false ZjS Proofs.Tryz.f158=some ZYw:=by kernel_rfl
def ZjU:List Hint:=[H [1,2],H [1,2,9],H [1,2],H [2],H [1,2,3],H [1,2,3,17,18,19],H [1,2,3,17,18,19,20],H [1,2,3,4,5,17,18,19],H [1,2,3,17,18,19],H [1,2,3,17,18,19],H [1,2],H [2]]
def Zfc:PC :=
 (R [1,2] [I 1 (.box (.s 0)),I 2 (.box (.v ZT))])
def Zfd:PC :=
 (R [1,2,9] [F 6 6 1,L 7 6,I 8 (.len 1 (.s 7)),W 9 .eql 8 0])
def Zfe:PC :=
 (R [1,2] [F 10 6 1,J (.st 1 (.s 10) (.v .nils))])
def Zff:PC :=
 (R [2] [T 11 7 1,N 7 2 11])
def Zfg:PC :=
 (R [1,2,3] [F 12 6 1,L 13 12,I 14 (.len 1 (.s 13)),I 15 (.mkslice 7 80 ZT (.s 14) (.s 14)),M 3 15])
def Zfh:PC :=
 (R [1,2,3,17,18,19] [F 16 6 1,L 17 16,I 18 (.len 1 (.s 17)),K 19 0])
def Zfi:PC :=
 (R [1,2,3,17,18,19,20] [B 20 .lss 19 18])
def Zfj:PC :=
 (R [1,2,3,4,5,17,18,19] [M 21 19,I 22 (.ixS 7 (.s 17) (.s 19)),T 23 7 22,I 5 (.box (.v ZT)),M 4 21,N 7 5 23])
def Zfk:PC :=
 (R [1,2,3,17,18,19] [M 24 3,M 25 4,T 26 7 5,I 27 (C ZDF [(.s 26)]),I 28 (.ixS 7 (.s 24) (.s 25)),N 7 28 27])
def Zfl:PC :=
 (R [1,2,3,17,18,19] [W 29 .add 19 1,M 19 29])
def Zcm:PC :=
 (D Zfi
 (D (E 20
 .skip
 (.exit 0))
 (D (.block 1
 (D Zfj
 Zfk))
 Zfl)))
def Zcn:PC :=
 (R [1,2] [M 30 3,F 31 6 1,N 1 31 30])
def Zco:PC :=
 (R [2] [T 32 7 1,N 7 2 32])
def ZYx:PF:=⟨false,
 (D Zfc
 (D (D Zfd
 (E 9
 (D Zfe
 (D Zff
 .ret))
 .skip))
 (D Zfg
 (D (D Zfh
 (.block 0
 (.loop Zcm)))
 (D Zcn
 (D Zco
 .ret)))))),
 [.c 2 true 7]⟩
theorem ZjV:Zr Proofs.Tryz.prog false ZjU Proofs.Tryz.f159=some ZYx:=by kernel_rfl
def ZJL:List Hint:=[H [0,1],⟨[0,1,5],[0],[],[],[],[]⟩,H [0,1,5,9],H [4],H [1,5,14,15,16],H [1,5,14,15,16,17],H [1,5,6,7,14,15,16],H [1,5,6,14,15,16,23],H [1,5,14,15,16],H [1,5,14,15,16],H [4]]
def ZFN:PC :=
 (R [0,1] [I 4 (.mv (.v .nils))])
def ZFO:PC :=
 (R [0,1,5] [I 5 (.onil 1)])
def ZFP:PC :=
 (R [0,1,5,9] [M 8 0,I 9 (.eqs false 3 [] (.s 8) (.v .nilptr))])
def ZFQ:PC :=
 (R [4] [M 10 5,M 4 10])
def ZFR:PC :=
 (R [1,5,14,15,16] [M 11 0,I 12 (.nilck (.s 11)),F 13 1 12,L 14 13,I 15 (.len 1 (.s 14)),K 16 0])
def ZFS:PC :=
 (R [1,5,14,15,16,17] [B 17 .lss 16 15])
def ZFT:PC :=
 (R [1,5,6,7,14,15,16] [M 18 16,I 19 (.ixS 1 (.s 14) (.s 16)),L 20 19,M 6 18,M 7 20])
def ZFU:PC :=
 (R [1,5,6,14,15,16,23] [M 21 7,M 22 1,B 23 .eql 21 22])
def ZFV:PC :=
 (R [1,5,14,15,16] [M 24 5,M 25 6,I 26 (.bslice false 1 [(.int .i64 0)] [(0,(.s 25))]),I 27 (.app 1 8 (.s 24) (.s 26)),M 5 27])
def ZFW:PC :=
 (R [1,5,14,15,16] [W 28 .add 16 1,M 16 28])
def ZEh:PC :=
 (D ZFS
 (D (E 17
 .skip
 (.exit 0))
 (D (.block 1
 (D ZFT
 (D ZFU
 (E 23
 ZFV
 .skip))))
 ZFW)))
def ZEi:PC :=
 (R [4] [M 29 5,M 4 29])
def ZAl:PF:=⟨false,
 (D ZFN
 (D ZFO
 (D (D ZFP
 (E 9
 (D ZFQ
 .ret)
 .skip))
 (D (D ZFR
 (.block 0
 (.loop ZEh)))
 (D ZEi
 .ret))))),
 [.s 4]⟩
theorem ZJM:Zr Proofs.Tryz.prog false ZJL Proofs.Tryz.f164=some ZAl:=by kernel_rfl
def ZUe:List Hint:=[H [0,2,4],H [0,2,4,8],H [0,2,4,8,15],H [6,7],H [0,2,4,25],H [6,7],H [0,2,4,30],H [6,7],H [9,10],H [6,7]]
def ZPS:PC :=
 (R [0,2,4] [I 4 (.box (.s 1)),I 6 (.mv (.v (.bool false))),K 7 0])
def ZPT:PC :=
 (R [0,2,4,8] [M 11 0,T 12 5 4,I 13 (C ZCX [(.s 11),(.s 12)]),M 8 13])
def ZPU:PC :=
 (R [0,2,4,8,15] [M 14 8,W 15 .neq 14 0])
def ZPV:PC :=
 (R [6,7] [M 16 8,I 6 (.mv (.v (.bool false))),M 7 16])
def ZPW:PC :=
 (R [0,2,4,25] [M 17 2,W 18 .lss 17 0,M 19 18,U 20 19 false 2,G 21 19 false (.fadr 2 (.s 4)),G 22 19 false (.fadr 0 (.s 21)),G 23 19 false (.ld false 1 (.s 22)),G 24 19 false (.bin .gtr (.s 20) (.s 23)),I 25 (.pick (.s 19) (.v (.bool true)) (.s 24))])
def ZPX:PC :=
 (R [6,7] [I 6 (.mv (.v (.bool false))),K 7 3])
def ZPY:PC :=
 (R [0,2,4,30] [M 26 2,F 27 2 4,F 28 0 27,L 29 28,B 30 .eql 26 29])
def ZPZ:PC :=
 (R [6,7] [I 6 (.mv (.v (.bool true))),K 7 0])
def ZPa:PC :=
 (R [9,10] [M 32 0,T 33 5 4,M 34 2,I 35 (C ZEG [(.s 32),(.s 33),(.s 34)]),M 31 35,X 36 31 0,X 37 31 1,M 9 36,M 10 37])
def ZPb:PC :=
 (R [6,7] [M 38 10,W 39 .eql 38 0,M 40 39,U 41 40 true 9,G 42 40 true (.bin .lss (.s 41) (.v (.int .u8 128))),U 43 40 true 42,U 44 43 false 9,G 45 43 false (.bin .gtr (.s 44) (.v (.int .u8 191))),G 46 40 true (.pick (.s 43) (.v (.bool true)) (.s 45)),I 47 (.pick (.s 40) (.s 46) (.v (.bool false))),M 48 10,M 6 47,M 7 48])
def ZIF:PF:=⟨false,
 (D ZPS
 (D (D ZPT
 (D ZPU
 (E 15
 (D ZPV
 .ret)
 .skip)))
 (D (D ZPW
 (E 25
 (D ZPX
 .ret)
 .skip))
 (D (D ZPY
 (E 30
 (D ZPZ
 .ret)
 .skip))
 (D ZPa
 (D ZPb
 .ret)))))),
 [.s 6,.s 7]⟩
theorem ZUf:Zr Proofs.Tryz.prog false ZUe Proofs.Tryz.f176=some ZIF:=by kernel_rfl
def ZMG:List Hint:=[H [0,1,2,3],H [0,2,3,9,10],H [0,2,3,9,10,21],H [8],⟨[0],[],[],[],[(9,.imm)],[]⟩,H [],H [8]]
def ZJN:PC :=
 (R [0,1,2,3] [K 8 0])
def ZJO:PC :=
 (R [0,2,3,9,10] [M 12 0,I 13 (.nilck (.s 12)),F 14 0 13,L 15 14,M 16 1,I 17 (C Qc [(.s 15),(.s 16)]),M 11 17,X 18 11 0,X 19 11 1,I 9 (.box (.v ZN)),N 3 9 18,M 10 19])
def ZJP:PC :=
 (R [0,2,3,9,10,21] [M 20 10,W 21 .neq 20 0])
def ZJQ:PC :=
 (R [8] [M 22 10,M 8 22])
def ZJR:PC :=
 (R [0] [M 23 0,M 24 0,I 25 (.nilck (.s 24)),F 26 6 25,L 27 26,T 28 3 9,M 29 2,M 30 3,I 31 (.build [(.int .i64 0),(.str []),.nils,(.int .i64 0),(.int .i64 0)] [(0,3,(.s 28)),(3,1,(.s 29)),(4,1,(.s 30))]),I 32 (.w .imm (.bslice false 5 [(.agg [(.int .i64 0),(.str []),.nils,(.int .i64 0),(.int .i64 0)])] [(0,(.s 31))])),I 33 (.app 5 64 (.s 27) (.s 32)),I 34 (.nilck (.s 23)),F 35 6 34,N 1 35 33])
def ZJS:PC :=
 (R [] [M 36 0,I 37 (.nilck (.s 36)),F 38 7 37,L 39 38,W 40 .add 39 1,I 41 (.nilck (.s 36)),F 42 7 41,N 1 42 40])
def ZJT:PC :=
 (R [8] [K 8 0])
def ZCO:PF:=⟨true,
 (D ZJN
 (D ZJO
 (D (D ZJP
 (E 21
 (D ZJQ
 .ret)
 .skip))
 (D ZJR
 (D ZJS
 (D ZJT
 .ret)))))),
 [.s 8]⟩
theorem ZMH:Zr Proofs.Tryz.prog true ZMG Proofs.Tryz.f177=some ZCO:=by kernel_rfl
def ZD5:List Hint:=[H []]
def ZCm:PC :=
 (R [] [L 3 1,M 4 0,I 5 (.bslice false 1 [(.int .u8 0)] [(0,(.s 4))]),I 6 (.app 1 1 (.s 3) (.s 5)),N 1 1 6])
def XS:PF:=⟨false,
 ZCm,
 []⟩
theorem ZD6:Zr Proofs.Tryz.prog false ZD5 Proofs.Tryz.f178=some XS:=by kernel_rfl
def ZK0:List Hint:=[H [0,1],H [4]]
def ZHW:PC :=
 (R [0,1] [K 4 0])
def ZHX:PC :=
 (R [4] [M 5 1,M 6 0,I 7 (.nilck (.s 6)),F 8 1 7,F 9 2 8,F 10 0 9,L 11 10,W 12 .sub 11 1,I 13 (.mnx false (.s 5) (.s 12)),M 4 13])
def ZBQ:PF:=⟨false,
 (D ZHW
 (D ZHX
 .ret)),
 [.s 4]⟩
theorem ZK1:Zr Proofs.Tryz.prog false ZK0 Proofs.Tryz.f180=some ZBQ:=by kernel_rfl
def Zhm:List Hint:=[H [0,2,3,4,6,10],H [0,3,4,6,10,12],H [0,3,4,10,12,13],H [0,3,4,10,12,13,14,15],H [0,3,4,10,12,13,14,15,31],H [10,11],H [0,3,4,10,12,14],H [0,3,4,10,12,14,42],H [10,12],H [10,11],H [0,3,4,10,12,14,15,16,17],H [0,3,4,10,12,14,15,16,17,57],H [10,11],H [0,3,4,10,12,14,16,17,63,64,65],H [0,3,4,10,12,14,16,17,63,64,65,66],H [0,3,4,10,12,14,16,17,19,63,64,65],H [0,3,4,10,12,14,16,17,63,64,65],H [0,3,4,10,12,14,16,17,63,64,65],⟨[0,3,4,10,12,13],[],[],[],[(6,(.hide [(.s 12)])),(8,(.plain (.s 12))),(4,(.hide [(.s 12)])),(2,(.hide [(.s 12)]))],[]⟩]
def Zcp:PC :=
 (R [0,2,3,4,6,10] [I 6 (.box (.s 1)),I 10 (.box (.v (.agg [(.str []),(.int .i64 0),.nils]))),K 11 0])
def Zcq:PC :=
 (R [0,3,4,6,10,12] [M 20 2,I 21 (.build [(.str []),(.int .i64 0),.nils] [(1,1,(.s 20))]),I 12 (.box (.v (.agg [(.str []),(.int .i64 0),.nils]))),N 3 12 21])
def Zcr:PC :=
 (R [0,3,4,10,12,13] [F 22 0 6,L 23 22,M 13 23])
def Zcs:PC :=
 (R [0,3,4,10,12,13,14,15] [M 25 0,M 26 13,I 27 (C Qc [(.s 25),(.s 26)]),M 24 27,X 28 24 0,X 29 24 1,I 14 (.box (.v ZN)),N 3 14 28,M 15 29])
def Zct:PC :=
 (R [0,3,4,10,12,13,14,15,31] [M 30 15,W 31 .neq 30 0])
def Zcu:PC :=
 (R [10,11] [I 32 (.build [(.str []),(.int .i64 0),.nils] []),M 33 15,N 3 10 32,M 11 33])
def ZMd:PC :=
 (R [0,3,4,10,12,14] [F 34 2 12,L 35 34,M 36 13,I 37 (.bslice false 1 [(.int .u64 0)] [(0,(.s 36))]),I 38 (.app 1 8 (.s 35) (.s 37)),F 39 2 12,N 1 39 38])
def Zcv:PC :=
 (R [0,3,4,10,12,14,42] [F 40 0 14,L 41 40,W 42 .eql 41 0])
def Zcw:PC :=
 (R [10,12] [F 43 1 14,L 44 43,F 45 0 12,N 1 45 44])
def Zcx:PC :=
 (R [10,11] [T 46 3 12,N 3 10 46,K 11 0])
def ZYy:PC :=
 (R [0,3,4,10,12,14,15,16,17] [M 48 3,T 49 3 14,F 50 1 12,L 51 50,I 52 (.call .norm (.s 48) [(.s 49),(.s 51)]),M 47 52,X 53 47 0,X 54 47 1,X 55 47 2,M 16 53,M 17 54,M 15 55])
def ZYz:PC :=
 (R [0,3,4,10,12,14,15,16,17,57] [M 56 15,W 57 .neq 56 0])
def ZY0:PC :=
 (R [10,11] [I 58 (.build [(.str []),(.int .i64 0),.nils] []),M 59 15,N 3 10 58,M 11 59])
def ZY1:PC :=
 (R [0,3,4,10,12,14,16,17,63,64,65] [F 60 2 14,L 61 60,M 62 16,I 63 (.slc 4 (.s 61) none (some (.s 62))),I 64 (.len 1 (.s 63)),K 65 0])
def ZY2:PC :=
 (R [0,3,4,10,12,14,16,17,63,64,65,66] [B 66 .lss 65 64])
def ZY3:PC :=
 (R [0,3,4,10,12,14,16,17,19,63,64,65] [I 67 (.ixS 4 (.s 63) (.s 65)),T 68 4 67,I 19 (.box (.v ZK)),N 4 19 68])
def ZY4:PC :=
 (R [0,3,4,10,12,14,16,17,63,64,65] [M 69 4,F 70 1 19,T 71 3 70,I 72 (.call .norm (.s 69) [(.s 71)])])
def ZY5:PC :=
 (R [0,3,4,10,12,14,16,17,63,64,65] [W 73 .add 65 1,M 65 73])
def p_seek_walk_18:PC :=
 (D ZY2
 (D (E 66
 .skip
 (.exit 2))
 (D (.block 3
 (D ZY3
 ZY4))
 ZY5)))
def ZY6:PC :=
 (R [0,3,4,10,12,13] [M 74 17,F 75 2 14,I 76 (.w (.hide [(.s 12)]) (.ld false 1 (.s 75))),M 77 16,I 78 (.w (.hide [(.s 12)]) (.ixS 4 (.s 76) (.s 77))),F 79 0 78,I 80 (.w (.hide [(.s 12)]) (.ld false 1 (.s 79))),F 81 1 12,J (.w (.plain (.s 12)) (.st 1 (.s 81) (.s 74))),M 13 80])
def ZY7:PC :=
 (.block 1
 (D Zcs
 (D (D Zct
 (E 31
 (D Zcu
 .ret)
 .skip))
 (D ZMd
 (D (D Zcv
 (E 42
 (D Zcw
 (D Zcx
 .ret))
 .skip))
 (D ZYy
 (D (D ZYz
 (E 57
 (D ZY0
 .ret)
 .skip))
 (D (D ZY1
 (.block 2
 (.loop p_seek_walk_18)))
 ZY6))))))))
def ZTd:PF:=⟨false,
 (D Zcp
 (D Zcq
 (D Zcr
 (.block 0
 (.loop ZY7))))),
 [.c 10 true 3,.s 11]⟩
theorem Zhn:Zr Proofs.Tryz.prog false Zhm Proofs.Tryz.f181=some ZTd:=by kernel_rfl
def Zfm:List Hint:=[H [1,2],H [4,5,6]]
def ZY8:PC :=
 (R [1,2] [I 2 (.box (.s 0)),K 4 0,K 5 0,K 6 0])
def ZY9:PC :=
 (R [4,5,6] [T 7 3 2,M 8 1,I 9 (C ZEW [(.s 7),(.s 8),(.v (.func (.func ZDI) [] []))]),X 10 9 0,X 11 9 1,X 12 9 2,M 4 10,M 5 11,M 6 12])
def ZPc:PF:=⟨false,
 (D ZY8
 (D ZY9
 .ret)),
 [.s 4,.s 5,.s 6]⟩
theorem Zfn:Zr Proofs.Tryz.prog false Zfm Proofs.Tryz.f182=some ZPc:=by kernel_rfl
def ZUg:List Hint:=[H [0],H [2]]
def ZPd:PC :=
 (R [0] [I 2 (.mv (.v (.bool false)))])
def ZPe:PC :=
 (R [2] [M 3 0,I 4 (.bin .eql (.s 3) (.v (.int .u8 10))),M 2 4])
def ZIG:PF:=⟨false,
 (D ZPd
 (D ZPe
 .ret)),
 [.s 2]⟩
theorem ZUh:Zr Proofs.Tryz.prog false ZUg Proofs.Tryz.f185=some ZIG:=by kernel_rfl
def ZZA:List Hint:=[H [1,2],H [1,2,4],H [1,2,4,8],H [2,3],H [2,3]]
def ZRf:PC :=
 (R [1,2] [I 1 (.box (.s 0)),I 2 (.box (.v ZM)),K 3 0])
def ZRg:PC :=
 (R [1,2,4] [T 5 3 1,I 6 (C ZAQ [(.s 5)]),M 4 6])
def ZRh:PC :=
 (R [1,2,4,8] [M 7 4,W 8 .neq 7 0])
def ZRi:PC :=
 (R [2,3] [I 9 (.build [(.int .i64 0),(.int .i64 0),(.int .i64 0)] []),M 10 4,N 3 2 9,M 3 10])
def ZRj:PC :=
 (R [2,3] [T 11 3 1,I 12 (C ZDJ [(.s 11)]),N 3 2 12,K 3 0])
def ZK2:PF:=⟨false,
 (D ZRf
 (D (D ZRg
 (D ZRh
 (E 8
 (D ZRi
 .ret)
 .skip)))
 (D ZRj
 .ret))),
 [.c 2 true 3,.s 3]⟩
theorem ZZB:Zr Proofs.Tryz.prog false ZZA Proofs.Tryz.f186=some ZK2:=by kernel_rfl
def Zcy:List Hint:=[H [1,2,3],H [1,2,3,9],H [1,2,3,9,15],H [6,7,8],H [1,2,3,19],H [6,7,8],H [1,2,3,21],H [6,7,8],H [1,2,23,24,25],H [1,2,23,24,25,26],H [1,2,10,11,23,24,25],H [1,2,10,11,23,24,25,35],H [6,7,8],H [1,2,23,24,25],H [1,2,23,24,25],H [6,7,8]]
def ZUi:PC :=
 (R [1,2,3] [I 3 (.box (.s 0)),K 6 0,K 7 0,K 8 0])
def ZUj:PC :=
 (R [1,2,3,9] [T 12 3 3,I 13 (C ZAQ [(.s 12)]),M 9 13])
def ZUk:PC :=
 (R [1,2,3,9,15] [M 14 9,W 15 .neq 14 0])
def ZUl:PC :=
 (R [6,7,8] [M 16 9,K 6 0,K 7 0,M 8 16])
def ZUm:PC :=
 (R [1,2,3,19] [F 17 0 3,L 18 17,W 19 .eql 18 0])
def ZUn:PC :=
 (R [6,7,8] [K 6 0,K 7 0,K 8 8])
def ZUo:PC :=
 (R [1,2,3,21] [M 20 1,W 21 .lss 20 0])
def ZUp:PC :=
 (R [6,7,8] [K 6 0,K 7 0,K 8 3])
def ZUq:PC :=
 (R [1,2,23,24,25] [F 22 2 3,L 23 22,I 24 (.len 1 (.s 23)),K 25 0])
def ZUr:PC :=
 (R [1,2,23,24,25,26] [B 26 .lss 25 24])
def ZRk:PC :=
 (R [1,2,10,11,23,24,25] [M 27 25,I 28 (.ixS 4 (.s 23) (.s 25)),T 29 4 28,I 11 (.box (.v ZK)),M 10 27,N 4 11 29])
def ZRl:PC :=
 (R [1,2,10,11,23,24,25,35] [M 30 1,M 31 2,F 32 1 11,T 33 3 32,I 34 (.call .norm (.s 31) [(.s 33)]),B 35 .lss 30 34])
def ZRm:PC :=
 (R [6,7,8] [M 36 10,M 37 1,M 6 36,M 7 37,K 8 0])
def ZRn:PC :=
 (R [1,2,23,24,25] [M 38 1,M 39 2,F 40 1 11,T 41 3 40,I 42 (.call .norm (.s 39) [(.s 41)]),B 43 .sub 38 42,M 1 43])
def ZRo:PC :=
 (R [1,2,23,24,25] [W 44 .add 25 1,M 25 44])
def ZRp:PC :=
 (D ZUr
 (D (E 26
 .skip
 (.exit 0))
 (D (.block 1
 (D ZRk
 (D (D ZRl
 (E 35
 (D ZRm
 .ret)
 .skip))
 ZRn)))
 ZRo)))
def ZRq:PC :=
 (R [6,7,8] [K 6 0,K 7 0,K 8 3])
def ZMe:PF:=⟨false,
 (D ZUi
 (D (D ZUj
 (D ZUk
 (E 15
 (D ZUl
 .ret)
 .skip)))
 (D (D ZUm
 (E 19
 (D ZUn
 .ret)
 .skip))
 (D (D ZUo
 (E 21
 (D ZUp
 .ret)
 .skip))
 (D (D ZUq
 (.block 0
 (.loop ZRp)))
 (D ZRq
 .ret)))))),
 [.s 6,.s 7,.s 8]⟩
theorem Zcz:Zr Proofs.Tryz.prog false Zcy Proofs.Tryz.f188=some ZMe:=by kernel_rfl
def ZRr:List Hint:=[H [0,2,4],H [0,2,4,9],H [0,2,4,20],H [0,2,4]]
def ZNS:PC :=
 (R [0,2,4] [L 5 1,M 4 5])
def ZNT:PC :=
 (R [0,2,4,9] [M 6 4,L 7 2,I 8 (.len 0 (.s 7)),B 9 .leq 6 8])
def ZNU:PC :=
 (R [0,2,4,20] [L 12 2,M 13 4,I 14 (C ZEt [(.s 12),(.s 13)]),M 15 14,U 16 15 true 0,U 17 15 true 4,G 18 15 true (.call .norm (.s 16) [(.s 17)]),G 19 15 true (.un .not (.s 18)),I 20 (.pick (.s 15) (.s 19) (.v (.bool false)))])
def ZNV:PC :=
 (R [0,2,4] [M 10 4,W 11 .add 10 1,M 4 11])
def ZNW:PC :=
 (D (D ZNT
 (E 9
 .skip
 (.exit 0)))
 (D (.block 1
 (D ZNU
 (E 20
 .ret
 .skip)))
 ZNV))
def ZFX:PF:=⟨false,
 (D ZNS
 (.block 0
 (.loop ZNW))),
 []⟩
theorem ZRs:Zr Proofs.Tryz.prog false ZRr Proofs.Tryz.f192=some ZFX:=by kernel_rfl
def ZRt:List Hint:=[H [0,1],H [4]]
def ZNX:PC :=
 (R [0,1] [I 4 (.mv (.v (.bool false)))])
def ZNY:PC :=
 (R [4] [M 5 1,W 6 .geq 5 0,M 7 6,U 8 7 true 1,U 9 7 true 0,G 10 7 true (.len 0 (.s 9)),G 11 7 true (.bin .lss (.s 8) (.s 10)),U 12 7 true 11,U 13 12 true 0,U 14 12 true 1,G 15 12 true (.ixStr (.s 13) (.s 14)),G 16 12 true (C Yu [(.s 15)]),G 17 12 true (.un .not (.s 16)),G 18 7 true (.pick (.s 12) (.s 17) (.v (.bool false))),U 19 7 true 18,U 20 19 false 1,U 21 19 false 0,G 22 19 false (.len 0 (.s 21)),G 23 19 false (.bin .eql (.s 20) (.s 22)),G 24 7 true (.pick (.s 19) (.v (.bool true)) (.s 23)),I 25 (.pick (.s 7) (.s 24) (.v (.bool false))),M 4 25])
def ZFY:PF:=⟨false,
 (D ZNX
 (D ZNY
 .ret)),
 [.s 4]⟩
theorem ZRu:Zr Proofs.Tryz.prog false ZRt Proofs.Tryz.f193=some ZFY:=by kernel_rfl
def ZPf:List Hint:=[H [0],H [0,3],H [0,3,4],H [0,3,7],H [0,3,10],H [0,3,13],H [3,16],H [3],H [3],H [3],H [3],H [2]]
def ZMI:PC :=
 (R [0] [K 2 0])
def ZMJ:PC :=
 (R [0,3] [K 3 0])
def ZMK:PC :=
 (R [0,3,4] [M 5 0,I 6 (.bin .gtr (.s 5) (.v (.int .u8 244))),M 4 6])
def ZML:PC :=
 (R [0,3,7] [M 8 0,I 9 (.bin .geq (.s 8) (.v (.int .u8 240))),M 7 9])
def ZMM:PC :=
 (R [0,3,10] [M 11 0,I 12 (.bin .geq (.s 11) (.v (.int .u8 224))),M 10 12])
def ZMN:PC :=
 (R [0,3,13] [M 14 0,I 15 (.bin .geq (.s 14) (.v (.int .u8 194))),M 13 15])
def ZMO:PC :=
 (R [3,16] [M 17 0,I 18 (.bin .lss (.s 17) (.v (.int .u8 128))),M 16 18])
def ZMP:PC :=
 (R [3] [M 19 3,W 20 .add 19 1,M 3 20])
def ZMQ:PC :=
 (R [3] [M 21 3,W 22 .add 21 1,M 3 22])
def ZMR:PC :=
 (R [3] [M 23 3,W 24 .add 23 1,M 3 24])
def ZK3:PC :=
 (R [3] [M 25 3,W 26 .add 25 1,M 3 26])
def ZK4:PC :=
 (R [2] [M 27 3,M 2 27])
def ZEK:PF:=⟨false,
 (D ZMI
 (D ZMJ
 (D (.block 0
 (D (.block 5
 (D (.block 4
 (D (.block 3
 (D (.block 2
 (D (.block 1
 (D (D (D ZMK
 (E 4
 (.exit 1)
 .skip))
 (D (D ZML
 (E 7
 (.exit 2)
 .skip))
 (D (D ZMM
 (E 10
 (.exit 3)
 .skip))
 (D (D ZMN
 (E 13
 (.exit 4)
 .skip))
 (D ZMO
 (E 16
 (.exit 5)
 .skip))))))
 (.exit 0)))
 (.exit 0)))
 ZMP))
 ZMQ))
 ZMR))
 (D ZK3
 (.exit 0))))
 (D ZK4
 .ret)))),
 [.s 2]⟩
theorem ZPg:Zr Proofs.Tryz.prog false ZPf Proofs.Tryz.f194=some ZEK:=by kernel_rfl
def ZPh:List Hint:=[H [0],H [2]]
def ZMS:PC :=
 (R [0] [I 2 (.mv (.v (.bool false)))])
def ZMT:PC :=
 (R [2] [M 3 0,I 4 (.bin .geq (.s 3) (.v (.int .u8 128))),M 5 4,U 6 5 true 0,G 7 5 true (.bin .leq (.s 6) (.v (.int .u8 191))),I 8 (.pick (.s 5) (.s 7) (.v (.bool false))),M 2 8])
def ZEL:PF:=⟨false,
 (D ZMS
 (D ZMT
 .ret)),
 [.s 2]⟩
theorem ZPi:Zr Proofs.Tryz.prog false ZPh Proofs.Tryz.f195=some ZEL:=by kernel_rfl
def ZZC:List Hint:=[H [0],H [0,3],H [2],H [0,18],H [2],H [0,21],H [2],H [24],H [2],H [2]]
def ZRv:PC :=
 (R [0] [K 2 0])
def ZRw:PC :=
 (R [0,3] [M 4 0,W 5 .lss 4 0,M 6 5,U 7 6 false 0,G 8 6 false (.bin .gtr (.s 7) (V 1114111)),I 9 (.pick (.s 6) (.v (.bool true)) (.s 8)),M 10 9,U 11 10 false 0,G 12 10 false (.bin .geq (.s 11) (V 55296)),U 13 10 false 12,U 14 13 true 0,G 15 13 true (.bin .leq (.s 14) (V 57343)),G 16 10 false (.pick (.s 13) (.s 15) (.v (.bool false))),I 17 (.pick (.s 10) (.v (.bool true)) (.s 16)),M 3 17])
def ZRx:PC :=
 (R [2] [K 2 0])
def ZRy:PC :=
 (R [0,18] [M 19 0,W 20 .lss 19 128,M 18 20])
def ZRz:PC :=
 (R [2] [K 2 1])
def ZR0:PC :=
 (R [0,21] [M 22 0,W 23 .lss 22 2048,M 21 23])
def ZR1:PC :=
 (R [2] [K 2 2])
def ZR2:PC :=
 (R [24] [M 25 0,W 26 .lss 25 65536,M 24 26])
def ZR3:PC :=
 (R [2] [K 2 3])
def ZR4:PC :=
 (R [2] [K 2 4])
def ZK5:PF:=⟨false,
 (D ZRv
 (D (.block 0
 (D ZRw
 (E 3
 (D ZRx
 .ret)
 (D ZRy
 (E 18
 (D ZRz
 .ret)
 (D ZR0
 (E 21
 (D ZR1
 .ret)
 (D ZR2
 (E 24
 (D ZR3
 .ret)
 .skip)))))))))
 (D ZR4
 .ret))),
 [.s 2]⟩
theorem ZZD:Zr Proofs.Tryz.prog false ZZC Proofs.Tryz.f196=some ZK5:=by kernel_rfl
def ZZE:List Hint:=[H [0],⟨[0,3],[0],[],[],[],[]⟩,H [0,3,8,9,10],H [0,3,8,9,10,11],H [0,3,5,8,9,10],H [0,3,5,8,9,10],H [0,3,8,9,10],H [0,3,8,9,10],H [2]]
def ZR5:PC :=
 (R [0] [I 2 (.mv (.v .nils))])
def ZR6:PC :=
 (R [0,3] [I 3 (.onil 1)])
def ZR7:PC :=
 (R [0,3,8,9,10] [M 6 0,I 7 (.len 0 (.s 6)),I 8 (C ZBA [(.s 7),(V 16)]),I 9 (.len 1 (.s 8)),K 10 0])
def ZR8:PC :=
 (R [0,3,8,9,10,11] [B 11 .lss 10 9])
def ZR9:PC :=
 (R [0,3,5,8,9,10] [I 12 (.ixS 1 (.s 8) (.s 10)),L 13 12,M 5 13])
def ZSA:PC :=
 (R [0,3,5,8,9,10] [M 14 3,M 15 0,M 16 5,I 17 (.slcS (.s 15) none (some (.s 16))),I 18 (.bslice false 1 [(.str [])] [(0,(.s 17))]),I 19 (.app 1 16 (.s 14) (.s 18)),M 3 19])
def ZSB:PC :=
 (R [0,3,8,9,10] [M 20 0,M 21 5,I 22 (.slcS (.s 20) (some (.s 21)) none),M 0 22])
def ZSC:PC :=
 (R [0,3,8,9,10] [W 23 .add 10 1,M 10 23])
def ZSD:PC :=
 (D ZR8
 (D (E 11
 .skip
 (.exit 0))
 (D (.block 1
 (D ZR9
 (D ZSA
 ZSB)))
 ZSC)))
def ZSE:PC :=
 (R [2] [M 24 3,M 2 24])
def ZK6:PF:=⟨false,
 (D ZR5
 (D ZR6
 (D (D ZR7
 (.block 0
 (.loop ZSD)))
 (D ZSE
 .ret)))),
 [.s 2]⟩
theorem ZZF:Zr Proofs.Tryz.prog false ZZE Proofs.Tryz.f197=some ZK6:=by kernel_rfl
def Zfo:List Hint:=[H [0,1],H [0,1,11],H [4,5],H [0,1,13],H [4,5],H [4,5]]
def ZZG:PC :=
 (R [0,1] [I 4 (.mv (.v .nils)),K 5 0])
def ZZH:PC :=
 (R [0,1,11] [M 6 0,W 7 .lss 6 0,M 8 7,U 9 8 false 1,G 10 8 false (.bin .lss (.s 9) (V 1)),I 11 (.pick (.s 8) (.v (.bool true)) (.s 10))])
def ZZI:PC :=
 (R [4,5] [I 4 (.mv (.v .nils)),K 5 2])
def ZZJ:PC :=
 (R [0,1,13] [M 12 0,W 13 .gtr 12 65536])
def ZZK:PC :=
 (R [4,5] [I 4 (.mv (.v .nils)),K 5 5])
def ZZL:PC :=
 (R [4,5] [M 14 0,M 15 1,I 16 (C ZBA [(.s 14),(.s 15)]),M 4 16,K 5 0])
def ZPj:PF:=⟨false,
 (D ZZG
 (D (D ZZH
 (E 11
 (D ZZI
 .ret)
 .skip))
 (D (D ZZJ
 (E 13
 (D ZZK
 .ret)
 .skip))
 (D ZZL
 .ret)))),
 [.s 4,.s 5]⟩
theorem Zfp:Zr Proofs.Tryz.prog false Zfo Proofs.Tryz.f198=some ZPj:=by kernel_rfl
def Zfq:List Hint:=[H [0,2],H [0,2,3],H [2],H [0,2,8],H [2],⟨[2],[],[],[],[(7,.app0),(5,.imm)],[]⟩]
def ZZM:PC :=
 (R [0,2] [I 2 (.box (.v ZT))])
def ZZN:PC :=
 (R [0,2,3] [M 4 0,I 5 (.len 1 (.s 4)),W 6 .eql 5 0,M 3 6])
def ZZO:PC :=
 (R [2] [I 7 (.build [(.int .u64 0),(.int .i64 0),(.int .i64 0),(.int .i64 0),(.int .i64 0),(.str []),.nils] []),N 7 2 7])
def ZZP:PC :=
 (R [0,2,8] [M 9 0,I 10 (.len 1 (.s 9)),W 11 .eql 10 1,M 8 11])
def ZZQ:PC :=
 (R [2] [M 12 0,I 13 (.ixS 7 (.s 12) (V 0)),T 14 7 13,N 7 2 14])
def ZZR:PC :=
 (R [2] [M 15 0,I 16 (.ixS 7 (.s 15) (V 0)),F 17 1 16,L 18 17,W 19 .add 18 1,I 20 (.w .imm (.bslice false 7 [] [])),M 21 0,I 22 (.w .app0 (.app 7 80 (.s 20) (.s 21))),I 23 (.build [(.int .u64 0),(.int .i64 0),(.int .i64 0),(.int .i64 0),(.int .i64 0),(.str []),.nils] [(1,1,(.s 19)),(6,1,(.s 22))]),N 7 2 23])
def ZPk:PF:=⟨false,
 (D ZZM
 (D (.block 0
 (D ZZN
 (E 3
 (D ZZO
 .ret)
 (D ZZP
 (E 8
 (D ZZQ
 .ret)
 .skip)))))
 (D ZZR
 .ret))),
 [.c 2 true 7]⟩
theorem Zfr:Zr Proofs.Tryz.prog false Zfq Proofs.Tryz.f199=some ZPk:=by kernel_rfl
def Zc0:List Hint:=[H [0,1],H [0,1,19],H [4,5],H [4,5]]
def ZUs:PC :=
 (R [0,1] [I 4 (.mv (.v (.int .u64 0))),K 5 0])
def ZUt:PC :=
 (R [0,1,19] [M 6 0,W 7 .lss 6 0,M 8 7,U 9 8 false 0,G 10 8 false (.bin .geq (.s 9) (V 16384)),I 11 (.pick (.s 8) (.v (.bool true)) (.s 10)),M 12 11,U 13 12 false 1,G 14 12 false (.bin .lss (.s 13) (.v (.int .u64 1))),I 15 (.pick (.s 12) (.v (.bool true)) (.s 14)),M 16 15,U 17 16 false 1,G 18 16 false (.bin .gtr (.s 17) (.v (.int .u64 4294967295))),I 19 (.pick (.s 16) (.v (.bool true)) (.s 18))])
def ZUu:PC :=
 (R [4,5] [I 4 (.mv (.v (.int .u64 0))),K 5 3])
def ZUv:PC :=
 (R [4,5] [M 20 1,I 21 (.bin .shl (.s 20) (.v (.int .u64 16))),M 22 0,I 23 (.cint .u64 (.s 22)),B 24 .or 21 23,M 4 24,K 5 0])
def ZMf:PF:=⟨false,
 (D ZUs
 (D (D ZUt
 (E 19
 (D ZUu
 .ret)
 .skip))
 (D ZUv
 .ret))),
 [.s 4,.s 5]⟩
theorem Zc1:Zr Proofs.Tryz.prog false Zc0 Proofs.Tryz.f201=some ZMf:=by kernel_rfl
def Zc2:List Hint:=[H [0,4,5,6],H [0,4,5,6,12],H [6,7],H [0,4,5,6,16],H [6,7],H [6,8,9],H [6,8,9,26],H [6,7],H [6,7]]
def ZUw:PC :=
 (R [0,4,5,6] [I 4 (.box (.s 1)),I 5 (.box (.s 2)),I 6 (.box (.v ZT)),K 7 0])
def ZUx:PC :=
 (R [0,4,5,6,12] [T 10 7 4,I 11 (C Qu [(.s 10)]),W 12 .eql 11 1])
def ZUy:PC :=
 (R [6,7] [T 13 7 5,N 7 6 13,K 7 0])
def ZUz:PC :=
 (R [0,4,5,6,16] [T 14 7 5,I 15 (C Qu [(.s 14)]),W 16 .eql 15 1])
def ZU0:PC :=
 (R [6,7] [T 17 7 4,N 7 6 17,K 7 0])
def ZU1:PC :=
 (R [6,8,9] [M 19 0,T 20 7 4,T 21 7 5,I 22 (C ZAR [(.s 19),(.s 20),(.s 21)]),M 18 22,X 23 18 0,X 24 18 1,M 8 23,M 9 24])
def ZU2:PC :=
 (R [6,8,9,26] [M 25 9,W 26 .neq 25 0])
def ZU3:PC :=
 (R [6,7] [I 27 (.build [(.int .u64 0),(.int .i64 0),(.int .i64 0),(.int .i64 0),(.int .i64 0),(.str []),.nils] []),M 28 9,N 7 6 27,M 7 28])
def ZU4:PC :=
 (R [6,7] [M 29 8,I 30 (C QY [(.s 29)]),N 7 6 30,K 7 0])
def ZMg:PF:=⟨false,
 (D ZUw
 (D (D ZUx
 (E 12
 (D ZUy
 .ret)
 .skip))
 (D (D ZUz
 (E 16
 (D ZU0
 .ret)
 .skip))
 (D ZU1
 (D (D ZU2
 (E 26
 (D ZU3
 .ret)
 .skip))
 (D ZU4
 .ret)))))),
 [.c 6 true 7,.s 7]⟩
theorem Zc3:Zr Proofs.Tryz.prog false Zc2 Proofs.Tryz.f203=some ZMg:=by kernel_rfl
def Zfs:List Hint:=[H [0,2,3,5],H [0,2,3,5,9],H [0,2,5,9,30],H [8],H [0,2,5,32],H [0,2,5,10],H [0,2,5,10,42],H [8],H [0,5,54],H [8],H [0,5,56,57,58],H [0,5,56,57,58,59],H [0,5,12,56,57,58],H [0,5,13,56,57,58],H [0,5,13,56,57,58,69],H [8],H [0,5,56,57,58],H [8]]
def ZZS:PC :=
 (R [0,2,3,5] [I 5 (.box (.s 1)),K 8 0])
def ZZT:PC :=
 (R [0,2,3,5,9] [T 14 7 5,I 15 (C Qu [(.s 14)]),M 9 15])
def ZZU:PC :=
 (R [0,2,5,9,30] [M 16 9,W 17 .eql 16 0,M 18 17,U 19 18 false 9,G 20 18 false (.bin .eql (.s 19) (V 1)),I 21 (.pick (.s 18) (.v (.bool true)) (.s 20)),M 22 21,U 23 22 false 2,U 24 22 false 23,G 25 24 true (.fadr 1 (.s 5)),G 26 24 true (.ld false 1 (.s 25)),U 27 24 true 3,G 28 24 true (.bin .neq (.s 26) (.s 27)),G 29 22 false (.pick (.s 24) (.s 28) (.v (.bool false))),I 30 (.pick (.s 22) (.v (.bool true)) (.s 29))])
def ZZV:PC :=
 (R [8] [K 8 23])
def ZZW:PC :=
 (R [0,2,5,32] [M 31 9,W 32 .eql 31 2])
def ZZX:PC :=
 (R [0,2,5,10] [M 33 0,F 34 0 5,L 35 34,F 36 1 5,L 37 36,F 38 2 5,T 39 3 38,I 40 (C ZEF [(.s 33),(.s 35),(.s 37),(.s 39)]),M 10 40])
def ZZY:PC :=
 (R [0,2,5,10,42] [M 41 10,W 42 .neq 41 0])
def ZZZ:PC :=
 (R [8] [M 43 10,M 8 43])
def ZZa:PC :=
 (R [0,5,54] [M 44 2,M 45 44,G 46 45 true (.fadr 1 (.s 5)),G 47 45 true (.ld false 1 (.s 46)),G 48 45 true (.bin .eql (.s 47) (V 0)),I 49 (.pick (.s 45) (.s 48) (.v (.bool false))),M 50 49,G 51 50 true (.ld true 7 (.s 5)),G 52 50 true (C Q0 [(.s 51)]),G 53 50 true (.bin .lss (.s 52) (V 8)),I 54 (.pick (.s 50) (.s 53) (.v (.bool false)))])
def ZZb:PC :=
 (R [8] [K 8 23])
def ZU5:PC :=
 (R [0,5,56,57,58] [F 55 6 5,L 56 55,I 57 (.len 1 (.s 56)),K 58 0])
def ZU6:PC :=
 (R [0,5,56,57,58,59] [B 59 .lss 58 57])
def ZU7:PC :=
 (R [0,5,12,56,57,58] [I 60 (.ixS 7 (.s 56) (.s 58)),T 61 7 60,I 12 (.box (.v ZT)),N 7 12 61])
def ZU8:PC :=
 (R [0,5,13,56,57,58] [M 62 0,T 63 7 12,F 64 1 5,L 65 64,W 66 .sub 65 1,I 67 (C ZCZ [(.s 62),(.s 63),(.v (.bool true)),(.s 66)]),M 13 67])
def ZU9:PC :=
 (R [0,5,13,56,57,58,69] [M 68 13,W 69 .neq 68 0])
def ZVA:PC :=
 (R [8] [M 70 13,M 8 70])
def ZVB:PC :=
 (R [0,5,56,57,58] [W 71 .add 58 1,M 58 71])
def ZIH:PC :=
 (D ZU6
 (D (E 59
 .skip
 (.exit 0))
 (D (.block 1
 (D ZU7
 (D ZU8
 (D ZU9
 (E 69
 (D ZVA
 .ret)
 .skip)))))
 ZVB)))
def ZVC:PC :=
 (R [8] [K 8 0])
def ZPl:PF:=⟨false,
 (D ZZS
 (D ZZT
 (D (D ZZU
 (E 30
 (D ZZV
 .ret)
 .skip))
 (D (D ZZW
 (E 32
 (D ZZX
 (D ZZY
 (E 42
 (D ZZZ
 .ret)
 .skip)))
 .skip))
 (D (D ZZa
 (E 54
 (D ZZb
 .ret)
 .skip))
 (D (D ZU5
 (.block 0
 (.loop ZIH)))
 (D ZVC
 .ret))))))),
 [.s 8]⟩
theorem Zft:Zr Proofs.Tryz.prog false Zfs Proofs.Tryz.f204=some ZPl:=by kernel_rfl
def ZjW:List Hint:=[H [1],H [1,3],H [1,3,4],H [1,3,14],H [1,3],H [3,16,17,18],H [3,16,17,18,19],H [3,6,16,17,18],H [3,16,17,18],H [3,16,17,18],H [2]]
def Zfu:PC :=
 (R [1] [I 1 (.box (.s 0)),K 2 0])
def Zfv:PC :=
 (R [1,3] [K 3 0])
def Zfw:PC :=
 (R [1,3,4] [T 7 7 1,I 8 (C Qu [(.s 7)]),M 4 8])
def Zfx:PC :=
 (R [1,3,14] [M 9 4,W 10 .eql 9 3,M 11 10,U 12 11 false 4,G 13 11 false (.bin .eql (.s 12) (V 4)),I 14 (.pick (.s 11) (.v (.bool true)) (.s 13))])
def Zfy:PC :=
 (R [1,3] [K 3 1])
def Zfz:PC :=
 (R [3,16,17,18] [F 15 6 1,L 16 15,I 17 (.len 1 (.s 16)),K 18 0])
def Zf0:PC :=
 (R [3,16,17,18,19] [B 19 .lss 18 17])
def Zf1:PC :=
 (R [3,6,16,17,18] [I 20 (.ixS 7 (.s 16) (.s 18)),T 21 7 20,I 6 (.box (.v ZT)),N 7 6 21])
def Zf2:PC :=
 (R [3,16,17,18] [M 22 3,T 23 7 6,I 24 (C ZAx [(.s 23)]),B 25 .add 22 24,M 3 25])
def Zf3:PC :=
 (R [3,16,17,18] [W 26 .add 18 1,M 18 26])
def Zc4:PC :=
 (D Zf0
 (D (E 19
 .skip
 (.exit 0))
 (D (.block 1
 (D Zf1
 Zf2))
 Zf3)))
def Zc5:PC :=
 (R [2] [M 27 3,M 2 27])
def ZZc:PF:=⟨false,
 (D Zfu
 (D Zfv
 (D (D Zfw
 (D Zfx
 (E 14
 Zfy
 .skip)))
 (D (D Zfz
 (.block 0
 (.loop Zc4)))
 (D Zc5
 .ret))))),
 [.s 2]⟩
theorem ZjX:Zr Proofs.Tryz.prog false ZjW Proofs.Tryz.f205=some ZZc:=by kernel_rfl
def ZZd:List Hint:=[H [0,3],H [0,3,5],H [0,3,5,80],H [0,3,5,95],H [0,5,6],H [0,5,6],H [5],⟨[0,3,5,7],[0],[],[],[],[]⟩,H [0,3,5,7,20,21,22],H [0,3,5,7,20,21,22,23],H [0,3,5,7,9,20,21,22],H [0,3,5,7,10,20,21,22],⟨[0,3,5,7,10,20,21,22],[2],[],[],[],[]⟩,H [0,3,5,7,10,20,21,22],H [0,3,5,7,10,20,21,22],H [0,3,5,7,20,21,22],H [0,3,5,7,20,21,22],H [5],H [4]]
def ZSF:PC :=
 (R [0,3] [I 3 (.box (.s 1)),I 4 (.mv (.v .nilptr))])
def ZSG:PC :=
 (R [0,3,5] [F 11 1 3,L 12 11,F 13 2 3,T 14 3 13,F 15 0 3,L 16 15,I 17 (.build [(.int .u64 0),(.int .i64 0),(.int .i64 0),(.int .i64 0),(.int .i64 0)] [(1,1,(.s 12)),(2,3,(.s 14)),(0,1,(.s 16))]),I 18 (.box (.s 17)),M 5 18])
def ZSH:PC :=
 (R [0,3,5,80] [F 81 0 3,L 82 81,I 83 (.bin .neq (.s 82) (.v (.int .u64 0))),M 84 83,G 85 84 false (.fadr 5 (.s 3)),G 86 84 false (.ld false 1 (.s 85)),G 87 84 false (.bin .eql (.s 86) (.v (.str []))),U 88 84 false 87,G 89 88 true (.fadr 6 (.s 3)),G 90 88 true (.ld false 1 (.s 89)),G 91 88 true (.len 1 (.s 90)),G 92 88 true (.bin .eql (.s 91) (V 0)),G 93 84 false (.pick (.s 88) (.s 92) (.v (.bool false))),I 94 (.pick (.s 84) (.v (.bool true)) (.s 93)),M 80 94])
def ZSI:PC :=
 (R [0,3,5,95] [F 96 1 3,L 97 96,W 98 .eql 97 0,M 95 98])
def ZSJ:PC :=
 (R [0,5,6] [F 99 5 3,L 100 99,I 101 (.build [(.int .i64 0),(.str []),.nils] [(1,1,(.s 100))]),I 6 (.box (.v ZN)),N 3 6 101])
def ZSK:PC :=
 (R [0,5,6] [M 103 5,T 104 3 6,I 105 (C YQ [(.s 104)]),M 102 105,X 106 102 0,X 107 102 1,I 108 (.nilck (.s 103)),F 109 2 108,N 3 109 106])
def ZSL:PC :=
 (R [5] [M 110 0,M 111 5,I 112 (.mkf (.func Jw) [] [(.s 6)]),I 113 (C ZAS [(.s 110),(.s 111),(.s 112)])])
def ZSM:PC :=
 (R [0,3,5,7] [I 7 (.boxnil 1)])
def ZSN:PC :=
 (R [0,3,5,7,20,21,22] [F 19 6 3,L 20 19,I 21 (.len 1 (.s 20)),K 22 0])
def ZSO:PC :=
 (R [0,3,5,7,20,21,22,23] [B 23 .lss 22 21])
def ZPm:PC :=
 (R [0,3,5,7,9,20,21,22] [I 24 (.ixS 7 (.s 20) (.s 22)),T 25 7 24,I 9 (.box (.v ZT)),N 7 9 25])
def ZPn:PC :=
 (R [0,3,5,7,10,20,21,22] [M 26 0,T 27 7 9,I 28 (C Qy [(.s 26),(.s 27)]),M 10 28])
def ZPo:PC :=
 (R [0,3,5,7,10,20,21,22] [L 29 7,M 30 10,I 31 (.bslice true 1 [.nilptr] [(0,(.s 30))]),I 32 (.app 1 8 (.s 29) (.s 31)),N 1 7 32])
def ZEM:PC :=
 (R [0,3,5,7,10,20,21,22] [M 33 5,I 34 (.nilck (.s 33)),F 35 2 34,F 36 0 35,L 37 36,M 38 10,I 39 (.nilck (.s 38)),F 40 2 39,F 41 0 40,L 42 41,B 43 .add 37 42,I 44 (.nilck (.s 33)),F 45 2 44,F 46 0 45,N 1 46 43])
def ZEN:PC :=
 (R [0,3,5,7,10,20,21,22] [M 47 5,I 48 (.nilck (.s 47)),F 49 2 48,F 50 1 49,L 51 50,M 52 10,I 53 (.nilck (.s 52)),F 54 2 53,F 55 1 54,L 56 55,B 57 .add 51 56,I 58 (.nilck (.s 47)),F 59 2 58,F 60 1 59,N 1 60 57])
def ZEO:PC :=
 (R [0,3,5,7,20,21,22] [M 61 5,I 62 (.nilck (.s 61)),F 63 2 62,F 64 2 63,L 65 64,M 66 10,I 67 (.nilck (.s 66)),F 68 2 67,F 69 2 68,L 70 69,B 71 .add 65 70,I 72 (.nilck (.s 61)),F 73 2 72,F 74 2 73,N 1 74 71])
def ZPp:PC :=
 (R [0,3,5,7,20,21,22] [W 75 .add 22 1,M 22 75])
def ZPq:PC :=
 (D ZSO
 (D (E 23
 .skip
 (.exit 1))
 (D (.block 2
 (D ZPm
 (D ZPn
 (D ZPo
 (D ZEM
 (D ZEN
 ZEO))))))
 ZPp)))
def ZPr:PC :=
 (R [5] [M 76 0,M 77 5,I 78 (.mkf (.func JZ) [] [(.s 3),(.s 7)]),I 79 (C ZAS [(.s 76),(.s 77),(.s 78)])])
def ZPs:PC :=
 (R [4] [M 114 5,M 4 114])
def ZK7:PF:=⟨true,
 (D ZSF
 (D ZSG
 (D (.block 0
 (D ZSH
 (E 80
 .skip
 (D ZSI
 (E 95
 (D ZSJ
 (D ZSK
 ZSL))
 (D ZSM
 (D (D ZSN
 (.block 1
 (.loop ZPq)))
 ZPr)))))))
 (D ZPs
 .ret)))),
 [.s 4]⟩
theorem ZZe:Zr Proofs.Tryz.prog true ZZd Proofs.Tryz.f206=some ZK7:=by kernel_rfl
def Zc6:List Hint:=[H []]
def ZVD:PC :=
 (R [] [I 1 (.box (.s 0))])
def ZMh:PF:=⟨false,
 ZVD,
 []⟩
theorem Zc7:Zr Proofs.Tryz.prog false Zc6 Proofs.Tryz.f207=some ZMh:=by kernel_rfl
def ZSP:List Hint:=[H [0],H [2]]
def ZNZ:PC :=
 (R [0] [I 2 (.mv (.v (.bool false)))])
def ZNa:PC :=
 (R [2] [M 3 0,I 4 (.bin .lss (.s 3) (.v (.int .u8 128))),M 5 4,U 6 5 false 0,G 7 5 false (.bin .gtr (.s 6) (.v (.int .u8 191))),I 8 (.pick (.s 5) (.v (.bool true)) (.s 7)),M 2 8])
def ZFZ:PF:=⟨false,
 (D ZNZ
 (D ZNa
 .ret)),
 [.s 2]⟩
theorem ZSQ:Zr Proofs.Tryz.prog false ZSP Proofs.Tryz.f208=some ZFZ:=by kernel_rfl
def Zho:List Hint:=[H [0,1],H [0,1,9],H [4,5,6],H [0,1,17],H [4,5,6],H [4,5,6]]
def Zc8:PC :=
 (R [0,1] [I 4 (.mv (.v (.str []))),I 5 (.mv (.v (.str []))),K 6 0])
def Zc9:PC :=
 (R [0,1,9] [M 7 0,I 8 (C ZAT [(.s 7)]),I 9 (.un .not (.s 8))])
def ZdA:PC :=
 (R [4,5,6] [I 4 (.mv (.v (.str []))),I 5 (.mv (.v (.str []))),K 6 2])
def ZdB:PC :=
 (R [0,1,17] [M 10 1,W 11 .lss 10 0,M 12 11,U 13 12 false 1,U 14 12 false 0,G 15 12 false (.len 0 (.s 14)),G 16 12 false (.bin .gtr (.s 13) (.s 15)),I 17 (.pick (.s 12) (.v (.bool true)) (.s 16))])
def ZdC:PC :=
 (R [4,5,6] [I 4 (.mv (.v (.str []))),I 5 (.mv (.v (.str []))),K 6 3])
def ZdD:PC :=
 (R [4,5,6] [M 18 0,M 19 1,I 20 (.slcS (.s 18) none (some (.s 19))),M 21 0,M 22 1,I 23 (.slcS (.s 21) (some (.s 22)) none),M 4 20,M 5 23,K 6 0])
def ZTe:PF:=⟨false,
 (D Zc8
 (D (D Zc9
 (E 9
 (D ZdA
 .ret)
 .skip))
 (D (D ZdB
 (E 17
 (D ZdC
 .ret)
 .skip))
 (D ZdD
 .ret)))),
 [.s 4,.s 5,.s 6]⟩
theorem Zhp:Zr Proofs.Tryz.prog false Zho Proofs.Tryz.f213=some ZTe:=by kernel_rfl
def Zhq:List Hint:=[H [0,2,4],H [8,9,11],H [8,9,11,22],H [6,7],H [8,9,31],H [6,7],H [6,7]]
def ZdE:PC :=
 (R [0,2,4] [I 4 (.box (.s 1)),I 6 (.mv (.v (.int .u8 0))),K 7 0])
def ZdF:PC :=
 (R [8,9,11] [M 13 0,T 14 5 4,M 15 2,I 16 (C ZJq [(.s 13),(.s 14),(.s 15)]),M 12 16,X 17 12 0,X 18 12 1,X 19 12 2,X 20 12 3,M 8 17,M 9 18,M 10 19,M 11 20])
def ZdG:PC :=
 (R [8,9,11,22] [M 21 11,W 22 .neq 21 0])
def ZdH:PC :=
 (R [6,7] [M 23 11,I 6 (.mv (.v (.int .u8 0))),M 7 23])
def ZdI:PC :=
 (R [8,9,31] [M 24 9,W 25 .lss 24 0,M 26 25,U 27 26 false 9,U 28 26 false 8,G 29 26 false (.len 0 (.s 28)),G 30 26 false (.bin .geq (.s 27) (.s 29)),I 31 (.pick (.s 26) (.v (.bool true)) (.s 30))])
def ZdJ:PC :=
 (R [6,7] [I 6 (.mv (.v (.int .u8 0))),K 7 23])
def ZdK:PC :=
 (R [6,7] [M 32 8,M 33 9,I 34 (.ixStr (.s 32) (.s 33)),M 6 34,K 7 0])
def ZTf:PF:=⟨false,
 (D ZdE
 (D ZdF
 (D (D ZdG
 (E 22
 (D ZdH
 .ret)
 .skip))
 (D (D ZdI
 (E 31
 (D ZdJ
 .ret)
 .skip))
 (D ZdK
 .ret))))),
 [.s 6,.s 7]⟩
theorem Zhr:Zr Proofs.Tryz.prog false Zhq Proofs.Tryz.f218=some ZTf:=by kernel_rfl
def ZZf:List Hint:=[H [1],H [2]]
def ZSR:PC :=
 (R [1] [I 1 (.box (.s 0)),K 2 0])
def ZSS:PC :=
 (R [2] [F 3 0 1,L 4 3,M 2 4])
def ZK8:PF:=⟨false,
 (D ZSR
 (D ZSS
 .ret)),
 [.s 2]⟩
theorem ZZg:Zr Proofs.Tryz.prog false ZZf Proofs.Tryz.f219=some ZK8:=by kernel_rfl
def ZVE:List Hint:=[H [0,1],H [0,1,5],H [0,1,5,8,9],H [0,1,5,8,9,10],H [0,1,5,6,8,9],H [0,1,5,8,9,16],H [0,1,5,8,9],H [0,1,5,8,9],H [4]]
def ZPt:PC :=
 (R [0,1] [K 4 0])
def ZPu:PC :=
 (R [0,1,5] [K 5 0])
def ZPv:PC :=
 (R [0,1,5,8,9] [M 7 0,I 8 (.len 0 (.s 7)),K 9 0])
def ZPw:PC :=
 (R [0,1,5,8,9,10] [B 10 .lss 9 8])
def ZPx:PC :=
 (R [0,1,5,6,8,9] [M 11 9,M 6 11])
def ZPy:PC :=
 (R [0,1,5,8,9,16] [M 12 1,M 13 0,M 14 6,I 15 (.ixStr (.s 13) (.s 14)),I 16 (.call .norm (.s 12) [(.s 15)])])
def ZPz:PC :=
 (R [0,1,5,8,9] [M 17 5,W 18 .add 17 1,M 5 18])
def ZP0:PC :=
 (R [0,1,5,8,9] [W 19 .add 9 1,M 9 19])
def ZP1:PC :=
 (D ZPw
 (D (E 10
 .skip
 (.exit 0))
 (D (.block 1
 (D ZPx
 (D ZPy
 (E 16
 ZPz
 .skip))))
 ZP0)))
def ZP2:PC :=
 (R [4] [M 20 5,M 4 20])
def ZII:PF:=⟨false,
 (D ZPt
 (D ZPu
 (D (D ZPv
 (.block 0
 (.loop ZP1)))
 (D ZP2
 .ret)))),
 [.s 4]⟩
theorem ZVF:Zr Proofs.Tryz.prog false ZVE Proofs.Tryz.f220=some ZII:=by kernel_rfl
def Zf4:List Hint:=[H [1],H [1,5],H [2],H [9],H [2],H [2]]
def ZZh:PC :=
 (R [1] [I 1 (.box (.s 0)),K 2 0])
def ZZi:PC :=
 (R [1,5] [T 3 3 1,I 4 (C ZBB [(.s 3)]),I 5 (.un .not (.s 4))])
def ZZj:PC :=
 (R [2] [K 2 23])
def ZZk:PC :=
 (R [9] [T 6 3 1,I 7 (C ZDJ [(.s 6)]),I 8 (.fld false 0 1 (.s 7)),W 9 .gtr 8 65536])
def ZZl:PC :=
 (R [2] [K 2 5])
def ZZm:PC :=
 (R [2] [K 2 0])
def ZP3:PF:=⟨false,
 (D ZZh
 (D (D ZZi
 (E 5
 (D ZZj
 .ret)
 .skip))
 (D (D ZZk
 (E 9
 (D ZZl
 .ret)
 .skip))
 (D ZZm
 .ret)))),
 [.s 2]⟩
theorem Zf5:Zr Proofs.Tryz.prog false Zf4 Proofs.Tryz.f221=some ZP3:=by kernel_rfl
def ZjY:List Hint:=[H [1,2],H [1,2,8],H [2],⟨[1,2,3],[0],[],[],[],[]⟩,H [2,3,13,14,15],H [2,3,13,14,15,16],H [2,3,5,13,14,15],H [2,3,13,14,15],H [2,3,13,14,15],H [2]]
def Zf6:PC :=
 (R [1,2] [I 1 (.box (.s 0)),I 2 (.box (.v ZM))])
def Zf7:PC :=
 (R [1,2,8] [F 6 0 1,L 7 6,W 8 .eql 7 0])
def Zf8:PC :=
 (R [2] [F 9 1 1,L 10 9,I 11 (C ZGB [(.s 10)]),N 3 2 11])
def Zf9:PC :=
 (R [1,2,3] [I 3 (.onil 3)])
def ZgA:PC :=
 (R [2,3,13,14,15] [F 12 2 1,L 13 12,I 14 (.len 1 (.s 13)),K 15 0])
def ZgB:PC :=
 (R [2,3,13,14,15,16] [B 16 .lss 15 14])
def ZgC:PC :=
 (R [2,3,5,13,14,15] [I 17 (.ixS 4 (.s 13) (.s 15)),T 18 4 17,I 5 (.box (.v ZK)),N 4 5 18])
def ZgD:PC :=
 (R [2,3,13,14,15] [M 19 3,F 20 1 5,T 21 3 20,I 22 (.bslice false 3 [ZM] [(0,(.s 21))]),I 23 (.app 3 24 (.s 19) (.s 22)),M 3 23])
def ZgE:PC :=
 (R [2,3,13,14,15] [W 24 .add 15 1,M 15 24])
def ZgF:PC :=
 (D ZgB
 (D (E 16
 .skip
 (.exit 0))
 (D (.block 1
 (D ZgC
 ZgD))
 ZgE)))
def ZdL:PC :=
 (R [2] [M 25 3,I 26 (C ZEY [(.s 25)]),N 3 2 26])
def ZZn:PF:=⟨false,
 (D Zf6
 (D (D Zf7
 (E 8
 (D Zf8
 .ret)
 .skip))
 (D Zf9
 (D (D ZgA
 (.block 0
 (.loop ZgF)))
 (D ZdL
 .ret))))),
 [.c 2 true 3]⟩
theorem ZjZ:Zr Proofs.Tryz.prog false ZjY Proofs.Tryz.f222=some ZZn:=by kernel_rfl
def ZdM:List Hint:=[H [1,2],H [1,2,10],H [4],H [1,2,5],H [2,5,17],H [2,5],H [5,6],H [5,6,7],H [6,7,23,24],H [6,7,23,24,25],H [6,7,8,23,24],H [6,7,23,24],H [6,7,23,24],H [4]]
def ZVG:PC :=
 (R [1,2] [I 2 (.box (.s 0)),I 4 (.mv (.v .nils))])
def ZVH:PC :=
 (R [1,2,10] [L 9 2,W 10 .eql 9 0])
def ZVI:PC :=
 (R [4] [I 4 (.mv (.v .nils))])
def ZVJ:PC :=
 (R [1,2,5] [L 11 2,M 12 1,B 13 .quo 11 12,I 5 (.box (V 0)),N 1 5 13])
def ZVK:PC :=
 (R [2,5,17] [L 14 2,M 15 1,B 16 .rem 14 15,W 17 .gtr 16 0])
def ZVL:PC :=
 (R [2,5] [L 18 5,W 19 .add 18 1,N 1 5 19])
def ZVM:PC :=
 (R [5,6] [I 20 (.mkf (.func J9) [] [(.s 2),(.s 5)]),M 6 20])
def ZVN:PC :=
 (R [5,6,7] [L 21 5,I 22 (.mkslice 1 8 (.int .i64 0) (.s 21) (.s 21)),M 7 22])
def ZVO:PC :=
 (R [6,7,23,24] [L 23 5,K 24 0])
def ZVP:PC :=
 (R [6,7,23,24,25] [B 25 .lss 24 23])
def ZST:PC :=
 (R [6,7,8,23,24] [M 26 24,M 8 26])
def ZSU:PC :=
 (R [6,7,23,24] [M 27 7,M 28 8,M 29 6,M 30 8,I 31 (.call .norm (.s 29) [(.s 30)]),I 32 (.ixS 1 (.s 27) (.s 28)),N 1 32 31])
def ZSV:PC :=
 (R [6,7,23,24] [W 33 .add 24 1,M 24 33])
def ZFa:PC :=
 (D ZVP
 (D (E 25
 .skip
 (.exit 0))
 (D (.block 1
 (D ZST
 ZSU))
 ZSV)))
def ZSW:PC :=
 (R [4] [M 34 7,M 4 34])
def ZMi:PF:=⟨false,
 (D ZVG
 (D (D ZVH
 (E 10
 (D ZVI
 .ret)
 .skip))
 (D ZVJ
 (D (D ZVK
 (E 17
 ZVL
 .skip))
 (D ZVM
 (D ZVN
 (D (D ZVO
 (.block 0
 (.loop ZFa)))
 (D ZSW
 .ret)))))))),
 [.s 4]⟩
theorem ZdN:Zr Proofs.Tryz.prog false ZdM Proofs.Tryz.f223=some ZMi:=by kernel_rfl
def ZgG:List Hint:=[H [0,4,5],H [0,4,5,22],H [6,7],H [0,4,5,8,9],H [0,4,5,8,9],H [0,4,5,8,9,33],H [0,4,5,8,9,10],H [0,4,5,8,9,10,41],H [6,7],H [0,4,5,8,9,47],H [0,4,5,8,9,10],H [0,4,5,8,9,10,55],H [6,7],H [0,4,5,8,9,57],H [6,7],H [0,4,5,8,9,78],H [6,7],H [0,4,5,8,9,87],H [0,5,8,11],H [8,11,12,13],H [8,11,12,13,107],H [6,7],H [6,7],H [9,10,14],H [9,10,14,127],H [6,7],⟨[6,7],[],[],[],[(4,.blind),(2,.app0),(0,.imm)],[]⟩]
def ZZo:PC :=
 (R [0,4,5] [I 4 (.box (.s 1)),I 5 (.box (.s 2)),I 6 (.mv (.v .nils)),K 7 0])
def ZZp:PC :=
 (R [0,4,5,22] [F 15 1 4,L 16 15,W 17 .eql 16 0,M 18 17,G 19 18 true (.fadr 1 (.s 5)),G 20 18 true (.ld false 1 (.s 19)),G 21 18 true (.bin .eql (.s 20) (V 0)),I 22 (.pick (.s 18) (.s 21) (.v (.bool false)))])
def ZZq:PC :=
 (R [6,7] [M 23 0,T 24 7 4,T 25 7 5,I 26 (C ZEZ [(.s 23),(.s 24),(.s 25)]),X 27 26 0,X 28 26 1,M 6 27,M 7 28])
def ZZr:PC :=
 (R [0,4,5,8,9] [I 8 (.mv (.v .nils)),I 9 (.mv (.v .nils))])
def ZZs:PC :=
 (R [0,4,5,8,9] [K 10 0])
def ZZt:PC :=
 (R [0,4,5,8,9,33] [F 29 1 4,L 30 29,F 31 1 5,L 32 31,B 33 .geq 30 32])
def ZZu:PC :=
 (R [0,4,5,8,9,10] [M 35 0,T 36 7 4,I 37 (C J8 [(.s 35),(.s 36)]),M 34 37,X 38 34 0,X 39 34 1,M 8 38,M 10 39])
def ZZv:PC :=
 (R [0,4,5,8,9,10,41] [M 40 10,W 41 .neq 40 0])
def ZZw:PC :=
 (R [6,7] [M 42 10,I 6 (.mv (.v .nils)),M 7 42])
def ZZx:PC :=
 (R [0,4,5,8,9,47] [F 43 1 5,L 44 43,F 45 1 4,L 46 45,B 47 .geq 44 46])
def ZVQ:PC :=
 (R [0,4,5,8,9,10] [M 49 0,T 50 7 5,I 51 (C J8 [(.s 49),(.s 50)]),M 48 51,X 52 48 0,X 53 48 1,M 9 52,M 10 53])
def ZVR:PC :=
 (R [0,4,5,8,9,10,55] [M 54 10,W 55 .neq 54 0])
def ZVS:PC :=
 (R [6,7] [M 56 10,I 6 (.mv (.v .nils)),M 7 56])
def ZVT:PC :=
 (R [0,4,5,8,9,57] [F 58 1 4,L 59 58,F 60 1 5,L 61 60,B 62 .eql 59 61,M 63 62,U 64 63 true 8,G 65 63 true (.len 1 (.s 64)),U 66 63 true 9,G 67 63 true (.len 1 (.s 66)),G 68 63 true (.bin .add (.s 65) (.s 67)),G 69 63 true (.bin .leq (.s 68) (V 4)),I 70 (.pick (.s 63) (.s 69) (.v (.bool false))),M 57 70])
def ZVU:PC :=
 (R [6,7] [I 71 (.bslice false 7 [] []),M 72 8,I 73 (.app 7 80 (.s 71) (.s 72)),M 74 9,I 75 (.app 7 80 (.s 73) (.s 74)),I 76 (C QY [(.s 75)]),I 77 (.bslice false 7 [ZT] [(0,(.s 76))]),M 6 77,K 7 0])
def ZVV:PC :=
 (R [0,4,5,8,9,78] [F 79 1 4,L 80 79,F 81 1 5,L 82 81,B 83 .eql 80 82,M 78 83])
def ZVW:PC :=
 (R [6,7] [T 84 7 4,T 85 7 5,I 86 (.bslice false 7 [ZT,ZT] [(0,(.s 84)),(1,(.s 85))]),M 6 86,K 7 0])
def ZVX:PC :=
 (R [0,4,5,8,9,87] [F 88 1 4,L 89 88,F 90 1 5,L 91 90,B 92 .gtr 89 91,M 87 92])
def ZVY:PC :=
 (R [0,5,8,11] [M 93 8,I 94 (.len 1 (.s 93)),W 95 .sub 94 1,M 11 95])
def ZVZ:PC :=
 (R [8,11,12,13] [M 97 0,M 98 8,M 99 11,I 100 (.ixS 7 (.s 98) (.s 99)),T 101 7 100,T 102 7 5,I 103 (C ZAR [(.s 97),(.s 101),(.s 102)]),M 96 103,X 104 96 0,X 105 96 1,M 12 104,M 13 105])
def ZVa:PC :=
 (R [8,11,12,13,107] [M 106 13,W 107 .neq 106 0])
def ZVb:PC :=
 (R [6,7] [M 108 13,I 6 (.mv (.v .nils)),M 7 108])
def ZVc:PC :=
 (R [6,7] [I 109 (.bslice false 7 [] []),M 110 8,M 111 11,I 112 (.slc 7 (.s 110) none (some (.s 111))),I 113 (.app 7 80 (.s 109) (.s 112)),M 114 12,I 115 (.app 7 80 (.s 113) (.s 114)),I 116 (C ZEI [(.s 115)]),M 6 116,K 7 0])
def ZVd:PC :=
 (R [9,10,14] [M 118 0,T 119 7 4,M 120 9,I 121 (.ixS 7 (.s 120) (V 0)),T 122 7 121,I 123 (C ZAR [(.s 118),(.s 119),(.s 122)]),M 117 123,X 124 117 0,X 125 117 1,M 14 124,M 10 125])
def ZVe:PC :=
 (R [9,10,14,127] [M 126 10,W 127 .neq 126 0])
def ZVf:PC :=
 (R [6,7] [M 128 10,I 6 (.mv (.v .nils)),M 7 128])
def ZVg:PC :=
 (R [6,7] [I 129 (.w .imm (.bslice false 7 [] [])),M 130 14,I 131 (.w .app0 (.app 7 80 (.s 129) (.s 130))),M 132 9,I 133 (.w .blind (.slc 7 (.s 132) (some (V 1)) none)),I 134 (.app 7 80 (.s 131) (.s 133)),I 135 (C ZEI [(.s 134)]),M 6 135,K 7 0])
def ZP4:PF:=⟨false,
 (D ZZo
 (D (D ZZp
 (E 22
 (D ZZq
 .ret)
 .skip))
 (D ZZr
 (D ZZs
 (D (D ZZt
 (E 33
 (D ZZu
 (D ZZv
 (E 41
 (D ZZw
 .ret)
 .skip)))
 .skip))
 (D (D ZZx
 (E 47
 (D ZVQ
 (D ZVR
 (E 55
 (D ZVS
 .ret)
 .skip)))
 .skip))
 (D (.block 0
 (D ZVT
 (E 57
 (D ZVU
 .ret)
 (D ZVV
 (E 78
 (D ZVW
 .ret)
 (D ZVX
 (E 87
 (D ZVY
 (D ZVZ
 (D (D ZVa
 (E 107
 (D ZVb
 .ret)
 .skip))
 (D ZVc
 .ret))))
 .skip)))))))
 (D ZVd
 (D (D ZVe
 (E 127
 (D ZVf
 .ret)
 .skip))
 (D ZVg
 .ret)))))))))),
 [.s 6,.s 7]⟩
theorem ZgH:Zr Proofs.Tryz.prog false ZgG Proofs.Tryz.f225=some ZP4:=by kernel_rfl
def ZZy:List Hint:=[H [3,4,5],⟨[],[6],[],[],[(0,(.only (.s 3))),(7,(.grow (.s 3)))],[]⟩]
def ZSX:PC :=
 (R [3,4,5] [I 3 (.box (.s 0)),I 4 (.box (.s 1)),I 5 (.box (.s 2))])
def ZSY:PC :=
 (R [] [I 6 (.w (.only (.s 3)) (.ld false 1 (.s 3))),L 7 3,I 8 (.nilck (.s 7)),F 9 1 8,L 10 9,I 11 (.mkf (.func XL) [] [(.s 3),(.s 5),(.s 4)]),I 12 (.bslice true 1 [.nilfunc] [(0,(.s 11))]),I 13 (.w (.grow (.s 3)) (.app 1 8 (.s 10) (.s 12))),I 14 (.nilck (.s 6)),F 15 1 14,N 1 15 13])
def ZK9:PF:=⟨true,
 (D ZSX
 ZSY),
 []⟩
theorem ZZz:Zr Proofs.Tryz.prog true ZZy Proofs.Tryz.f226=some ZK9:=by kernel_rfl
def ZSZ:List Hint:=[H [0,1],H [1]]
def ZNb:PC :=
 (R [0,1] [I 1 (.box (.v ZN))])
def ZNc:PC :=
 (R [1] [T 2 3 0,N 3 1 2])
def ZFb:PF:=⟨false,
 (D ZNb
 (D ZNc
 .ret)),
 [.c 1 true 3]⟩
theorem ZSa:Zr Proofs.Tryz.prog false ZSZ Proofs.Tryz.f227=some ZFb:=by kernel_rfl
def ZSb:List Hint:=[H [0,1,2],H [1,2,3],H [2,3,9,10,11],H [2,3,9,10,11,12],H [2,3,5,9,10,11],⟨[2,3,9,10,11],[],[],[],[(11,.imm)],[]⟩,H [2,3,9,10,11],H [2]]
def ZNd:PC :=
 (R [0,1,2] [I 2 (.box (.v ZN))])
def ZNe:PC :=
 (R [1,2,3] [F 6 1 0,L 7 6,I 8 (.build [(.int .i64 0),(.str []),.nils] [(0,1,(.s 7))]),I 3 (.box (.v ZN)),N 3 3 8])
def ZNf:PC :=
 (R [2,3,9,10,11] [L 9 1,I 10 (.len 1 (.s 9)),K 11 0])
def ZNg:PC :=
 (R [2,3,9,10,11,12] [B 12 .lss 11 10])
def ZNh:PC :=
 (R [2,3,5,9,10,11] [I 13 (.ixS 1 (.s 9) (.s 11)),L 14 13,M 5 14])
def ZNi:PC :=
 (R [2,3,9,10,11] [F 15 2 3,L 16 15,M 17 5,I 18 (.nilck (.s 17)),F 19 0 18,L 20 19,M 21 5,I 22 (.nilck (.s 21)),F 23 2 22,T 24 3 23,I 25 (.build [(.int .u64 0),(.int .i64 0),(.int .i64 0),(.int .i64 0)] [(0,1,(.s 20)),(1,3,(.s 24))]),I 26 (.w .imm (.bslice false 4 [ZK] [(0,(.s 25))])),I 27 (.app 4 32 (.s 16) (.s 26)),F 28 2 3,N 1 28 27])
def ZNj:PC :=
 (R [2,3,9,10,11] [W 29 .add 11 1,M 11 29])
def ZNk:PC :=
 (D ZNg
 (D (E 12
 .skip
 (.exit 0))
 (D (.block 1
 (D ZNh
 ZNi))
 ZNj)))
def ZNl:PC :=
 (R [2] [T 30 3 3,N 3 2 30])
def ZFc:PF:=⟨false,
 (D ZNd
 (D ZNe
 (D (D ZNf
 (.block 0
 (.loop ZNk)))
 (D ZNl
 .ret)))),
 [.c 2 true 3]⟩
theorem ZSc:Zr Proofs.Tryz.prog false ZSb Proofs.Tryz.f228=some ZFc:=by kernel_rfl
def ZgI:List Hint:=[H [0],H [2]]
def ZZ0:PC :=
 (R [0] [I 2 (.mv (.v (.bool false)))])
def ZZ1:PC :=
 (R [2] [M 3 0,I 4 (.len 0 (.s 3)),W 5 .geq 4 1,M 6 5,U 7 6 true 0,G 8 6 true (.len 0 (.s 7)),G 9 6 true (.bin .leq (.s 8) (V 16)),I 10 (.pick (.s 6) (.s 9) (.v (.bool false))),M 2 10])
def ZP5:PF:=⟨false,
 (D ZZ0
 (D ZZ1
 .ret)),
 [.s 2]⟩
theorem ZgJ:Zr Proofs.Tryz.prog false ZgI Proofs.Tryz.f229=some ZP5:=by kernel_rfl
def ZdO:List Hint:=[H [1],H [1,9],H [2],H [1,50],H [2],H [1,3,4],H [3,4,59,60,61],H [3,4,59,60,61,62],H [3,4,6,59,60,61],H [3,4,59,60,61,112],H [2],H [3,4,59,60,61],H [2]]
def ZVh:PC :=
 (R [1] [I 1 (.box (.s 0)),I 2 (.mv (.v (.bool false)))])
def ZVi:PC :=
 (R [1,9] [F 7 0 1,L 8 7,W 9 .eql 8 0])
def ZVj:PC :=
 (R [2] [F 10 1 1,L 11 10,I 12 (.len 0 (.s 11)),W 13 .geq 12 1,M 14 13,G 15 14 true (.fadr 1 (.s 1)),G 16 14 true (.ld false 1 (.s 15)),G 17 14 true (.len 0 (.s 16)),G 18 14 true (.bin .leq (.s 17) (V 16)),I 19 (.pick (.s 14) (.s 18) (.v (.bool false))),M 20 19,G 21 20 true (.fadr 2 (.s 1)),G 22 20 true (.ld false 1 (.s 21)),G 23 20 true (.len 1 (.s 22)),G 24 20 true (.bin .eql (.s 23) (V 0)),I 25 (.pick (.s 20) (.s 24) (.v (.bool false))),M 2 25])
def ZVk:PC :=
 (R [1,50] [F 26 0 1,L 27 26,W 28 .lss 27 1,M 29 28,G 30 29 false (.fadr 0 (.s 1)),G 31 29 false (.ld false 1 (.s 30)),G 32 29 false (.bin .gtr (.s 31) (V 16)),I 33 (.pick (.s 29) (.v (.bool true)) (.s 32)),M 34 33,G 35 34 false (.fadr 1 (.s 1)),G 36 34 false (.ld false 1 (.s 35)),G 37 34 false (.bin .neq (.s 36) (.v (.str []))),I 38 (.pick (.s 34) (.v (.bool true)) (.s 37)),M 39 38,G 40 39 false (.fadr 2 (.s 1)),G 41 39 false (.ld false 1 (.s 40)),G 42 39 false (.len 1 (.s 41)),G 43 39 false (.bin .lss (.s 42) (V 2)),I 44 (.pick (.s 39) (.v (.bool true)) (.s 43)),M 45 44,G 46 45 false (.fadr 2 (.s 1)),G 47 45 false (.ld false 1 (.s 46)),G 48 45 false (.len 1 (.s 47)),G 49 45 false (.bin .gtr (.s 48) (V 4)),I 50 (.pick (.s 45) (.v (.bool true)) (.s 49))])
def ZVl:PC :=
 (R [2] [I 2 (.mv (.v (.bool false)))])
def ZVm:PC :=
 (R [1,3,4] [F 52 0 1,L 53 52,W 54 .sub 53 1,I 55 (C ZEa [(.s 54)]),M 51 55,X 56 51 0,X 57 51 1,M 3 56,M 4 57])
def ZVn:PC :=
 (R [3,4,59,60,61] [F 58 2 1,L 59 58,I 60 (.len 1 (.s 59)),K 61 0])
def ZVo:PC :=
 (R [3,4,59,60,61,62] [B 62 .lss 61 60])
def ZVp:PC :=
 (R [3,4,6,59,60,61] [I 63 (.ixS 4 (.s 59) (.s 61)),T 64 4 63,I 6 (.box (.v ZK)),N 4 6 64])
def ZVq:PC :=
 (R [3,4,59,60,61,112] [F 65 0 6,L 66 65,I 67 (C ZDK [(.s 66)]),W 68 .neq 67 0,M 69 68,G 70 69 false (.fadr 1 (.s 6)),G 71 69 false (.fadr 0 (.s 70)),G 72 69 false (.ld false 1 (.s 71)),U 73 69 false 3,G 74 69 false (.bin .lss (.s 72) (.s 73)),I 75 (.pick (.s 69) (.v (.bool true)) (.s 74)),M 76 75,G 77 76 false (.fadr 1 (.s 6)),G 78 76 false (.fadr 0 (.s 77)),G 79 76 false (.ld false 1 (.s 78)),U 80 76 false 4,G 81 76 false (.bin .gtr (.s 79) (.s 80)),I 82 (.pick (.s 76) (.v (.bool true)) (.s 81)),M 83 82,G 84 83 false (.fadr 1 (.s 6)),G 85 83 false (.fadr 1 (.s 84)),G 86 83 false (.ld false 1 (.s 85)),G 87 83 false (.bin .lss (.s 86) (V 0)),I 88 (.pick (.s 83) (.v (.bool true)) (.s 87)),M 89 88,G 90 89 false (.fadr 1 (.s 6)),G 91 89 false (.fadr 1 (.s 90)),G 92 89 false (.ld false 1 (.s 91)),G 93 89 false (.fadr 1 (.s 6)),G 94 89 false (.fadr 0 (.s 93)),G 95 89 false (.ld false 1 (.s 94)),G 96 89 false (.bin .gtr (.s 92) (.s 95)),I 97 (.pick (.s 89) (.v (.bool true)) (.s 96)),M 98 97,G 99 98 false (.fadr 1 (.s 6)),G 100 98 false (.fadr 2 (.s 99)),G 101 98 false (.ld false 1 (.s 100)),G 102 98 false (.bin .lss (.s 101) (V 0)),I 103 (.pick (.s 98) (.v (.bool true)) (.s 102)),M 104 103,G 105 104 false (.fadr 1 (.s 6)),G 106 104 false (.fadr 2 (.s 105)),G 107 104 false (.ld false 1 (.s 106)),G 108 104 false (.fadr 1 (.s 6)),G 109 104 false (.fadr 1 (.s 108)),G 110 104 false (.ld false 1 (.s 109)),G 111 104 false (.bin .gtr (.s 107) (.s 110)),I 112 (.pick (.s 104) (.v (.bool true)) (.s 111))])
def ZSd:PC :=
 (R [2] [I 2 (.mv (.v (.bool false)))])
def ZSe:PC :=
 (R [3,4,59,60,61] [W 113 .add 61 1,M 61 113])
def ZSf:PC :=
 (D ZVo
 (D (E 62
 .skip
 (.exit 0))
 (D (.block 1
 (D ZVp
 (D ZVq
 (E 112
 (D ZSd
 .ret)
 .skip))))
 ZSe)))
def ZSg:PC :=
 (R [2] [I 2 (.mv (.v (.bool true)))])
def ZMj:PF:=⟨false,
 (D ZVh
 (D (D ZVi
 (E 9
 (D ZVj
 .ret)
 .skip))
 (D (D ZVk
 (E 50
 (D ZVl
 .ret)
 .skip))
 (D ZVm
 (D (D ZVn
 (.block 0
 (.loop ZSf)))
 (D ZSg
 .ret)))))),
 [.s 2]⟩
theorem ZdP:Zr Proofs.Tryz.prog false ZdO Proofs.Tryz.f240=some ZMj:=by kernel_rfl
def ZgK:List Hint:=[H [0,2],H [0,2,3],H [0,2,3,6,7],H [0,2,3,6,7,8],H [0,2,3,4,5,6,7],H [0,2,3,6,7],H [0,2,3,6,7],H [2]]
def ZZ2:PC :=
 (R [0,2] [I 2 (.box (.v ZM))])
def ZZ3:PC :=
 (R [0,2,3] [I 3 (.box (.v ZM))])
def ZZ4:PC :=
 (R [0,2,3,6,7] [I 6 (.build [.nilfunc,.nilfunc,.nilfunc] [(0,1,(.v (.func (.func Xp) [] []))),(1,1,(.v (.func (.func XK) [] []))),(2,1,(.v (.func (.func Xo) [] [])))]),K 7 0])
def ZZ5:PC :=
 (R [0,2,3,6,7,8] [W 8 .lss 7 3])
def ZZ6:PC :=
 (R [0,2,3,4,5,6,7] [M 9 7,I 10 (.ixArr false 3 1 (.s 6) (.s 7)),M 4 9,M 5 10])
def ZZ7:PC :=
 (R [0,2,3,6,7] [M 11 4,M 12 0,M 13 5,I 14 (C ZBc [(.s 12),(.s 13)]),I 15 (.ixA 3 1 (.s 3) (.s 11)),N 1 15 14])
def ZZ8:PC :=
 (R [0,2,3,6,7] [W 16 .add 7 1,M 7 16])
def ZZ9:PC :=
 (D ZZ5
 (D (E 8
 .skip
 (.exit 0))
 (D (.block 1
 (D ZZ6
 ZZ7))
 ZZ8)))
def ZaA:PC :=
 (R [2] [T 17 3 3,I 18 (C Yg [(.s 17)]),N 3 2 18])
def ZP6:PF:=⟨false,
 (D ZZ2
 (D ZZ3
 (D (D ZZ4
 (.block 0
 (.loop ZZ9)))
 (D ZaA
 .ret)))),
 [.c 2 true 3]⟩
theorem ZgL:Zr Proofs.Tryz.prog false ZgK Proofs.Tryz.f241=some ZP6:=by kernel_rfl
def ZdQ:List Hint:=[H [0,2],H [0,2,3],H [2,3,8,9,10],H [2,3,8,9,10,11],H [2,3,5,8,9,10],H [2,3,8,9,10,20,21],H [2,3,8,9,10,20,21,22],H [2,3,6,7,8,9,10,20,21],H [2,3,8,9,10,20,21],H [2,3,8,9,10,20,21],H [2,3,8,9,10],H [2]]
def ZVr:PC :=
 (R [0,2] [I 2 (.box (.v ZM))])
def ZVs:PC :=
 (R [0,2,3] [I 3 (.box (.v ZM))])
def ZVt:PC :=
 (R [2,3,8,9,10] [M 8 0,I 9 (.len 1 (.s 8)),K 10 0])
def ZVu:PC :=
 (R [2,3,8,9,10,11] [B 11 .lss 10 9])
def ZVv:PC :=
 (R [2,3,5,8,9,10] [I 12 (.ixS 3 (.s 8) (.s 10)),T 13 3 12,I 5 (.box (.v ZM)),N 3 5 13])
def ZVw:PC :=
 (R [2,3,8,9,10,20,21] [F 14 0 5,L 15 14,F 16 1 5,L 17 16,F 18 2 5,L 19 18,I 20 (.build [(.int .i64 0),(.int .i64 0),(.int .i64 0)] [(0,1,(.s 15)),(1,1,(.s 17)),(2,1,(.s 19))]),K 21 0])
def ZVx:PC :=
 (R [2,3,8,9,10,20,21,22] [W 22 .lss 21 3])
def ZVy:PC :=
 (R [2,3,6,7,8,9,10,20,21] [M 23 21,I 24 (.ixArr false 3 1 (.s 20) (.s 21)),M 6 23,M 7 24])
def ZVz:PC :=
 (R [2,3,8,9,10,20,21] [M 25 6,I 26 (.ixA 3 1 (.s 3) (.s 25)),L 27 26,M 28 7,B 29 .add 27 28,I 30 (.ixA 3 1 (.s 3) (.s 25)),N 1 30 29])
def ZV0:PC :=
 (R [2,3,8,9,10,20,21] [W 31 .add 21 1,M 21 31])
def ZSh:PC :=
 (D ZVx
 (D (E 22
 .skip
 (.exit 2))
 (D (.block 3
 (D ZVy
 ZVz))
 ZV0)))
def ZSi:PC :=
 (R [2,3,8,9,10] [W 32 .add 10 1,M 10 32])
def ZSj:PC :=
 (D ZVu
 (D (E 11
 .skip
 (.exit 0))
 (D (.block 1
 (D ZVv
 (D ZVw
 (.block 2
 (.loop ZSh)))))
 ZSi)))
def ZSk:PC :=
 (R [2] [T 33 3 3,I 34 (C Yg [(.s 33)]),N 3 2 34])
def ZMk:PF:=⟨false,
 (D ZVr
 (D ZVs
 (D (D ZVt
 (.block 0
 (.loop ZSj)))
 (D ZSk
 .ret)))),
 [.c 2 true 3]⟩
theorem ZdR:Zr Proofs.Tryz.prog false ZdQ Proofs.Tryz.f242=some ZMk:=by kernel_rfl
def ZV1:List Hint:=[H [0,1,2],H [1,2,9],H [4],H [4]]
def ZP7:PC :=
 (R [0,1,2] [K 4 0])
def ZP8:PC :=
 (R [1,2,9] [M 5 0,L 6 1,L 7 2,B 8 .rem 6 7,B 9 .lss 5 8])
def ZP9:PC :=
 (R [4] [L 10 1,L 11 2,B 12 .quo 10 11,W 13 .add 12 1,M 4 13])
def ZQA:PC :=
 (R [4] [L 14 1,L 15 2,B 16 .quo 14 15,M 4 16])
def ZIJ:PF:=⟨false,
 (D ZP7
 (D (D ZP8
 (E 9
 (D ZP9
 .ret)
 .skip))
 (D ZQA
 .ret))),
 [.s 4]⟩
theorem ZV2:Zr Proofs.Tryz.prog false ZV1 Proofs.Tryz.f243=some ZIJ:=by kernel_rfl
def ZdS:List Hint:=[H [0,4,5],⟨[0,4,5,8,9],[],[(1,.pure)],[],[],[]⟩,H [0,4,5,32],H [6,7],H [0,5,10,11],H [0,5,10,11,43],H [6,7],H [10,11,12],H [10,11,12,52],H [6,7],H [11,13],H [11,13,61],H [6,7],⟨[13,14],[0],[],[],[],[]⟩,H [14,63,64,65],H [14,63,64,65,66],H [14,16,63,64,65],H [14,63,64,65],H [14,63,64,65],H [6,7]]
def ZV3:PC :=
 (R [0,4,5] [I 4 (.box (.s 1)),I 5 (.box (.s 2)),I 6 (.mv (.v .nils)),K 7 0])
def ZV4:PC :=
 (R [0,4,5,8,9] [T 17 7 4,I 18 (.call .pure (.v (.func (.func Q0) [] [])) [(.s 17)]),T 19 7 5,I 20 (C Q0 [(.s 19)]),M 8 18,M 9 20])
def ZV5:PC :=
 (R [0,4,5,32] [M 21 8,M 22 9,B 23 .add 21 22,W 24 .gtr 23 16,M 25 24,U 26 25 true 8,G 27 25 true (.bin .geq (.s 26) (V 8)),I 28 (.pick (.s 25) (.s 27) (.v (.bool false))),M 29 28,U 30 29 true 9,G 31 29 true (.bin .geq (.s 30) (V 8)),I 32 (.pick (.s 29) (.s 31) (.v (.bool false)))])
def ZV6:PC :=
 (R [6,7] [T 33 7 4,T 34 7 5,I 35 (.bslice false 7 [ZT,ZT] [(0,(.s 33)),(1,(.s 34))]),M 6 35,K 7 0])
def ZV7:PC :=
 (R [0,5,10,11] [M 37 0,T 38 7 4,I 39 (C ZAB [(.s 37),(.s 38)]),M 36 39,X 40 36 0,X 41 36 1,M 10 40,M 11 41])
def ZV8:PC :=
 (R [0,5,10,11,43] [M 42 11,W 43 .neq 42 0])
def ZV9:PC :=
 (R [6,7] [M 44 11,I 6 (.mv (.v .nils)),M 7 44])
def ZWA:PC :=
 (R [10,11,12] [M 46 0,T 47 7 5,I 48 (C ZAB [(.s 46),(.s 47)]),M 45 48,X 49 45 0,X 50 45 1,M 12 49,M 11 50])
def ZWB:PC :=
 (R [10,11,12,52] [M 51 11,W 52 .neq 51 0])
def ZWC:PC :=
 (R [6,7] [M 53 11,I 6 (.mv (.v .nils)),M 7 53])
def ZSl:PC :=
 (R [11,13] [M 55 10,M 56 12,I 57 (C ZGC [(.s 55),(.s 56)]),M 54 57,X 58 54 0,X 59 54 1,M 13 58,M 11 59])
def ZSm:PC :=
 (R [11,13,61] [M 60 11,W 61 .neq 60 0])
def ZSn:PC :=
 (R [6,7] [M 62 11,I 6 (.mv (.v .nils)),M 7 62])
def ZSo:PC :=
 (R [13,14] [I 14 (.onil 7)])
def ZSp:PC :=
 (R [14,63,64,65] [M 63 13,I 64 (.len 1 (.s 63)),K 65 0])
def ZSq:PC :=
 (R [14,63,64,65,66] [B 66 .lss 65 64])
def ZSr:PC :=
 (R [14,16,63,64,65] [I 67 (.ixS 1 (.s 63) (.s 65)),L 68 67,M 16 68])
def ZSs:PC :=
 (R [14,63,64,65] [M 69 14,M 70 16,I 71 (.build [(.int .u64 0),(.int .i64 0),(.int .i64 0),(.int .i64 0),(.int .i64 0),(.str []),.nils] [(5,1,(.s 70))]),I 72 (.bslice false 7 [ZT] [(0,(.s 71))]),I 73 (.app 7 80 (.s 69) (.s 72)),M 14 73])
def ZSt:PC :=
 (R [14,63,64,65] [W 74 .add 65 1,M 65 74])
def ZFd:PC :=
 (D ZSq
 (D (E 66
 .skip
 (.exit 0))
 (D (.block 1
 (D ZSr
 ZSs))
 ZSt)))
def ZSu:PC :=
 (R [6,7] [M 75 14,M 6 75,K 7 0])
def ZMl:PF:=⟨false,
 (D ZV3
 (D ZV4
 (D (D ZV5
 (E 32
 (D ZV6
 .ret)
 .skip))
 (D ZV7
 (D (D ZV8
 (E 43
 (D ZV9
 .ret)
 .skip))
 (D ZWA
 (D (D ZWB
 (E 52
 (D ZWC
 .ret)
 .skip))
 (D ZSl
 (D (D ZSm
 (E 61
 (D ZSn
 .ret)
 .skip))
 (D ZSo
 (D (D ZSp
 (.block 0
 (.loop ZFd)))
 (D ZSu
 .ret)))))))))))),
 [.s 6,.s 7]⟩
theorem ZdT:Zr Proofs.Tryz.prog false ZdS Proofs.Tryz.f245=some ZMl:=by kernel_rfl
def Zhs:List Hint:=[H [0],H [0,6],H [2],H [0,3],⟨[2],[],[(3,.pure)],[],[],[]⟩]
def ZdU:PC :=
 (R [0] [I 2 (.mv (.v .nils))])
def ZdV:PC :=
 (R [0,6] [M 4 0,I 5 (.len 1 (.s 4)),W 6 .leq 5 4])
def ZdW:PC :=
 (R [2] [M 7 0,I 8 (C QY [(.s 7)]),I 9 (.bslice false 7 [ZT] [(0,(.s 8))]),M 2 9])
def ZdX:PC :=
 (R [0,3] [M 10 0,I 11 (.len 1 (.s 10)),W 12 .add 11 1,W 13 .quo 12 2,M 3 13])
def ZdY:PC :=
 (R [2] [M 14 0,M 15 3,I 16 (.slc 7 (.s 14) none (some (.s 15))),I 17 (.call .pure (.v (.func (.func QY) [] [])) [(.s 16)]),M 18 0,M 19 3,I 20 (.slc 7 (.s 18) (some (.s 19)) none),I 21 (C QY [(.s 20)]),I 22 (.bslice false 7 [ZT,ZT] [(0,(.s 17)),(1,(.s 21))]),M 2 22])
def ZTg:PF:=⟨false,
 (D ZdU
 (D (D ZdV
 (E 6
 (D ZdW
 .ret)
 .skip))
 (D ZdX
 (D ZdY
 .ret)))),
 [.s 2]⟩
theorem Zht:Zr Proofs.Tryz.prog false Zhs Proofs.Tryz.f246=some ZTg:=by kernel_rfl
def ZSv:List Hint:=[H [0,1,2],⟨[2,5,6],[],[(5,.pure)],[],[],[]⟩,H [2,5,6,18],H [5,6],H [3,4]]
def ZNm:PC :=
 (R [0,1,2] [I 3 (.mv (.v (.int .u64 0))),K 4 0])
def ZNn:PC :=
 (R [2,5,6] [L 8 0,I 9 (.nilck (.s 8)),F 10 0 9,L 11 10,L 12 1,I 13 (.call .pure (.s 12) []),I 14 (C Jp [(.s 11),(.s 13)]),M 7 14,X 15 7 0,X 16 7 1,M 5 15,M 6 16])
def ZNo:PC :=
 (R [2,5,6,18] [M 17 6,W 18 .eql 17 0])
def ZNp:PC :=
 (R [5,6] [L 19 2,M 20 5,I 21 (.nilck (.s 19)),F 22 0 21,N 1 22 20])
def ZNq:PC :=
 (R [3,4] [M 23 5,M 24 6,M 3 23,M 4 24])
def ZFe:PF:=⟨false,
 (D ZNm
 (D ZNn
 (D (D ZNo
 (E 18
 ZNp
 .skip))
 (D ZNq
 .ret)))),
 [.s 3,.s 4]⟩
theorem ZSw:Zr Proofs.Tryz.prog false ZSv Proofs.Tryz.f247=some ZFe:=by kernel_rfl
def ZMU:List Hint:=[H [0,3],H [0,3,16],H [4,5],H [0,3,6],H [0,3,6,20],H [4,5],H [0,3,23,24,25],H [0,3,23,24,25,26],H [0,3,8,23,24,25],H [0,3,8,9,10,23,24,25],H [0,3,8,9,23,24,25,40],H [4,5],H [0,3,8,9,11,12,23,24,25],H [0,3,23,24,25,61],H [4,5],H [0,3,23,24,25],H [0,3,13,14],H [0,3,13,14,72],H [4,5],H [0,3,13],H [0,13],H [13],H [4,5]]
def ZJU:PC :=
 (R [0,3] [I 3 (.box (.s 1)),I 4 (.mv (.v (.int .u64 0))),K 5 0])
def ZJV:PC :=
 (R [0,3,16] [M 15 0,I 16 (.eqs false 3 [] (.s 15) (.v .nilptr))])
def ZJW:PC :=
 (R [4,5] [I 4 (.mv (.v (.int .u64 0))),K 5 1])
def ZJX:PC :=
 (R [0,3,6] [T 17 3 3,I 18 (C ZAQ [(.s 17)]),M 6 18])
def ZJY:PC :=
 (R [0,3,6,20] [M 19 6,W 20 .neq 19 0])
def ZJZ:PC :=
 (R [4,5] [M 21 6,I 4 (.mv (.v (.int .u64 0))),M 5 21])
def ZJa:PC :=
 (R [0,3,23,24,25] [F 22 2 3,L 23 22,I 24 (.len 1 (.s 23)),K 25 0])
def ZJb:PC :=
 (R [0,3,23,24,25,26] [B 26 .lss 25 24])
def ZJc:PC :=
 (R [0,3,8,23,24,25] [I 27 (.ixS 4 (.s 23) (.s 25)),T 28 4 27,I 8 (.box (.v ZK)),N 4 8 28])
def ZJd:PC :=
 (R [0,3,8,9,10,23,24,25] [M 30 0,I 31 (.nilck (.s 30)),F 32 2 31,L 33 32,F 34 0 8,L 35 34,I 36 (.look 0 ZN true (.s 33) (.s 35)),M 29 36,X 37 29 0,X 38 29 1,I 9 (.box (.v ZN)),N 3 9 37,M 10 38])
def ZHY:PC :=
 (R [0,3,8,9,23,24,25,40] [M 39 10,I 40 (.un .not (.s 39))])
def ZHZ:PC :=
 (R [4,5] [I 4 (.mv (.v (.int .u64 0))),K 5 10])
def ZHa:PC :=
 (R [0,3,8,9,11,12,23,24,25] [T 42 3 9,I 43 (C YQ [(.s 42)]),M 41 43,X 44 41 0,X 45 41 1,I 11 (.box (.v ZM)),N 3 11 44,M 12 45])
def ZHb:PC :=
 (R [0,3,23,24,25,61] [M 46 12,W 47 .neq 46 0,M 48 47,G 49 48 false (.fadr 0 (.s 9)),G 50 48 false (.ld false 1 (.s 49)),G 51 48 false (.fadr 0 (.s 3)),G 52 48 false (.ld false 1 (.s 51)),G 53 48 false (.bin .sub (.s 52) (V 1)),G 54 48 false (.bin .neq (.s 50) (.s 53)),I 55 (.pick (.s 48) (.v (.bool true)) (.s 54)),M 56 55,G 57 56 false (.ld true 3 (.s 11)),G 58 56 false (.fadr 1 (.s 8)),G 59 56 false (.ld true 3 (.s 58)),G 60 56 false (.eqs true 0 [(0,0),(1,0),(2,0)] (.s 57) (.s 59)),I 61 (.pick (.s 56) (.v (.bool true)) (.s 60))])
def ZHc:PC :=
 (R [4,5] [I 4 (.mv (.v (.int .u64 0))),K 5 23])
def ZHd:PC :=
 (R [0,3,23,24,25] [W 62 .add 25 1,M 25 62])
def ZHe:PC :=
 (D ZJb
 (D (E 26
 .skip
 (.exit 0))
 (D (.block 1
 (D ZJc
 (D ZJd
 (D (D ZHY
 (E 40
 (D ZHZ
 .ret)
 .skip))
 (D ZHa
 (D ZHb
 (E 61
 (D ZHc
 .ret)
 .skip)))))))
 ZHd)))
def ZHf:PC :=
 (R [0,3,13,14] [M 64 0,I 65 (.nilck (.s 64)),F 66 1 65,L 67 66,I 68 (C Y8 [(.s 67)]),M 63 68,X 69 63 0,X 70 63 1,M 13 69,M 14 70])
def ZHg:PC :=
 (R [0,3,13,14,72] [M 71 14,W 72 .neq 71 0])
def ZHh:PC :=
 (R [4,5] [M 73 14,I 4 (.mv (.v (.int .u64 0))),M 5 73])
def ZAX:PC :=
 (R [0,3,13] [F 74 2 3,L 75 74,I 76 (C QC [(.s 75)]),F 77 2 3,N 1 77 76])
def ZAY:PC :=
 (R [0,13] [M 78 0,I 79 (.nilck (.s 78)),F 80 2 79,L 81 80,M 82 13,T 83 3 3,J (.mupd 0 (.s 81) (.s 82) (.s 83))])
def ZAZ:PC :=
 (R [13] [M 84 0,I 85 (.nilck (.s 84)),F 86 3 85,L 87 86,W 88 .add 87 1,I 89 (.nilck (.s 84)),F 90 3 89,N 1 90 88])
def ZAa:PC :=
 (R [4,5] [M 91 13,M 4 91,K 5 0])
def ZCP:PF:=⟨false,
 (D ZJU
 (D (D ZJV
 (E 16
 (D ZJW
 .ret)
 .skip))
 (D (D ZJX
 (D ZJY
 (E 20
 (D ZJZ
 .ret)
 .skip)))
 (D (D ZJa
 (.block 0
 (.loop ZHe)))
 (D ZHf
 (D (D ZHg
 (E 72
 (D ZHh
 .ret)
 .skip))
 (D ZAX
 (D ZAY
 (D ZAZ
 (D ZAa
 .ret)))))))))),
 [.s 4,.s 5]⟩
theorem ZMV:Zr Proofs.Tryz.prog false ZMU Proofs.Tryz.f248=some ZCP:=by kernel_rfl
def ZdZ:List Hint:=[H [0],H [0,2,3],H [2,3,4,5],H [2,3,4,5,6],H [2,3,4,5],H [2,3,4,5],H [2,3,4,5],H [2,3]]
def ZWD:PC :=
 (R [0] [K 2 0,K 3 0])
def ZWE:PC :=
 (R [0,2,3] [K 2 8,K 3 16])
def ZWF:PC :=
 (R [2,3,4,5] [M 4 0,K 5 0])
def ZWG:PC :=
 (R [2,3,4,5,6] [B 6 .lss 5 4])
def ZWH:PC :=
 (R [2,3,4,5] [M 7 2,W 8 .mul 7 2,M 2 8])
def ZWI:PC :=
 (R [2,3,4,5] [M 9 3,W 10 .mul 9 4,I 11 (.mnx false (.s 10) (V 65536)),M 3 11])
def ZWJ:PC :=
 (R [2,3,4,5] [W 12 .add 5 1,M 5 12])
def ZWK:PC :=
 (D ZWG
 (D (E 6
 .skip
 (.exit 0))
 (D (.block 1
 (D ZWH
 ZWI))
 ZWJ)))
def ZWL:PC :=
 (R [2,3] [M 13 2,M 14 3,I 15 (.mnx false (.s 14) (V 65536)),M 2 13,M 3 15])
def ZMm:PF:=⟨false,
 (D ZWD
 (D ZWE
 (D (D ZWF
 (.block 0
 (.loop ZWK)))
 (D ZWL
 .ret)))),
 [.s 2,.s 3]⟩
theorem Zda:Zr Proofs.Tryz.prog false ZdZ Proofs.Tryz.f254=some ZMm:=by kernel_rfl
def ZaB:List Hint:=[H [0],H [3,4],H [19],H [2],H [2]]
def ZSx:PC :=
 (R [0] [K 2 0])
def ZSy:PC :=
 (R [3,4] [M 6 0,I 7 (C ZDL [(.s 6)]),M 5 7,X 8 5 0,X 9 5 1,M 3 8,M 4 9])
def ZSz:PC :=
 (R [19] [M 10 3,W 11 .geq 10 16384,M 12 11,U 13 12 false 4,G 14 12 false (.bin .lss (.s 13) (.v (.int .u64 1))),I 15 (.pick (.s 12) (.v (.bool true)) (.s 14)),M 16 15,U 17 16 false 4,G 18 16 false (.bin .gtr (.s 17) (.v (.int .u64 4294967295))),I 19 (.pick (.s 16) (.v (.bool true)) (.s 18))])
def ZS0:PC :=
 (R [2] [K 2 2])
def ZS1:PC :=
 (R [2] [K 2 0])
def ZLA:PF:=⟨false,
 (D ZSx
 (D (D ZSy
 (D ZSz
 (E 19
 (D ZS0
 .ret)
 .skip)))
 (D ZS1
 .ret))),
 [.s 2]⟩
theorem ZaC:Zr Proofs.Tryz.prog false ZaB Proofs.Tryz.f255=some ZLA:=by kernel_rfl
def ZWM:List Hint:=[H [],H [2]]
def ZQB:PC :=
 (R [] [I 2 (.mv (.v (.bool false)))])
def ZQC:PC :=
 (R [2] [I 2 (.mv (.v (.bool true)))])
def ZIK:PF:=⟨false,
 (D ZQB
 (D ZQC
 .ret)),
 [.s 2]⟩
theorem ZWN:Zr Proofs.Tryz.prog false ZWM Proofs.Tryz.f256=some ZIK:=by kernel_rfl
def ZNr:List Hint:=[H [1,2],H [1,2,5],H [2],H [2]]
def ZLB:PC :=
 (R [1,2] [I 1 (.box (.s 0)),I 2 (.box (.v ZM))])
def ZLC:PC :=
 (R [1,2,5] [T 3 3 1,I 4 (.build [(.int .i64 0),(.int .i64 0),(.int .i64 0)] []),I 5 (.eqs false 0 [(0,0),(1,0),(2,0)] (.s 3) (.s 4))])
def ZLD:PC :=
 (R [2] [I 6 (.build [(.int .i64 0),(.int .i64 0),(.int .i64 0)] []),N 3 2 6])
def ZLE:PC :=
 (R [2] [I 7 (.ixA 3 1 (.s 1) (V 0)),L 8 7,I 9 (.ixA 3 1 (.s 1) (V 1)),L 10 9,I 11 (.ixA 3 1 (.s 1) (V 2)),L 12 11,I 13 (.build [(.int .i64 0),(.int .i64 0),(.int .i64 0)] [(0,1,(.s 8)),(1,1,(.s 10)),(2,1,(.s 12))]),N 3 2 13])
def ZDc:PF:=⟨false,
 (D ZLB
 (D (D ZLC
 (E 5
 (D ZLD
 .ret)
 .skip))
 (D ZLE
 .ret))),
 [.c 2 true 3]⟩
theorem ZNs:Zr Proofs.Tryz.prog false ZNr Proofs.Tryz.f257=some ZDc:=by kernel_rfl
def ZgM:List Hint:=[H [0,1],H [0,1,15],H [4,5],H [0,1,6],H [0,1,6,21],H [4,5],H [0,1,6,31],H [4,5],H [6,7],H [4,5]]
def ZaD:PC :=
 (R [0,1] [I 4 (.mv (.v .nils)),K 5 0])
def ZaE:PC :=
 (R [0,1,15] [M 8 0,I 9 (C ZAT [(.s 8)]),I 10 (.un .not (.s 9)),M 11 10,U 12 11 false 1,G 13 11 false (C ZAT [(.s 12)]),G 14 11 false (.un .not (.s 13)),I 15 (.pick (.s 11) (.v (.bool true)) (.s 14))])
def ZaF:PC :=
 (R [4,5] [I 4 (.mv (.v .nils)),K 5 2])
def ZaG:PC :=
 (R [0,1,6] [M 16 0,M 17 1,B 18 .add 16 17,M 6 18])
def ZaH:PC :=
 (R [0,1,6,21] [M 19 6,I 20 (.len 0 (.s 19)),W 21 .leq 20 16])
def ZaI:PC :=
 (R [4,5] [M 22 6,I 23 (.bslice false 1 [(.str [])] [(0,(.s 22))]),M 4 23,K 5 0])
def ZaJ:PC :=
 (R [0,1,6,31] [M 24 0,I 25 (.len 0 (.s 24)),W 26 .geq 25 8,M 27 26,U 28 27 true 1,G 29 27 true (.len 0 (.s 28)),G 30 27 true (.bin .geq (.s 29) (V 8)),I 31 (.pick (.s 27) (.s 30) (.v (.bool false)))])
def ZaK:PC :=
 (R [4,5] [M 32 0,M 33 1,I 34 (.bslice false 1 [(.str []),(.str [])] [(0,(.s 32)),(1,(.s 33))]),M 4 34,K 5 0])
def ZaL:PC :=
 (R [6,7] [M 35 6,I 36 (.len 0 (.s 35)),W 37 .add 36 1,W 38 .quo 37 2,M 7 38])
def ZaM:PC :=
 (R [4,5] [M 39 6,M 40 7,I 41 (.slcS (.s 39) none (some (.s 40))),M 42 6,M 43 7,I 44 (.slcS (.s 42) (some (.s 43)) none),I 45 (.bslice false 1 [(.str []),(.str [])] [(0,(.s 41)),(1,(.s 44))]),M 4 45,K 5 0])
def ZQD:PF:=⟨false,
 (D ZaD
 (D (D ZaE
 (E 15
 (D ZaF
 .ret)
 .skip))
 (D ZaG
 (D (D ZaH
 (E 21
 (D ZaI
 .ret)
 .skip))
 (D (D ZaJ
 (E 31
 (D ZaK
 .ret)
 .skip))
 (D ZaL
 (D ZaM
 .ret))))))),
 [.s 4,.s 5]⟩
theorem ZgN:Zr Proofs.Tryz.prog false ZgM Proofs.Tryz.f260=some ZQD:=by kernel_rfl
def ZLF:List Hint:=[H [0],H [0,6],H [2,3],H [0,12],H [2,3],H [0,4],H [0,4],H [0,4],H [2,3]]
def ZHi:PC :=
 (R [0] [I 2 (.mv (.v (.int .u64 0))),K 3 0])
def ZHj:PC :=
 (R [0,6] [M 5 0,I 6 (.eqs false 3 [] (.s 5) (.v .nilptr))])
def ZHk:PC :=
 (R [2,3] [I 2 (.mv (.v (.int .u64 0))),K 3 1])
def ZHl:PC :=
 (R [0,12] [M 7 0,I 8 (.nilck (.s 7)),F 9 0 8,L 10 9,I 11 (.len 1 (.s 10)),W 12 .eql 11 0])
def ZHm:PC :=
 (R [2,3] [I 2 (.mv (.v (.int .u64 0))),K 3 6])
def ZHn:PC :=
 (R [0,4] [M 13 0,I 14 (.nilck (.s 13)),F 15 0 14,L 16 15,M 17 0,I 18 (.nilck (.s 17)),F 19 0 18,L 20 19,I 21 (.len 1 (.s 20)),W 22 .sub 21 1,I 23 (.ixS 1 (.s 16) (.s 22)),L 24 23,M 4 24])
def ZHo:PC :=
 (R [0,4] [M 25 0,M 26 0,I 27 (.nilck (.s 26)),F 28 0 27,L 29 28,M 30 0,I 31 (.nilck (.s 30)),F 32 0 31,L 33 32,I 34 (.len 1 (.s 33)),W 35 .sub 34 1,I 36 (.slc 1 (.s 29) none (some (.s 35))),I 37 (.nilck (.s 25)),F 38 0 37,N 1 38 36])
def ZHp:PC :=
 (R [0,4] [M 39 0,I 40 (.nilck (.s 39)),F 41 1 40,L 42 41,M 43 4,I 44 (.ixS 1 (.s 42) (.s 43)),J (.st 1 (.s 44) (.v (.int .u8 1)))])
def ZHq:PC :=
 (R [2,3] [M 45 4,M 46 0,I 47 (.nilck (.s 46)),F 48 2 47,L 49 48,M 50 4,I 51 (.ixS 1 (.s 49) (.s 50)),L 52 51,I 53 (C ZEX [(.s 45),(.s 52)]),X 54 53 0,X 55 53 1,M 2 54,M 3 55])
def ZBR:PF:=⟨false,
 (D ZHi
 (D (D ZHj
 (E 6
 (D ZHk
 .ret)
 .skip))
 (D (D ZHl
 (E 12
 (D ZHm
 .ret)
 .skip))
 (D ZHn
 (D ZHo
 (D ZHp
 (D ZHq
 .ret))))))),
 [.s 2,.s 3]⟩
theorem ZLG:Zr Proofs.Tryz.prog false ZLF Proofs.Tryz.f261=some ZBR:=by kernel_rfl
def ZaN:List Hint:=[H [0],H [2,3]]
def ZS2:PC :=
 (R [0] [K 2 0,I 3 (.mv (.v (.int .u64 0)))])
def ZS3:PC :=
 (R [2,3] [M 4 0,I 5 (.bin .and (.s 4) (.v (.int .u64 65535))),I 6 (.cint .i64 (.s 5)),M 7 0,I 8 (.bin .shr (.s 7) (.v (.int .u64 16))),M 2 6,M 3 8])
def ZLH:PF:=⟨false,
 (D ZS2
 (D ZS3
 .ret)),
 [.s 2,.s 3]⟩
theorem ZaO:Zr Proofs.Tryz.prog false ZaN Proofs.Tryz.f263=some ZLH:=by kernel_rfl
end Go.Q15
