/- Resolved code, printed by program. No condition. -/
import Derived.Test.YtcdebbidfgmieaaGreatProg
import Derived.KernelRfl
import Derived.Test.YtcdebbidfgmieaaGreatRsT3
set_option linter.unusedVariables false
set_option linter.unusedSimpArgs false
namespace Go.Q15
open Go Go.QAbs Go.Proofs
set_option maxRecDepth 100000
noncomputable abbrev c0(b:Bool)(h:List Hint)(f:Func):=Zu Proofs.Tryz.prog b h f
def kp0:PC->List (List Nat)
 | .seq a b=>kp0 a++kp0 b
 | .reg k _=>[k]
 | .regH _ k _=>[k]
 | .ite _ a b=>kp0 a++kp0 b
 | .loop b=>kp0 b
 | .block _ b=>kp0 b
 | _=>[]
def hz0(ov:List (Nat × Hint)):Nat->List (List Nat)->List Hint
 | _,[]=>[]
 | n,k::l=>((ov.find? fun p=>p.1==n).map (·.2)).getD ⟨k,[],[],[],[],[]⟩::hz0 ov (n+1) l
def h0(ov:List (Nat × Hint))(p:PF):List Hint:=hz0 ov 0 (kp0 p.body)
def h0R(ov:List (Nat × Hint))(p:RF):List Hint:=hz0 ov 0 (kp0 p.pre++kp0 p.rng.assign++kp0 p.rng.body++kp0 p.post)
noncomputable abbrev ck0 (b:Bool) (o:List (Nat × Hint)) (p:PF) (f:Func):=c0 b (h0 o p) f
abbrev QI:FuncId:=4
abbrev Y8:FuncId:=7
abbrev Ye:FuncId:=9
abbrev Jx:FuncId:=10
abbrev ZCO:FuncId:=11
abbrev Y9:FuncId:=12
abbrev ZBU:FuncId:=13
abbrev Yf:FuncId:=14
abbrev Qb:FuncId:=15
abbrev JA:FuncId:=16
abbrev QO:FuncId:=17
abbrev QJ:FuncId:=18
abbrev XA:FuncId:=19
abbrev JB:FuncId:=20
abbrev Jg:FuncId:=21
abbrev Yu:FuncId:=22
abbrev XZ:FuncId:=25
abbrev Xw:FuncId:=30
abbrev Xx:FuncId:=31
abbrev Yg:FuncId:=36
abbrev Xa:FuncId:=37
abbrev ZHi:FuncId:=38
abbrev XL:FuncId:=39
abbrev JO:FuncId:=40
abbrev ZEC:FuncId:=41
abbrev XM:FuncId:=42
abbrev ZHj:FuncId:=43
abbrev ZAL:FuncId:=44
abbrev Yh:FuncId:=46
abbrev ZAM:FuncId:=47
abbrev YL:FuncId:=48
abbrev YS:FuncId:=49
abbrev J4:FuncId:=50
abbrev YT:FuncId:=51
abbrev XB:FuncId:=54
abbrev J3:FuncId:=55
abbrev ZaO:FuncId:=58
abbrev ZDt:FuncId:=59
abbrev ZCP:FuncId:=60
abbrev Ya:FuncId:=61
abbrev ZCQ:FuncId:=64
abbrev ZAN:FuncId:=65
abbrev ZAO:FuncId:=66
abbrev YA:FuncId:=67
abbrev Yq:FuncId:=68
abbrev ZAB:FuncId:=69
abbrev J5:FuncId:=70
abbrev Ql:FuncId:=71
abbrev XN:FuncId:=72
abbrev Xm:FuncId:=73
abbrev ZBV:FuncId:=74
abbrev JY:FuncId:=79
abbrev YU:FuncId:=80
abbrev Qm:FuncId:=81
abbrev Xf:FuncId:=82
abbrev J0:FuncId:=83
abbrev ZA6:FuncId:=84
abbrev ZCR:FuncId:=87
abbrev ZDu:FuncId:=88
abbrev ZHl:FuncId:=93
abbrev JT:FuncId:=94
abbrev YV:FuncId:=95
abbrev YW:FuncId:=96
abbrev ZCS:FuncId:=97
abbrev ZFM:FuncId:=98
abbrev QP:FuncId:=99
abbrev Qq:FuncId:=100
abbrev ZCT:FuncId:=101
abbrev ZAs:FuncId:=102
abbrev Yr:FuncId:=103
abbrev ZBn:FuncId:=104
abbrev ZAt:FuncId:=105
abbrev Qo:FuncId:=106
abbrev Z9:FuncId:=109
abbrev XC:FuncId:=113
abbrev Ys:FuncId:=115
abbrev ZA7:FuncId:=116
abbrev ZHm:FuncId:=117
abbrev ZAP:FuncId:=118
abbrev ZAQ:FuncId:=119
abbrev Js:FuncId:=120
abbrev JP:FuncId:=121
abbrev ZCU:FuncId:=132
abbrev ZCV:FuncId:=133
abbrev ZBo:FuncId:=134
abbrev ZCW:FuncId:=135
abbrev J6:FuncId:=136
abbrev ZAR:FuncId:=137
abbrev ZED:FuncId:=138
abbrev ZDw:FuncId:=139
abbrev XO:FuncId:=140
abbrev Jj:FuncId:=141
abbrev ZA8:FuncId:=147
abbrev ZFN:FuncId:=148
abbrev ZEE:FuncId:=149
abbrev ZFO:FuncId:=150
abbrev XD:FuncId:=151
abbrev ZEF:FuncId:=153
abbrev Xn:FuncId:=154
abbrev XP:FuncId:=155
abbrev Xo:FuncId:=156
abbrev ZBW:FuncId:=157
abbrev Yi:FuncId:=158
abbrev I(d:Nat)(o:PO):PI:=⟨some d,none,false,o⟩
abbrev G(d g:Nat)(b:Bool)(o:PO):PI:=⟨some d,some (g,b),false,o⟩
abbrev J(o:PO):PI:=⟨none,none,false,o⟩
abbrev C(f:FuncId)(a:List Opd):PO:=.call .norm (.v (.func (.func f) [] [])) a
abbrev H(k:List Nat):Hint:=⟨k,[],[],[],[],[]⟩
abbrev V(i:Int):Opd:=.v (.int .i64 i)
abbrev M(d s:Nat):PI:=I d (.mv (.s s))
abbrev X(d s i:Nat):PI:=I d (.ext (.s s) i)
abbrev L(d s:Nat):PI:=I d (.ld false 1 (.s s))
abbrev T(d n s:Nat):PI:=I d (.ld true n (.s s))
abbrev F(d n s:Nat):PI:=I d (.fadr n (.s s))
abbrev U(d g:Nat)(b:Bool)(s:Nat):PI:=G d g b (.mv (.s s))
abbrev W(d:Nat)(o:BinOp)(s:Nat)(i:Int):PI:=I d (.bin o (.s s) (V i))
abbrev B(d:Nat)(o:BinOp)(s t:Nat):PI:=I d (.bin o (.s s) (.s t))
abbrev K(d:Nat)(i:Int):PI:=I d (.mv (V i))
abbrev N(n a x:Nat):PI:=J (.st n (.s a) (.s x))
abbrev E(c:Nat)(a b:PC):PC:=.ite (.s c) a b
abbrev D(a b:PC):PC:=.seq a b
abbrev R(k:List Nat)(l:List PI):PC:=.reg k l
abbrev ZT:AV:=.agg [(.int .u64 0),(.int .i64 0),(.int .i64 0),(.int .i64 0),(.int .i64 0),(.str []),.nils]
abbrev ZR:AV:=.agg [(.int .u64 0),(.int .i64 0),(.int .i64 0),(.int .i64 0),(.int .i64 0)]
abbrev ZM:AV:=.agg [(.int .i64 0),(.int .i64 0),(.int .i64 0)]
abbrev ZN:AV:=.agg [(.int .i64 0),(.str []),.nils]
abbrev ZK:AV:=.agg [(.int .u64 0),(.int .i64 0),(.int .i64 0),(.int .i64 0)]
def ZDQ:=R [0,1,2,3,4] [I 10 (.mv (.v (.bool false)))]
def ZDR:=R [0,1,2,3,4,42] [M 40 0,M 41 1,I 42 (C Y8 [(.s 40),(.s 41)])]
def ZDS:=R [10] [I 43 (C QO []),M 10 43]
def ZDT:=R [2,3,4,11,12,14] [M 45 0,M 46 1,I 47 (C Ye [(.s 45),(.s 46)]),M 44 47,X 48 44 0,X 49 44 1,X 50 44 2,X 51 44 3,I 11 (.box (.v .nilptr)),I 14 (.box (.v (.bool false))),N 1 11 48,M 12 49,M 13 50,N 1 14 51]
def ZDU:=R [2,3,4,11,12,14,53] [L 52 14,I 53 (.un .not (.s 52))]
def ZDV:=R [10] [I 10 (.mv (.v (.bool false)))]
def ZDW:=R [2,3,4,11,12,14,56] [M 54 12,I 55 (.len 1 (.s 54)),W 56 .eql 55 0]
def ZDX:=R [10] [I 57 (C QO []),M 10 57]
def ZDY:=R [3,4,11,12,14,15] [M 58 12,M 59 2,M 60 12,I 61 (.len 1 (.s 60)),W 62 .sub 61 1,I 63 (C Jx [(.s 59),(.s 62)]),I 64 (.ixS 5 (.s 58) (.s 63)),T 65 5 64,I 15 (.box (.v ZR)),N 5 15 65]
def ZDZ:=R [4,11,12,14,15,16] [M 66 12,M 67 3,M 68 12,I 69 (.len 1 (.s 68)),W 70 .sub 69 1,I 71 (C Jx [(.s 67),(.s 70)]),I 72 (.ixS 5 (.s 66) (.s 71)),T 73 5 72,I 16 (.box (.v ZR)),N 5 16 73]
def ZCX:=R [11,14,15,16,17] [M 74 12,M 75 4,M 76 12,I 77 (.len 1 (.s 76)),W 78 .sub 77 1,I 79 (C Jx [(.s 75),(.s 78)]),I 80 (.ixS 5 (.s 74) (.s 79)),T 81 5 80,I 17 (.box (.v ZR)),N 5 17 81]
def ZCY:=R [11,14,15,16,17,18] [I 82 (.mkf (.func QJ) [] [(.s 11),(.s 14)]),M 18 82]
def ZCZ:=R [11,14,15,16,17,18,19,20,21] [M 83 18,T 84 5 15,I 85 (.w .imm (.bslice false 5 [ZR] [(0,(.s 84))])),I 86 (.call .pure (.s 83) [(.s 85)]),M 87 18,T 88 5 16,I 89 (.w .imm (.bslice false 5 [ZR] [(0,(.s 88))])),I 90 (.call .pure (.s 87) [(.s 89)]),M 91 18,T 92 5 17,I 93 (.w .imm (.bslice false 5 [ZR] [(0,(.s 92))])),I 94 (.call .norm (.s 91) [(.s 93)]),M 19 86,M 20 90,M 21 94]
def ZCa:=R [11,14,15,16,19,20,21,22,23] [M 95 18,T 96 5 15,T 97 5 16,T 98 5 17,I 99 (.w .imm (.bslice false 5 [ZR,ZR,ZR] [(0,(.s 96)),(1,(.s 97)),(2,(.s 98))])),I 100 (.call .pure (.s 95) [(.s 99)]),M 101 18,T 102 5 17,T 103 5 15,T 104 5 16,I 105 (.w .imm (.bslice false 5 [ZR,ZR,ZR] [(0,(.s 102)),(1,(.s 103)),(2,(.s 104))])),I 106 (.call .norm (.s 101) [(.s 105)]),M 22 100,M 23 106]
def ZCb:=R [11,14,15,16,19,20,21,22,23,24,25] [L 108 11,T 109 5 15,T 110 5 16,I 111 (.bslice false 5 [ZR,ZR] [(0,(.s 109)),(1,(.s 110))]),I 112 (C JB [(.s 108),(.s 111)]),M 107 112,X 113 107 0,X 114 107 1,M 24 113,M 25 114]
def ZCc:=R [11,14,15,16,19,20,21,22,23,24,25,26,27] [L 116 11,T 117 5 15,T 118 5 16,I 119 (C Y9 [(.s 116),(.s 117),(.s 118)]),M 115 119,X 120 115 0,X 121 115 1,M 26 120,M 27 121]
def ZCd:=R [11,14,15,19,20,21,22,23,24,25,26,27,28,29] [L 123 11,T 124 5 15,T 125 5 16,I 126 (C Jg [(.s 123),(.s 124),(.s 125)]),M 122 126,X 127 122 0,X 128 122 1,M 28 127,M 29 128]
def ZCe:=R [11,14,19,20,21,22,23,24,25,26,27,28,29,30,31] [L 130 11,T 131 5 15,I 132 (C Yf [(.s 130),(.s 131)]),M 129 132,X 133 129 0,X 134 129 1,M 30 133,M 31 134]
def ZCf:=R [11,19,20,21,22,24,28,30,164] [L 135 14,I 136 (.un .not (.s 135)),M 137 136,U 138 137 false 25,G 139 137 false (.bin .neq (.s 138) (V 0)),I 140 (.pick (.s 137) (.v (.bool true)) (.s 139)),M 141 140,U 142 141 false 27,G 143 141 false (.bin .neq (.s 142) (V 0)),I 144 (.pick (.s 141) (.v (.bool true)) (.s 143)),M 145 144,U 146 145 false 29,G 147 145 false (.bin .neq (.s 146) (V 0)),I 148 (.pick (.s 145) (.v (.bool true)) (.s 147)),M 149 148,U 150 149 false 31,G 151 149 false (.bin .neq (.s 150) (V 0)),I 152 (.pick (.s 149) (.v (.bool true)) (.s 151)),M 153 152,U 154 153 false 22,U 155 153 false 23,G 156 153 false (C Qb [(.s 154),(.s 155)]),G 157 153 false (.un .not (.s 156)),I 158 (.pick (.s 153) (.v (.bool true)) (.s 157)),M 159 158,U 160 159 false 24,U 161 159 false 26,G 162 159 false (C Qb [(.s 160),(.s 161)]),G 163 159 false (.un .not (.s 162)),I 164 (.pick (.s 159) (.v (.bool true)) (.s 163))]
def ZCg:=R [10] [I 10 (.mv (.v (.bool false)))]
def ZCh:=R [19,20,21,22,24,28,30,32] [L 165 11,I 166 (C Yu [(.s 165)]),M 32 166]
def ZCi:=R [19,20,21,22,24,28,30,32,33] [K 33 0]
def ZCj:=R [19,20,21,22,24,28,30,32,33,34] [K 34 0]
def ZCk:=R [19,20,21,22,24,28,30,32,33,34,170] [M 167 34,M 168 32,I 169 (.len 1 (.s 168)),B 170 .lss 167 169]
def ZCl:=R [19,20,21,22,24,28,30,32,33,34,35,36,37] [M 173 19,M 174 32,M 175 34,I 176 (.ixS 1 (.s 174) (.s 175)),L 177 176,I 178 (.call .pure (.v (.func (.func JA) [] [])) [(.s 173),(.s 177)]),M 179 20,M 180 32,M 181 34,I 182 (.ixS 1 (.s 180) (.s 181)),L 183 182,I 184 (.call .pure (.v (.func (.func JA) [] [])) [(.s 179),(.s 183)]),M 185 21,M 186 32,M 187 34,I 188 (.ixS 1 (.s 186) (.s 187)),L 189 188,I 190 (C JA [(.s 185),(.s 189)]),M 35 178,M 36 184,M 37 190]
def ZCm:=R [19,20,21,22,24,28,30,32,33,34,35,36,197] [M 191 35,M 192 191,U 193 192 false 36,I 194 (.pick (.s 192) (.v (.bool true)) (.s 193)),M 195 194,U 196 195 false 37,I 197 (.pick (.s 195) (.v (.bool true)) (.s 196))]
def ZCn:=R [19,20,21,22,24,28,30,32,33,34,35,36,212] [M 198 33,M 199 22,I 200 (.len 1 (.s 199)),B 201 .geq 198 200,M 202 201,U 203 202 false 22,U 204 202 false 33,G 205 202 false (.ixS 1 (.s 203) (.s 204)),G 206 202 false (.ld false 1 (.s 205)),U 207 202 false 32,U 208 202 false 34,G 209 202 false (.ixS 1 (.s 207) (.s 208)),G 210 202 false (.ld false 1 (.s 209)),G 211 202 false (.bin .neq (.s 206) (.s 210)),I 212 (.pick (.s 202) (.v (.bool true)) (.s 211))]
def ZCo:=R [10] [I 10 (.mv (.v (.bool false)))]
def ZCp:=R [19,20,21,22,24,28,30,32,33,34,35,36] [M 213 33,W 214 .add 213 1,M 33 214]
def ZCq:=R [19,20,21,22,24,28,30,32,33,34,239] [M 215 24,M 216 32,M 217 34,I 218 (.ixS 1 (.s 216) (.s 217)),L 219 218,I 220 (C JA [(.s 215),(.s 219)]),M 221 35,M 222 221,U 223 222 true 36,I 224 (.pick (.s 222) (.s 223) (.v (.bool false))),I 225 (.eqs true 6 [] (.s 220) (.s 224)),M 226 225,U 227 226 false 28,U 228 226 false 32,U 229 226 false 34,G 230 226 false (.ixS 1 (.s 228) (.s 229)),G 231 226 false (.ld false 1 (.s 230)),G 232 226 false (C JA [(.s 227),(.s 231)]),U 233 226 false 35,U 234 226 false 233,U 235 234 true 36,G 236 234 true (.un .not (.s 235)),G 237 226 false (.pick (.s 234) (.s 236) (.v (.bool false))),G 238 226 false (.eqs true 6 [] (.s 232) (.s 237)),I 239 (.pick (.s 226) (.v (.bool true)) (.s 238))]
def ZCr:=R [10] [I 10 (.mv (.v (.bool false)))]
def ZCs:=R [19,20,21,22,24,28,30,32,33,34] [M 171 34,W 172 .add 171 1,M 34 172]
def p_quartolaw22_ReachSets_32:PC:=(D (D ZCk
 (E 170
 .skip
 (.exit 0)))
 (D (.block 1
 (D ZCl
 (D (D ZCm
 (E 197
 (D (D ZCn
 (E 212
 (D ZCo
 .ret)
 .skip))
 ZCp)
 .skip))
 (D ZCq
 (E 239
 (D ZCr
 .ret)
 .skip)))))
 ZCs))
def ZCt:=R [19,22,24,28,30,33,38] [K 38 0]
def ZCu:=R [19,22,24,28,30,33,38,39] [K 39 0]
def ZCv:=R [19,22,24,28,30,33,38,39,243] [M 240 39,M 241 30,I 242 (.len 1 (.s 241)),B 243 .lss 240 242]
def ZCw:=R [19,22,24,28,30,33,38,39,260] [M 246 38,M 247 28,I 248 (.len 1 (.s 247)),B 249 .lss 246 248,M 250 249,U 251 250 true 28,U 252 250 true 38,G 253 250 true (.ixS 1 (.s 251) (.s 252)),G 254 250 true (.ld false 1 (.s 253)),U 255 250 true 30,U 256 250 true 39,G 257 250 true (.ixS 1 (.s 255) (.s 256)),G 258 250 true (.ld false 1 (.s 257)),G 259 250 true (.bin .eql (.s 254) (.s 258)),I 260 (.pick (.s 250) (.s 259) (.v (.bool false)))]
def ZCx:=R [19,22,24,28,30,33,38,39] [M 261 38,W 262 .add 261 1,M 38 262]
def ZCy:=R [19,22,24,28,30,33,38,39] [M 244 39,W 245 .add 244 1,M 39 245]
def p_quartolaw22_ReachSets_39:PC:=(D (D ZCv
 (E 243
 .skip
 (.exit 2)))
 (D (.block 3
 (D ZCw
 (E 260
 ZCx
 .skip)))
 ZCy))
def ZCz:=R [10] [M 263 33,M 264 22,I 265 (.len 1 (.s 264)),B 266 .eql 263 265,M 267 266,U 268 267 true 38,U 269 267 true 28,G 270 267 true (.len 1 (.s 269)),G 271 267 true (.bin .eql (.s 268) (.s 270)),I 272 (.pick (.s 267) (.s 271) (.v (.bool false))),M 273 272,U 274 273 true 19,G 275 273 true (.len 1 (.s 274)),U 276 273 true 24,G 277 273 true (.len 1 (.s 276)),U 278 273 true 28,G 279 273 true (.len 1 (.s 278)),G 280 273 true (.bin .add (.s 277) (.s 279)),G 281 273 true (.bin .eql (.s 275) (.s 280)),I 282 (.pick (.s 273) (.s 281) (.v (.bool false))),M 283 282,G 284 283 true (C QO []),I 285 (.pick (.s 283) (.s 284) (.v (.bool false))),M 10 285]
def QS:PF:=⟨false,
 (D ZDQ
 (D (D ZDR
 (E 42
 (D ZDS
 .ret)
 .skip))
 (D ZDT
 (D (D ZDU
 (E 53
 (D ZDV
 .ret)
 .skip))
 (D (D ZDW
 (E 56
 (D ZDX
 .ret)
 .skip))
 (D ZDY
 (D ZDZ
 (D ZCX
 (D ZCY
 (D ZCZ
 (D ZCa
 (D ZCb
 (D ZCc
 (D ZCd
 (D ZCe
 (D (D ZCf
 (E 164
 (D ZCg
 .ret)
 .skip))
 (D ZCh
 (D ZCi
 (D (D ZCj
 (.block 0
 (.loop p_quartolaw22_ReachSets_32)))
 (D ZCt
 (D (D ZCu
 (.block 2
 (.loop p_quartolaw22_ReachSets_39)))
 (D ZCz
 .ret)))))))))))))))))))))),
 [.s 10]⟩
theorem ZEW:ck0 false [(12,⟨[11,14,15,16,17,18,19,20,21],[],[(3,.pure),(7,.pure)],[],[(10,.imm),(6,.imm),(2,.imm)],[]⟩),(13,⟨[11,14,15,16,19,20,21,22,23],[],[(5,.pure)],[],[(10,.imm),(4,.imm)],[]⟩),(24,⟨[19,20,21,22,24,28,30,32,33,34,35,36,37],[],[(5,.pure),(11,.pure)],[],[],[]⟩)] QS Tryz.f4=some QS:=by kernel_rfl
def ZFP:=R [0,1] [I 4 (.mv (.v (.bool false)))]
def ZFQ:=R [4] [M 5 0,I 6 (C Xw [(.s 5)]),M 7 6,U 8 7 false 1,G 9 7 false (C Xx [(.s 8)]),I 10 (.pick (.s 7) (.v (.bool true)) (.s 9)),M 11 10,U 12 11 false 1,G 13 11 false (.len 1 (.s 12)),G 14 11 false (.bin .gtr (.s 13) (V 12)),I 15 (.pick (.s 11) (.v (.bool true)) (.s 14)),M 4 15]
def ZBF:PF:=⟨false,
 (D ZFP
 (D ZFQ
 .ret)),
 [.s 4]⟩
theorem ZHp:ck0 false [] ZBF Tryz.f7=some ZBF:=by kernel_rfl
def ZHq:=R [0,1] [I 4 (.mv (.v .nilptr)),I 5 (.mv (.v .nils)),I 6 (.mv (.v .nils)),I 7 (.mv (.v (.bool false)))]
def ZHr:=R [0,1,8,9,10] [M 20 0,I 21 (C Yg [(.s 20)]),M 19 21,X 22 19 0,X 23 19 1,X 24 19 2,M 8 22,M 9 23,M 10 24]
def ZHs:=R [0,1,8,9,26] [M 25 10,I 26 (.un .not (.s 25))]
def ZHt:=R [4,5,6,7] [I 4 (.mv (.v .nilptr)),I 5 (.mv (.v .nils)),I 6 (.mv (.v .nils)),I 7 (.mv (.v (.bool false)))]
def ZHu:=R [1,8,9,11] [I 27 (.bslice false 1 [] []),M 28 0,I 29 (.app 1 16 (.s 27) (.s 28)),M 11 29]
def ZHv:=R [1,8,9,11,12] [K 12 0]
def ZHw:=R [1,8,9,11,12,33] [M 30 12,M 31 1,I 32 (.len 1 (.s 31)),B 33 .lss 30 32]
def ZHx:=R [1,8,9,11,12,13,14] [M 37 8,M 38 9,M 39 1,M 40 12,M 41 12,W 42 .add 41 1,I 43 (.slc 5 (.s 39) (some (.s 40)) (some (.s 42))),I 44 (C Xa [(.s 37),(.s 38),(.s 43)]),M 36 44,X 45 36 0,X 46 36 1,M 13 45,M 14 46]
def ZHy:=R [1,8,9,11,12,13,48] [M 47 14,I 48 (.un .not (.s 47))]
def ZHz:=R [4,5,6,7] [I 4 (.mv (.v .nilptr)),I 5 (.mv (.v .nils)),I 6 (.mv (.v .nils)),I 7 (.mv (.v (.bool false)))]
def ZGc:=R [1,8,9,11,12,13,15,16] [M 50 8,M 51 13,I 52 (.ixS 7 (.s 51) (V 0)),T 53 7 52,I 54 (C ZHi [(.s 50),(.s 53)]),M 49 54,X 55 49 0,X 56 49 1,M 15 55,M 16 56]
def ZGd:=R [1,8,9,11,12,13,15,58] [M 57 16,W 58 .neq 57 0]
def ZGe:=R [4,5,6,7] [I 4 (.mv (.v .nilptr)),I 5 (.mv (.v .nils)),I 6 (.mv (.v .nils)),I 7 (.mv (.v (.bool false)))]
def ZGf:=R [1,8,9,11,12,15,16,17] [M 60 8,M 61 13,I 62 (.ixS 7 (.s 61) (V 0)),T 63 7 62,I 64 (C XL [(.s 60),(.s 63)]),M 59 64,X 65 59 0,X 66 59 1,X 67 59 2,I 17 (.box (.v ZR)),N 5 17 65,M 18 66,M 16 67]
def ZGg:=R [1,8,9,11,12,15,16,17,69] [M 68 16,W 69 .eql 68 6]
def ZGh:=R [1,8,9,11,12,15,17,71] [M 70 16,W 71 .neq 70 0]
def ZGi:=R [4,5,6,7] [I 4 (.mv (.v .nilptr)),I 5 (.mv (.v .nils)),I 6 (.mv (.v .nils)),I 7 (.mv (.v (.bool false)))]
def ZGj:=R [1,8,9,11,12,15] [M 72 9,T 73 5 17,I 74 (.bslice false 5 [ZR] [(0,(.s 73))]),I 75 (.app 5 40 (.s 72) (.s 74)),M 9 75]
def ZGk:=R [1,8,9,11,12] [M 76 11,M 77 15,I 78 (.bslice false 1 [(.str [])] [(0,(.s 77))]),I 79 (.app 1 16 (.s 76) (.s 78)),M 11 79]
def ZGl:=R [1,8,9,11,12] [M 34 12,W 35 .add 34 1,M 12 35]
def ZGm:PC:=(D (D ZHw
 (E 33
 .skip
 (.exit 0)))
 (D (.block 1
 (D ZHx
 (D (D ZHy
 (E 48
 (D ZHz
 .ret)
 .skip))
 (D ZGc
 (D (D ZGd
 (E 58
 (D ZGe
 .ret)
 .skip))
 (D ZGf
 (D (D ZGg
 (E 69
 (.exit 1)
 .skip))
 (D (D ZGh
 (E 71
 (D ZGi
 .ret)
 .skip))
 (D ZGj
 ZGk)))))))))
 ZGl))
def ZGn:=R [4,5,6,7] [M 80 8,M 81 9,M 82 11,M 4 80,M 5 81,M 6 82,I 7 (.mv (.v (.bool true)))]
def Xy:PF:=⟨true,
 (D ZHq
 (D ZHr
 (D (D ZHs
 (E 26
 (D ZHt
 .ret)
 .skip))
 (D ZHu
 (D (D ZHv
 (.block 0
 (.loop ZGm)))
 (D ZGn
 .ret)))))),
 [.s 4,.s 5,.s 6,.s 7]⟩
theorem ZKf:ck0 true [] Xy Tryz.f9=some Xy:=by kernel_rfl
def ZH0:=R [0,1] [K 4 0]
def ZH1:=R [4] [M 5 0,M 6 1,I 7 (C JO [(.s 5),(.s 6)]),M 4 7]
def ZC0:PF:=⟨false,
 (D ZH0
 (D ZH1
 .ret)),
 [.s 4]⟩
theorem ZKh:ck0 false [] ZC0 Tryz.f10=some ZC0:=by kernel_rfl
def ZPU:=R [5,6,7,8,9,10] [I 5 (.box (.s 0)),I 6 (.box (.s 1)),I 7 (.box (.s 2)),I 8 (.box (.s 3)),I 9 (.box (.s 4)),I 10 (.box (.v (.agg [(.int .u64 0),(.int .i64 0),(.int .i64 0),(.int .i64 0),(.int .i64 0),.nils,.nils]))),K 11 0]
def ZPV:=R [10,11] [L 12 5,I 13 (.mkf (.func XM) [] [(.s 5),(.s 6),(.s 7),(.s 8),(.s 9)]),T 14 5 6,I 15 (.bslice false 5 [ZR] [(0,(.s 14))]),I 16 (C ZEC [(.s 12),(.s 13),(.s 15)]),X 17 16 0,X 18 16 1,N 7 10 17,M 11 18]
def ZH2:PF:=⟨false,
 (D ZPU
 (D ZPV
 .ret)),
 [.c 10 true 7,.s 11]⟩
theorem ZWj:ck0 false [] ZH2 Tryz.f11=some ZH2:=by kernel_rfl
def ZWk:=R [0,3,20] [I 3 (.box (.s 1)),I 4 (.mv (.v .nils)),K 5 0]
def ZWl:=R [0,3,6,20] [M 10 0,T 11 5 3,I 12 (C Yh [(.s 10),(.s 11)]),M 6 12]
def ZWm:=R [0,3,6,14,20] [M 13 6,W 14 .neq 13 0]
def ZWn:=R [4,5] [M 15 6,I 4 (.mv (.v .nils)),M 5 15]
def ZWo:=R [0,3,7,20] [I 7 (.boxnil 1)]
def ZWp:=R [0,3,7,8,20] [I 16 (.mkmap),I 8 (.box (.v .nilmap)),N 1 8 16]
def ZWq:=R [7,8,19,20] [M 17 0,T 18 5 3,I 19 (C ZAM [(.s 17),(.s 18)])]
def ZWr:=R [7,8,9] [M 9 20]
def ZWs:=R [7,8,9,25] [L 22 8,M 23 9,I 24 (.look 0 (.bool false) false (.s 22) (.s 23)),I 25 (.un .not (.s 24))]
def ZWt:=R [7,9] [L 26 8,M 27 9,J (.mupd 0 (.s 26) (.s 27) (.v (.bool true)))]
def ZSt:=R [7] [L 28 7,M 29 9,I 30 (.bslice false 1 [(.int .u64 0)] [(0,(.s 29))]),I 31 (.app 1 8 (.s 28) (.s 30)),N 1 7 31]
def ZSu:=R [4,5] [L 32 7,M 4 32,K 5 0]
def p_rope_Nodes:RF:=⟨33,
 (D ZWk
 (D (D ZWl
 (D ZWm
 (E 14
 (D ZWn
 .ret)
 .skip)))
 (D ZWo
 (D ZWp
 (D ZWq
 .skip))))),
 ⟨(.s 19),[20,21],
 ZWr,
 (.block 1
 (D ZWs
 (E 25
 (D ZWt
 ZSt)
 .skip)))⟩,
 (D .skip
 (D ZSu
 .ret)),
 [.s 4,.s 5]⟩
theorem Zd3:ZWX Proofs.Tryz.prog (h0R [(4,⟨[0,3,7,20],[0],[],[],[],[]⟩)] p_rope_Nodes) Proofs.Tryz.f14=some p_rope_Nodes:=by kernel_rfl
def ZC1:=R [0,1] [I 4 (.mv (.v (.bool false)))]
def ZC2:=R [0,1,10] [M 6 0,I 7 (.len 1 (.s 6)),M 8 1,I 9 (.len 1 (.s 8)),B 10 .neq 7 9]
def ZC3:=R [4] [I 4 (.mv (.v (.bool false)))]
def ZC4:=R [0,1,5] [K 5 0]
def ZC5:=R [0,1,5,14] [M 11 5,M 12 0,I 13 (.len 1 (.s 12)),B 14 .lss 11 13]
def ZC6:=R [0,1,5,25] [M 17 0,M 18 5,I 19 (.ixS 1 (.s 17) (.s 18)),L 20 19,M 21 1,M 22 5,I 23 (.ixS 1 (.s 21) (.s 22)),L 24 23,B 25 .neq 20 24]
def ZC7:=R [4] [I 4 (.mv (.v (.bool false)))]
def ZC8:=R [0,1,5] [M 15 5,W 16 .add 15 1,M 5 16]
def ZC9:PC:=(D (D ZC5
 (E 14
 .skip
 (.exit 0)))
 (D (.block 1
 (D ZC6
 (E 25
 (D ZC7
 .ret)
 .skip)))
 ZC8))
def ZDA:=R [4] [I 4 (.mv (.v (.bool true)))]
def Xg:PF:=⟨false,
 (D ZC1
 (D (D ZC2
 (E 10
 (D ZC3
 .ret)
 .skip))
 (D (D ZC4
 (.block 0
 (.loop ZC9)))
 (D ZDA
 .ret)))),
 [.s 4]⟩
theorem ZEH:ck0 false [] Xg Tryz.f15=some Xg:=by kernel_rfl
def ZJS:=R [0,1] [I 4 (.mv (.v (.bool false)))]
def ZJT:=R [0,1,5] [K 5 0]
def ZJU:=R [0,1,5,9] [M 6 5,M 7 0,I 8 (.len 1 (.s 7)),B 9 .lss 6 8]
def ZJV:=R [0,1,5,17] [M 12 0,M 13 5,I 14 (.ixS 1 (.s 12) (.s 13)),L 15 14,M 16 1,B 17 .eql 15 16]
def ZJW:=R [4] [I 4 (.mv (.v (.bool true)))]
def ZJX:=R [0,1,5] [M 10 5,W 11 .add 10 1,M 5 11]
def ZJY:PC:=(D (D ZJU
 (E 9
 .skip
 (.exit 0)))
 (D (.block 1
 (D ZJV
 (E 17
 (D ZJW
 .ret)
 .skip)))
 ZJX))
def ZJZ:=R [4] [I 4 (.mv (.v (.bool false)))]
def ZDx:PF:=⟨false,
 (D ZJS
 (D (D ZJT
 (.block 0
 (.loop ZJY)))
 (D ZJZ
 .ret))),
 [.s 4]⟩
theorem ZMF:ck0 false [] ZDx Tryz.f16=some ZDx:=by kernel_rfl
def ZGo:=R [] [I 0 (.mv (.v (.bool false)))]
def ZGp:=R [1,2,3,4] [I 8 (C YL []),M 7 8,X 9 7 0,X 10 7 1,X 11 7 2,X 12 7 3,I 2 (.box (.v ZR)),I 3 (.box (.v ZR)),M 1 9,N 5 2 10,N 5 3 11,M 4 12]
def ZGq:=R [1,2,3,14] [M 13 4,I 14 (.un .not (.s 13))]
def ZGr:=R [0] [I 0 (.mv (.v (.bool false)))]
def ZGs:=R [5,6] [M 16 1,T 17 5 2,T 18 5 3,I 19 (.bslice false 5 [ZR,ZR] [(0,(.s 17)),(1,(.s 18))]),I 20 (C JB [(.s 16),(.s 19)]),M 15 20,X 21 15 0,X 22 15 1,M 5 21,M 6 22]
def ZGt:=R [0] [M 23 6,W 24 .eql 23 0,M 25 24,U 26 25 true 5,G 27 25 true (.bslice false 1 [(.int .u64 0)] [(0,(.v (.int .u64 65537)))]),G 28 25 true (C Qb [(.s 26),(.s 27)]),I 29 (.pick (.s 25) (.s 28) (.v (.bool false))),M 0 29]
def JC:PF:=⟨false,
 (D ZGo
 (D ZGp
 (D (D ZGq
 (E 14
 (D ZGr
 .ret)
 .skip))
 (D ZGs
 (D ZGt
 .ret))))),
 [.s 0]⟩
theorem ZJb:ck0 false [] JC Tryz.f17=some JC:=by kernel_rfl
def ZBp:=R [0,1,2] [I 4 (.mv (.v .nils))]
def ZBq:=R [2,5,6] [L 8 1,M 9 0,I 10 (C XA [(.s 8),(.s 9)]),M 7 10,X 11 7 0,X 12 7 1,M 5 11,M 6 12]
def ZBr:=R [5] [L 13 2,M 14 13,U 15 14 true 6,G 16 14 true (.bin .eql (.s 15) (V 0)),I 17 (.pick (.s 14) (.s 16) (.v (.bool false))),N 1 2 17]
def ZBs:=R [4] [M 18 5,M 4 18]
def XT:PF:=⟨false,
 (D ZBp
 (D ZBq
 (D ZBr
 (D ZBs
 .ret)))),
 [.s 4]⟩
theorem ZDb:ck0 false [] XT Tryz.f18=some XT:=by kernel_rfl
def ZaP:=R [0,1] [I 4 (.mv (.v .nils)),K 5 0]
def ZaQ:=R [6,7] [M 9 0,M 10 1,I 11 (C YS [(.s 9),(.s 10)]),M 8 11,X 12 8 0,X 13 8 1,M 6 12,M 7 13]
def ZaR:=R [6,7,15] [M 14 7,W 15 .neq 14 0]
def ZaS:=R [4,5] [M 16 7,I 4 (.mv (.v .nils)),M 5 16]
def ZaT:=R [4,5] [M 17 6,I 18 (C J4 [(.s 17),(V 1)]),M 4 18,K 5 0]
def ZAC:PF:=⟨false,
 (D ZaP
 (D ZaQ
 (D (D ZaR
 (E 15
 (D ZaS
 .ret)
 .skip))
 (D ZaT
 .ret)))),
 [.s 4,.s 5]⟩
theorem Zgc:ck0 false [] ZAC Tryz.f19=some ZAC:=by kernel_rfl
def ZPW:=R [0,1] [I 4 (.mv (.v .nils)),K 5 0]
def ZPX:=R [6,7] [M 9 0,M 10 1,I 11 (C YS [(.s 9),(.s 10)]),M 8 11,X 12 8 0,X 13 8 1,M 6 12,M 7 13]
def ZPY:=R [6,7,15] [M 14 7,W 15 .neq 14 0]
def ZPZ:=R [4,5] [M 16 7,I 4 (.mv (.v .nils)),M 5 16]
def ZPa:=R [4,5] [M 17 6,I 18 (C J4 [(.s 17),(V 2)]),M 4 18,K 5 0]
def YY:PF:=⟨false,
 (D ZPW
 (D ZPX
 (D (D ZPY
 (E 15
 (D ZPZ
 .ret)
 .skip))
 (D ZPa
 .ret)))),
 [.s 4,.s 5]⟩
theorem ZWv:ck0 false [] YY Tryz.f20=some YY:=by kernel_rfl
def ZMG:=R [0,4,5] [I 4 (.box (.s 1)),I 5 (.box (.s 2)),I 6 (.mv (.v .nils)),K 7 0]
def ZMH:=R [0,4,8,9] [M 15 0,T 16 5 4,T 17 5 5,I 18 (.bslice false 5 [ZR,ZR] [(0,(.s 16)),(1,(.s 17))]),I 19 (C YS [(.s 15),(.s 18)]),M 14 19,X 20 14 0,X 21 14 1,M 8 20,M 9 21]
def ZMI:=R [0,4,8,9,23] [M 22 9,W 23 .neq 22 0]
def ZMJ:=R [6,7] [M 24 9,I 6 (.mv (.v .nils)),M 7 24]
def ZMK:=R [8,9,10] [M 26 0,T 27 5 4,I 28 (C Yf [(.s 26),(.s 27)]),M 25 28,X 29 25 0,X 30 25 1,M 10 29,M 9 30]
def ZML:=R [8,9,10,32] [M 31 9,W 32 .neq 31 0]
def ZMM:=R [6,7] [M 33 9,I 6 (.mv (.v .nils)),M 7 33]
def ZMN:=R [8,10,11] [I 11 (.onil 1)]
def ZMO:=R [8,11,34,35,36] [M 34 10,I 35 (.len 1 (.s 34)),K 36 0]
def ZMP:=R [8,11,34,35,36,37] [B 37 .lss 36 35]
def ZKi:=R [8,11,13,34,35,36] [I 38 (.ixS 1 (.s 34) (.s 36)),L 39 38,M 13 39]
def ZKj:=R [8,11,13,34,35,36,43] [M 40 8,M 41 13,I 42 (.look 0 (.int .i64 0) false (.s 40) (.s 41)),W 43 .eql 42 1]
def ZKk:=R [8,11,34,35,36] [M 44 11,M 45 13,I 46 (.bslice false 1 [(.int .u64 0)] [(0,(.s 45))]),I 47 (.app 1 8 (.s 44) (.s 46)),M 11 47]
def ZKl:=R [8,11,34,35,36] [W 48 .add 36 1,M 36 48]
def ZKm:PC:=(D ZMP
 (D (E 37
 .skip
 (.exit 0))
 (D (.block 1
 (D ZKi
 (D ZKj
 (E 43
 ZKk
 .skip))))
 ZKl)))
def ZKn:=R [6,7] [M 49 11,M 6 49,K 7 0]
def J7:PF:=⟨false,
 (D ZMG
 (D ZMH
 (D (D ZMI
 (E 23
 (D ZMJ
 .ret)
 .skip))
 (D ZMK
 (D (D ZML
 (E 32
 (D ZMM
 .ret)
 .skip))
 (D ZMN
 (D (D ZMO
 (.block 0
 (.loop ZKm)))
 (D ZKn
 .ret)))))))),
 [.s 6,.s 7]⟩
theorem ZSw:ck0 false [(7,⟨[8,10,11],[0],[],[],[],[]⟩)] J7 Tryz.f21=some J7:=by kernel_rfl
def ZEX:=R [0] [I 2 (.mv (.v .nils))]
def ZEY:=R [0,4] [M 3 0,I 4 (.eqs false 3 [] (.s 3) (.v .nilptr))]
def ZEZ:=R [2] [I 2 (.mv (.v .nils))]
def ZEa:=R [2] [M 5 0,I 6 (.nilck (.s 5)),F 7 1 6,L 8 7,I 9 (C YT [(.s 8)]),M 2 9]
def ZAf:PF:=⟨false,
 (D ZEX
 (D (D ZEY
 (E 4
 (D ZEZ
 .ret)
 .skip))
 (D ZEa
 .ret))),
 [.s 2]⟩
theorem ZGv:ck0 false [] ZAf Tryz.f22=some ZAf:=by kernel_rfl
def ZGw:=R [0,2] [I 2 (.box (.v (.agg [(.int .i64 0),(.int .i64 0),(.int .i64 0),(.int .i64 0),(.int .i64 0),(.int .i64 0),(.int .i64 0)])))]
def ZGx:=R [0,2,4] [M 3 0,I 4 (.eqs false 3 [] (.s 3) (.v .nilptr))]
def ZGy:=R [2] [I 5 (.build [(.int .i64 0),(.int .i64 0),(.int .i64 0),(.int .i64 0),(.int .i64 0),(.int .i64 0),(.int .i64 0)] []),N 7 2 5]
def ZGz:=R [2] [M 6 0,I 7 (.nilck (.s 6)),F 8 0 7,L 9 8,M 10 0,I 11 (.nilck (.s 10)),F 12 1 11,L 13 12,I 14 (.call .pure (.v (.func (.func XB) [] [])) [(.s 13)]),I 15 (.len 1 (.s 14)),M 16 0,I 17 (.nilck (.s 16)),F 18 2 17,L 19 18,I 20 (.len 2 (.s 19)),M 21 0,I 22 (.nilck (.s 21)),F 23 1 22,L 24 23,I 25 (.call .pure (.v (.func (.func J3) [] [])) [(.s 24)]),I 26 (.len 1 (.s 25)),M 27 0,I 28 (.nilck (.s 27)),F 29 3 28,L 30 29,M 31 0,I 32 (.nilck (.s 31)),F 33 4 32,L 34 33,M 35 0,I 36 (.nilck (.s 35)),F 37 5 36,L 38 37,I 39 (.build [(.int .i64 0),(.int .i64 0),(.int .i64 0),(.int .i64 0),(.int .i64 0),(.int .i64 0),(.int .i64 0)] [(0,1,(.s 9)),(1,1,(.s 15)),(2,1,(.s 20)),(3,1,(.s 26)),(4,1,(.s 30)),(5,1,(.s 34)),(6,1,(.s 38))]),N 7 2 39]
def ZBZ:PF:=⟨false,
 (D ZGw
 (D (D ZGx
 (E 4
 (D ZGy
 .ret)
 .skip))
 (D ZGz
 .ret))),
 [.c 2 true 7]⟩
theorem ZJd:ck0 false [(3,⟨[2],[],[(8,.pure),(19,.pure)],[],[],[]⟩)] ZBZ Tryz.f25=some ZBZ:=by kernel_rfl
def ZH3:=R [0] [I 2 (.mv (.v (.bool false)))]
def ZH4:=R [0,3] [K 3 0]
def ZH5:=R [0,3,4] [K 4 0]
def ZH6:=R [0,3,4,12] [M 5 4,M 6 0,I 7 (.len 1 (.s 6)),B 8 .lss 5 7,M 9 8,U 10 9 true 3,G 11 9 true (.bin .leq (.s 10) (V 900)),I 12 (.pick (.s 9) (.s 11) (.v (.bool false)))]
def ZH7:=R [0,3,4] [M 15 3,M 16 0,M 17 4,I 18 (.ixS 1 (.s 16) (.s 17)),L 19 18,I 20 (.len 0 (.s 19)),I 21 (.mnx false (.s 20) (V 1000)),B 22 .add 15 21,M 3 22]
def ZH8:=R [0,3,4] [M 13 4,W 14 .add 13 1,M 4 14]
def ZH9:PC:=(D (D ZH6
 (E 12
 .skip
 (.exit 0)))
 (D (.block 1
 ZH7)
 ZH8))
def ZIA:=R [2] [M 23 0,I 24 (.len 1 (.s 23)),W 25 .gtr 24 4,M 26 25,U 27 26 false 3,G 28 26 false (.bin .gtr (.s 27) (V 900)),I 29 (.pick (.s 26) (.v (.bool true)) (.s 28)),M 2 29]
def ZDB:PF:=⟨false,
 (D ZH3
 (D ZH4
 (D (D ZH5
 (.block 0
 (.loop ZH9)))
 (D ZIA
 .ret)))),
 [.s 2]⟩
theorem ZKp:ck0 false [] ZDB Tryz.f30=some ZDB:=by kernel_rfl
def ZIB:=R [0] [I 2 (.mv (.v (.bool false)))]
def ZIC:=R [0,3] [K 3 0]
def ZID:=R [0,3,11] [M 4 3,M 5 0,I 6 (.len 1 (.s 5)),B 7 .lss 4 6,M 8 7,U 9 8 true 3,G 10 8 true (.bin .lss (.s 9) (V 100)),I 11 (.pick (.s 8) (.s 10) (.v (.bool false)))]
def ZIE:=R [0,3,20] [M 14 0,M 15 3,I 16 (.ixS 5 (.s 14) (.s 15)),F 17 4 16,L 18 17,I 19 (.len 0 (.s 18)),W 20 .gtr 19 200]
def ZIF:=R [2] [I 2 (.mv (.v (.bool true)))]
def ZIG:=R [0,3] [M 12 3,W 13 .add 12 1,M 3 13]
def ZIH:PC:=(D (D ZID
 (E 11
 .skip
 (.exit 0)))
 (D (.block 1
 (D ZIE
 (E 20
 (D ZIF
 .ret)
 .skip)))
 ZIG))
def ZII:=R [2] [M 21 0,I 22 (.len 1 (.s 21)),W 23 .gtr 22 60,M 2 23]
def ZDC:PF:=⟨false,
 (D ZIB
 (D (D ZIC
 (.block 0
 (.loop ZIH)))
 (D ZII
 .ret))),
 [.s 2]⟩
theorem ZKr:ck0 false [] ZDC Tryz.f31=some ZDC:=by kernel_rfl
def ZIJ:=R [0] [I 2 (.mv (.v .nilptr)),I 3 (.mv (.v .nils)),I 4 (.mv (.v (.bool false)))]
def ZIK:=R [0,5,6] [I 12 (C ZDt [(V 1500),(.v (.int .u64 3))]),M 11 12,X 13 11 0,X 14 11 1,M 5 13,M 6 14]
def ZIL:=R [0,5,20] [M 15 5,I 16 (.eqs false 3 [] (.s 15) (.v .nilptr)),M 17 16,U 18 17 false 6,G 19 17 false (.bin .neq (.s 18) (V 0)),I 20 (.pick (.s 17) (.v (.bool true)) (.s 19))]
def ZIM:=R [2,3,4] [I 2 (.mv (.v .nilptr)),I 3 (.mv (.v .nils)),I 4 (.mv (.v (.bool false)))]
def ZIN:=R [0,5,7] [I 7 (.onil 5)]
def ZIO:=R [0,5,7,8] [K 8 0]
def ZIP:=R [0,5,7,8,24] [M 21 8,M 22 0,I 23 (.len 1 (.s 22)),B 24 .lss 21 23]
def ZIQ:=R [0,5,7,8,9,10] [M 28 5,M 29 0,M 30 8,I 31 (.ixS 1 (.s 29) (.s 30)),L 32 31,I 33 (C ZCP [(.s 28),(.s 32)]),M 27 33,X 34 27 0,X 35 27 1,I 9 (.box (.v ZR)),N 5 9 34,M 10 35]
def ZIR:=R [0,5,7,8,9,37] [M 36 10,W 37 .neq 36 0]
def ZIS:=R [2,3,4] [I 2 (.mv (.v .nilptr)),I 3 (.mv (.v .nils)),I 4 (.mv (.v (.bool false)))]
def ZG0:=R [0,5,7,8] [M 38 7,T 39 5 9,I 40 (.bslice false 5 [ZR] [(0,(.s 39))]),I 41 (.app 5 40 (.s 38) (.s 40)),M 7 41]
def ZG1:=R [0,5,7,8] [M 25 8,W 26 .add 25 1,M 8 26]
def ZG2:PC:=(D (D ZIP
 (E 24
 .skip
 (.exit 0)))
 (D (.block 1
 (D ZIQ
 (D (D ZIR
 (E 37
 (D ZIS
 .ret)
 .skip))
 ZG0)))
 ZG1))
def ZG3:=R [2,3,4] [M 42 5,M 43 7,M 2 42,M 3 43,I 4 (.mv (.v (.bool true)))]
def ZDD:PF:=⟨true,
 (D ZIJ
 (D ZIK
 (D (D ZIL
 (E 20
 (D ZIM
 .ret)
 .skip))
 (D ZIN
 (D (D ZIO
 (.block 0
 (.loop ZG2)))
 (D ZG3
 .ret)))))),
 [.s 2,.s 3,.s 4]⟩
theorem ZKt:ck0 true [(4,⟨[0,5,7],[0],[],[],[],[]⟩)] ZDD Tryz.f36=some ZDD:=by kernel_rfl
def ZG4:=R [0,1,2] [I 6 (.mv (.v .nils)),I 7 (.mv (.v (.bool false)))]
def ZG5:=R [0,1,2,8] [I 8 (.onil 7)]
def ZG6:=R [0,1,2,8,9] [K 9 0]
def ZG7:=R [0,1,2,8,9,19] [M 16 9,M 17 2,I 18 (.len 1 (.s 17)),B 19 .lss 16 18]
def ZG8:=R [0,1,2,8,9,24] [M 22 1,I 23 (.len 1 (.s 22)),W 24 .eql 23 0]
def ZG9:=R [0,1,2,8,9,10,11] [M 26 2,M 27 9,I 28 (.ixS 5 (.s 26) (.s 27)),F 29 4 28,L 30 29,I 31 (C ZAN [(.s 30)]),M 25 31,X 32 25 0,X 33 25 1,I 10 (.box (.v ZT)),N 7 10 32,M 11 33]
def ZHA:=R [0,1,2,8,9,10,35] [M 34 11,W 35 .neq 34 0]
def ZHB:=R [6,7] [I 6 (.mv (.v .nils)),I 7 (.mv (.v (.bool false)))]
def ZHC:=R [0,1,2,8,9] [M 36 8,T 37 7 10,I 38 (.bslice false 7 [ZT] [(0,(.s 37))]),I 39 (.app 7 80 (.s 36) (.s 38)),M 8 39]
def ZHD:=R [0,1,2,8,9,12] [M 40 1,M 41 2,M 42 9,I 43 (.ixS 5 (.s 41) (.s 42)),F 44 1 43,L 45 44,M 46 1,I 47 (.len 1 (.s 46)),W 48 .sub 47 1,I 49 (C JO [(.s 45),(.s 48)]),I 50 (.ixS 5 (.s 40) (.s 49)),T 51 5 50,I 12 (.box (.v ZR)),N 5 12 51]
def ZFR:=R [0,1,2,8,9,12,13,14] [M 53 0,T 54 5 12,I 55 (C Ya [(.s 53),(.s 54)]),M 52 55,X 56 52 0,X 57 52 1,I 13 (.box (.v ZT)),N 7 13 56,M 14 57]
def ZFS:=R [0,1,2,8,9,12,13,59] [M 58 14,W 59 .neq 58 0]
def ZFT:=R [6,7] [I 6 (.mv (.v .nils)),I 7 (.mv (.v (.bool false)))]
def ZFU:=R [0,1,2,8,9,12,13,15] [M 60 2,M 61 9,I 62 (.ixS 5 (.s 60) (.s 61)),F 63 2 62,L 64 63,F 65 2 12,F 66 0 65,L 67 66,I 68 (C JO [(.s 64),(.s 67)]),M 15 68]
def ZFV:=R [0,1,2,8,9,13,14] [M 70 0,T 71 7 13,M 72 15,M 73 2,M 74 9,I 75 (.ixS 5 (.s 73) (.s 74)),F 76 3 75,L 77 76,F 78 2 12,F 79 0 78,L 80 79,M 81 15,B 82 .sub 80 81,I 83 (.call .pure (.v (.func (.func JO) [] [])) [(.s 77),(.s 82)]),M 84 2,M 85 9,I 86 (.ixS 5 (.s 84) (.s 85)),F 87 4 86,L 88 87,I 89 (C ZAO [(.s 70),(.s 71),(.s 72),(.s 83),(.s 88)]),M 69 89,X 90 69 0,X 91 69 1,N 7 13 90,M 14 91]
def ZFW:=R [0,1,2,8,9,13,93] [M 92 14,W 93 .neq 92 0]
def ZFX:=R [6,7] [I 6 (.mv (.v .nils)),I 7 (.mv (.v (.bool false)))]
def ZFY:=R [0,1,2,8,9] [M 94 8,T 95 7 13,I 96 (.bslice false 7 [ZT] [(0,(.s 95))]),I 97 (.app 7 80 (.s 94) (.s 96)),M 8 97]
def ZFZ:=R [0,1,2,8,9] [M 20 9,W 21 .add 20 1,M 9 21]
def ZFa:PC:=(D (D ZG7
 (E 19
 .skip
 (.exit 0)))
 (D (.block 1
 (D (D ZG8
 (E 24
 (D ZG9
 (D (D ZHA
 (E 35
 (D ZHB
 .ret)
 .skip))
 (D ZHC
 (.exit 1))))
 .skip))
 (D ZHD
 (D ZFR
 (D (D ZFS
 (E 59
 (D ZFT
 .ret)
 .skip))
 (D ZFU
 (D ZFV
 (D (D ZFW
 (E 93
 (D ZFX
 .ret)
 .skip))
 ZFY))))))))
 ZFZ))
def ZFb:=R [6,7] [M 98 8,M 6 98,I 7 (.mv (.v (.bool true)))]
def ZBa:PF:=⟨false,
 (D ZG4
 (D ZG5
 (D (D ZG6
 (.block 0
 (.loop ZFa)))
 (D ZFb
 .ret)))),
 [.s 6,.s 7]⟩
theorem ZJf:ck0 false [(1,⟨[0,1,2,8],[0],[],[],[],[]⟩),(14,⟨[0,1,2,8,9,13,14],[],[(13,.pure)],[],[],[]⟩)] ZBa Tryz.f37=some ZBa:=by kernel_rfl
def ZaU:=R [2,3] [I 2 (.box (.s 0)),I 3 (.box (.s 1)),I 4 (.mv (.v (.str []))),K 5 0]
def ZaV:=R [2,3,6] [L 10 2,T 11 7 3,I 12 (C YA [(.s 10),(.s 11)]),M 6 12]
def ZaW:=R [2,3,6,14] [M 13 6,W 14 .neq 13 0]
def ZaX:=R [4,5] [M 15 6,I 4 (.mv (.v (.str []))),M 5 15]
def ZaY:=R [2,3,7] [I 7 (.boxnil 1)]
def ZaZ:=R [2,3,7,8] [I 8 (.box (.v .nilfunc))]
def Zaa:=R [3,7,8] [I 16 (.mkf (.func Yq) [] [(.s 2),(.s 7),(.s 8)]),N 1 8 16]
def Zab:=R [3,7,8,19] [T 17 7 3,I 18 (C Ql [(.s 17)]),W 19 .eql 18 1]
def Zac:=R [4,5] [I 4 (.mv (.v (.str []))),K 5 0]
def Zad:=R [7,9] [L 20 8,T 21 7 3,I 22 (.call .norm (.s 20) [(.s 21)]),M 9 22]
def ZWw:=R [7,9,24] [M 23 9,W 24 .neq 23 0]
def ZWx:=R [4,5] [M 25 9,I 4 (.mv (.v (.str []))),M 5 25]
def ZWy:=R [4,5] [L 26 7,I 27 (.b2s (.s 26)),M 4 27,K 5 0]
def ZSV:PF:=⟨false,
 (D ZaU
 (D (D ZaV
 (D ZaW
 (E 14
 (D ZaX
 .ret)
 .skip)))
 (D ZaY
 (D ZaZ
 (D Zaa
 (D (D Zab
 (E 19
 (D Zac
 .ret)
 .skip))
 (D (D Zad
 (D ZWw
 (E 24
 (D ZWx
 .ret)
 .skip)))
 (D ZWy
 .ret)))))))),
 [.s 4,.s 5]⟩
theorem Zge:ck0 false [(4,⟨[2,3,7],[0],[],[],[],[]⟩)] ZSV Tryz.f38=some ZSV:=by kernel_rfl
def ZWz:=R [0,3,4,5] [I 3 (.box (.s 1)),I 4 (.box (.v ZR)),I 5 (.onil 1),K 6 0]
def ZW0:=R [4,5,6,7] [M 12 0,T 13 7 3,I 14 (C XN [(.s 12),(.s 13)]),M 11 14,X 15 11 0,X 16 11 1,M 7 15,M 6 16]
def ZW1:=R [4,5,6,7,18] [M 17 6,W 18 .neq 17 0]
def ZW2:=R [4,5,6] [I 19 (.build [(.int .u64 0),(.int .i64 0),(.int .i64 0),(.int .i64 0),(.int .i64 0)] []),M 20 6,N 5 4 19,I 5 (.onil 1),M 6 20]
def ZW3:=R [4,5,7,26] [M 21 7,I 22 (.nilck (.s 21)),F 23 1 22,L 24 23,I 25 (.len 1 (.s 24)),W 26 .gtr 25 0]
def ZW4:=R [4,5,7,8,10] [M 28 7,I 29 (C Xm [(.s 28)]),M 27 29,X 30 27 0,X 31 27 1,X 32 27 2,M 8 30,M 9 31,M 10 32]
def ZW5:=R [4,5,7,8,10,34] [M 33 10,W 34 .neq 33 0]
def ZW6:=R [4,5,6] [I 35 (.build [(.int .u64 0),(.int .i64 0),(.int .i64 0),(.int .i64 0),(.int .i64 0)] []),M 36 10,N 5 4 35,I 5 (.onil 1),M 6 36]
def ZW7:=R [4,5,7] [M 37 5,M 38 8,I 39 (.bslice false 1 [(.int .u64 0)] [(0,(.s 38))]),I 40 (.app 1 8 (.s 37) (.s 39)),M 5 40]
def ZW8:PC:=(D (D ZW3
 (E 26
 .skip
 (.exit 0)))
 (.block 1
 (D ZW4
 (D (D ZW5
 (E 34
 (D ZW6
 .ret)
 .skip))
 ZW7))))
def ZSx:=R [4,5,6] [M 42 7,I 43 (C ZBV [(.s 42)]),M 41 43,X 44 41 0,X 45 41 1,N 5 4 44,M 6 45]
def ZSy:=R [4,5,6] [T 46 5 4,M 47 5,M 48 6,N 5 4 46,M 5 47,M 6 48]
def ZMQ:PF:=⟨false,
 (D ZWz
 (D ZW0
 (D (D ZW1
 (E 18
 (D ZW2
 .ret)
 .skip))
 (D (.block 0
 (.loop ZW8))
 (D ZSx
 (D ZSy
 .ret)))))),
 [.c 4 true 5,.s 5,.s 6]⟩
theorem Zd5:ck0 false [(0,⟨[0,3,4,5],[2],[],[],[],[]⟩),(3,⟨[4,5,6],[3],[],[],[],[]⟩),(7,⟨[4,5,6],[3],[],[],[],[]⟩)] ZMQ Tryz.f39=some ZMQ:=by kernel_rfl
def ZIT:=R [0,1] [K 4 0]
def ZIU:=R [4] [M 5 0,I 6 (.cint .u64 (.s 5)),M 7 1,W 8 .add 7 1,I 9 (.cint .u64 (.s 8)),B 10 .rem 6 9,I 11 (.cint .i64 (.s 10)),M 4 11]
def ZDE:PF:=⟨false,
 (D ZIT
 (D ZIU
 .ret)),
 [.s 4]⟩
theorem ZKv:ck0 false [] ZDE Tryz.f40=some ZDE:=by kernel_rfl
def ZSz:=R [0,1,2,6] [I 6 (.box (.v (.agg [(.int .u64 0),(.int .i64 0),(.int .i64 0),(.int .i64 0),(.int .i64 0),.nils,.nils]))),K 7 0]
def ZS0:=R [0,2,6,8,9] [M 19 1,I 20 (.call .norm (.s 19) []),M 18 20,X 21 18 0,X 22 18 1,I 8 (.box (.v ZT)),N 7 8 21,M 9 22]
def ZS1:=R [0,2,6,8,9,24] [M 23 9,W 24 .neq 23 0]
def ZS2:=R [6,7] [I 25 (.build [(.int .u64 0),(.int .i64 0),(.int .i64 0),(.int .i64 0),(.int .i64 0),.nils,.nils] []),M 26 9,N 7 6 25,M 7 26]
def ZS3:=R [0,2,6,8,10] [I 27 (.build [(.int .u64 0),(.int .i64 0),(.int .i64 0),(.int .i64 0),(.int .i64 0),.nils,.nils] []),I 10 (.box (.v (.agg [(.int .u64 0),(.int .i64 0),(.int .i64 0),(.int .i64 0),(.int .i64 0),.nils,.nils]))),N 7 10 27]
def ZS4:=R [0,2,6,8,10,11] [I 28 (.mkmap),M 11 28]
def ZS5:=R [0,6,8,10,11,29,30,31] [M 29 2,I 30 (.len 1 (.s 29)),K 31 0]
def ZS6:=R [0,6,8,10,11,29,30,31,32] [B 32 .lss 31 30]
def ZS7:=R [0,6,8,10,11,13,29,30,31] [I 33 (.ixS 5 (.s 29) (.s 31)),T 34 5 33,I 13 (.box (.v ZR)),N 5 13 34]
def ZS8:=R [0,6,8,10,11,14,15,29,30,31] [M 36 0,T 37 5 13,T 38 7 8,I 39 (C ZCQ [(.s 36),(.s 37),(.s 38)]),M 35 39,X 40 35 0,X 41 35 1,M 14 40,M 15 41]
def ZPb:=R [0,6,8,10,11,14,15,29,30,31,43] [M 42 15,W 43 .neq 42 0]
def ZPc:=R [6,7] [I 44 (.build [(.int .u64 0),(.int .i64 0),(.int .i64 0),(.int .i64 0),(.int .i64 0),.nils,.nils] []),M 45 15,N 7 6 44,M 7 45]
def ZPd:=R [0,6,8,10,11,29,30,31,46,47,48] [M 46 14,I 47 (.len 1 (.s 46)),K 48 0]
def ZPe:=R [0,6,8,10,11,29,30,31,46,47,48,49] [B 49 .lss 48 47]
def ZPf:=R [0,6,8,10,11,17,29,30,31,46,47,48] [I 50 (.ixS 1 (.s 46) (.s 48)),L 51 50,M 17 51]
def ZPg:=R [0,6,8,10,11,17,29,30,31,46,47,48,55] [M 52 11,M 53 17,I 54 (.look 0 (.bool false) false (.s 52) (.s 53)),I 55 (.un .not (.s 54))]
def ZPh:=R [0,6,8,10,11,17,29,30,31,46,47,48] [M 56 11,M 57 17,J (.mupd 0 (.s 56) (.s 57) (.v (.bool true)))]
def ZPi:=R [0,6,8,10,11,29,30,31,46,47,48] [F 58 6 10,L 59 58,M 60 17,I 61 (.bslice false 1 [(.int .u64 0)] [(0,(.s 60))]),I 62 (.app 1 8 (.s 59) (.s 61)),F 63 6 10,N 1 63 62]
def ZPj:=R [0,6,8,10,11,29,30,31,46,47,48] [W 64 .add 48 1,M 48 64]
def p_edit_change_19:PC:=(D ZPe
 (D (E 49
 .skip
 (.exit 2))
 (D (.block 3
 (D ZPf
 (D ZPg
 (E 55
 (D ZPh
 ZPi)
 .skip))))
 ZPj)))
def ZPk:=R [0,6,8,10,11,29,30,31] [W 65 .add 31 1,M 31 65]
def p_edit_change_21:PC:=(D ZS6
 (D (E 32
 .skip
 (.exit 0))
 (D (.block 1
 (D ZS7
 (D ZS8
 (D (D ZPb
 (E 43
 (D ZPc
 .ret)
 .skip))
 (D ZPd
 (.block 2
 (.loop p_edit_change_19)))))))
 ZPk)))
def ZPl:=R [6,9,10] [M 67 0,T 68 7 8,I 69 (C XL [(.s 67),(.s 68)]),M 66 69,X 70 66 0,X 71 66 1,X 72 66 2,F 73 0 10,N 5 73 70,F 74 5 10,N 1 74 71,M 9 72]
def ZPm:=R [6,9,10,76] [M 75 9,W 76 .neq 75 0]
def ZPn:=R [6,7] [I 77 (.build [(.int .u64 0),(.int .i64 0),(.int .i64 0),(.int .i64 0),(.int .i64 0),.nils,.nils] []),M 78 9,N 7 6 77,M 7 78]
def ZPo:=R [6,7] [T 79 7 10,N 7 6 79,K 7 0]
def ZJ4:PF:=⟨false,
 (D ZSz
 (D ZS0
 (D (D ZS1
 (E 24
 (D ZS2
 .ret)
 .skip))
 (D ZS3
 (D ZS4
 (D (D ZS5
 (.block 0
 (.loop p_edit_change_21)))
 (D (D ZPl
 (D ZPm
 (E 76
 (D ZPn
 .ret)
 .skip)))
 (D ZPo
 .ret)))))))),
 [.c 6 true 7,.s 7]⟩
theorem Zaf:ck0 false [] ZJ4 Tryz.f41=some ZJ4:=by kernel_rfl
def ZKw:=R [0,1,2,3,4,5] [I 5 (.box (.v ZT)),K 6 0]
def ZKx:=R [5,6] [L 7 0,T 8 5 1,L 9 2,L 10 3,L 11 4,I 12 (C ZHj [(.s 7),(.s 8),(.s 9),(.s 10),(.s 11)]),X 13 12 0,X 14 12 1,N 7 5 13,M 6 14]
def ZEb:PF:=⟨false,
 (D ZKw
 (D ZKx
 .ret)),
 [.c 5 true 7,.s 6]⟩
theorem ZPq:ck0 false [] ZEb Tryz.f42=some ZEb:=by kernel_rfl
def Zag:=R [0,2,3,4,6,10] [I 6 (.box (.s 1)),I 10 (.box (.v ZT)),K 11 0]
def Zah:=R [0,2,3,4,10,12,13] [M 15 0,T 16 5 6,I 17 (C Ya [(.s 15),(.s 16)]),M 14 17,X 18 14 0,X 19 14 1,I 12 (.box (.v ZT)),N 7 12 18,M 13 19]
def Zai:=R [0,2,3,4,10,12,13,21] [M 20 13,W 21 .neq 20 0]
def Zaj:=R [10,11] [I 22 (.build [(.int .u64 0),(.int .i64 0),(.int .i64 0),(.int .i64 0),(.int .i64 0),(.str []),.nils] []),M 23 13,N 7 10 22,M 11 23]
def Zak:=R [10,11] [M 24 0,T 25 7 12,M 26 2,M 27 3,M 28 4,I 29 (C ZAO [(.s 24),(.s 25),(.s 26),(.s 27),(.s 28)]),X 30 29 0,X 31 29 1,N 7 10 30,M 11 31]
def ZSW:PF:=⟨false,
 (D Zag
 (D Zah
 (D (D Zai
 (E 21
 (D Zaj
 .ret)
 .skip))
 (D Zak
 .ret)))),
 [.c 10 true 7,.s 11]⟩
theorem Zgg:ck0 false [] ZSW Tryz.f43=some ZSW:=by kernel_rfl
def ZPr:=R [0,4,5] [I 4 (.box (.s 1)),I 5 (.box (.s 2)),I 6 (.mv (.v .nilmap)),K 7 0]
def ZPs:=R [0,4,5,8] [I 18 (.mkmap),M 8 18]
def ZPt:=R [0,4,5,8,21,22,23] [T 19 5 4,T 20 5 5,I 21 (.bslice false 5 [ZR,ZR] [(0,(.s 19)),(1,(.s 20))]),I 22 (.len 1 (.s 21)),K 23 0]
def ZPu:=R [0,4,5,8,21,22,23,24] [B 24 .lss 23 22]
def ZPv:=R [0,4,5,8,10,21,22,23] [I 25 (.ixS 5 (.s 21) (.s 23)),T 26 5 25,I 10 (.box (.v ZR)),N 5 10 26]
def ZPw:=R [0,4,5,8,11,21,22,23] [M 27 0,T 28 5 10,I 29 (C Yh [(.s 27),(.s 28)]),M 11 29]
def ZPx:=R [0,4,5,8,11,21,22,23,31] [M 30 11,W 31 .neq 30 0]
def ZPy:=R [6,7] [M 32 11,I 6 (.mv (.v .nilmap)),M 7 32]
def ZPz:=R [0,4,5,8,21,22,23] [W 33 .add 23 1,M 23 33]
def ZP0:PC:=(D ZPu
 (D (E 24
 .skip
 (.exit 0))
 (D (.block 1
 (D ZPv
 (D ZPw
 (D ZPx
 (E 31
 (D ZPy
 .ret)
 .skip)))))
 ZPz)))
def ZMR:=R [0,8,36,37,38] [T 34 5 4,T 35 5 5,I 36 (.bslice false 5 [ZR,ZR] [(0,(.s 34)),(1,(.s 35))]),I 37 (.len 1 (.s 36)),K 38 0]
def ZMS:=R [0,8,36,37,38,39] [B 39 .lss 38 37]
def ZMT:=R [0,8,13,36,37,38] [I 40 (.ixS 5 (.s 36) (.s 38)),T 41 5 40,I 13 (.box (.v ZR)),N 5 13 41]
def ZMU:=R [0,8,14,15,36,37,38] [M 43 0,T 44 5 13,I 45 (C Yf [(.s 43),(.s 44)]),M 42 45,X 46 42 0,X 47 42 1,M 14 46,M 15 47]
def ZMV:=R [0,8,14,15,36,37,38,49] [M 48 15,W 49 .neq 48 0]
def ZMW:=R [6,7] [M 50 15,I 6 (.mv (.v .nilmap)),M 7 50]
def ZMX:=R [0,8,36,37,38,51,52,53] [M 51 14,I 52 (.len 1 (.s 51)),K 53 0]
def ZMY:=R [0,8,36,37,38,51,52,53,54] [B 54 .lss 53 52]
def ZMZ:=R [0,8,17,36,37,38,51,52,53] [I 55 (.ixS 1 (.s 51) (.s 53)),L 56 55,M 17 56]
def ZMa:=R [0,8,36,37,38,51,52,53] [M 57 8,M 58 17,I 59 (.look 0 (.int .i64 0) false (.s 57) (.s 58)),W 60 .add 59 1,J (.mupd 0 (.s 57) (.s 58) (.s 60))]
def ZMb:=R [0,8,36,37,38,51,52,53] [W 61 .add 53 1,M 53 61]
def ZMc:PC:=(D ZMY
 (D (E 54
 .skip
 (.exit 4))
 (D (.block 5
 (D ZMZ
 ZMa))
 ZMb)))
def ZMd:=R [0,8,36,37,38] [W 62 .add 38 1,M 38 62]
def ZMe:PC:=(D ZMS
 (D (E 39
 .skip
 (.exit 2))
 (D (.block 3
 (D ZMT
 (D ZMU
 (D (D ZMV
 (E 49
 (D ZMW
 .ret)
 .skip))
 (D ZMX
 (.block 4
 (.loop ZMc)))))))
 ZMd)))
def ZMf:=R [6,7] [M 63 8,M 6 63,K 7 0]
def ZIV:PF:=⟨true,
 (D ZPr
 (D ZPs
 (D (D ZPt
 (.block 0
 (.loop ZP0)))
 (D (D ZMR
 (.block 2
 (.loop ZMe)))
 (D ZMf
 .ret))))),
 [.s 6,.s 7]⟩
theorem ZXA:ck0 true [] ZIV Tryz.f44=some ZIV:=by kernel_rfl
def ZXB:=R [0,3,23] [I 3 (.box (.s 1)),K 4 0]
def ZXC:=R [0,3,6,23] [M 11 0,T 12 5 3,I 13 (C Ya [(.s 11),(.s 12)]),M 10 13,X 14 10 0,X 15 10 1,I 5 (.box (.v ZT)),N 7 5 14,M 6 15]
def ZXD:=R [0,3,6,17,23] [M 16 6,W 17 .neq 16 0]
def ZXE:=R [4] [M 18 6,M 4 18]
def ZXF:=R [0,3,7,23] [I 7 (.box (V 0)),J (.st 1 (.s 7) (V 0))]
def ZXG:=R [7,21,23] [M 19 0,T 20 5 3,I 21 (C ZAM [(.s 19),(.s 20)])]
def ZXH:=R [7,9] [I 9 (.box (.v (.agg [(.int .i64 0),(.str []),.nils,(.int .i64 0)]))),N 4 9 23]
def ZXI:=R [7,9,26] [F 24 3 9,L 25 24,W 26 .neq 25 0]
def ZXJ:=R [7] [F 27 3 9,L 28 27,N 1 7 28]
def ZXK:=R [4] [L 29 7,M 4 29]
def p_rope_Check:RF:=⟨30,
 (D ZXB
 (D (D ZXC
 (D ZXD
 (E 17
 (D ZXE
 .ret)
 .skip)))
 (D ZXF
 (D .skip
 (D ZXG
 .skip))))),
 ⟨(.s 21),[22,23],
 ZXH,
 (.block 1
 (D ZXI
 (E 26
 (D ZXJ
 (.exit 0))
 .skip)))⟩,
 (D .skip
 (D ZXK
 .ret)),
 [.s 4]⟩
theorem Zd7:ZWX Proofs.Tryz.prog (h0R [] p_rope_Check) Proofs.Tryz.f46=some p_rope_Check:=by kernel_rfl
def ZXL:=R [2,3] [I 2 (.box (.s 0)),I 3 (.box (.s 1)),I 4 (.mv (.v .nilfunc))]
def ZXM:=R [4] [I 5 (.mkf (.func JY) [] [(.s 2),(.s 3)]),M 4 5]
def ZMg:PF:=⟨true,
 (D ZXL
 (D ZXM
 .ret)),
 [.s 4]⟩
theorem Zd9:ck0 true [] ZMg Tryz.f47=some ZMg:=by kernel_rfl
def ZHE:=R [1,2] [I 0 (.mv (.v .nilptr)),I 1 (.box (.v ZR)),I 2 (.box (.v ZR)),I 3 (.mv (.v (.bool false)))]
def ZHF:=R [1,2,4,5] [I 10 (C ZDt [(V 8),(.v (.int .u64 4))]),M 9 10,X 11 9 0,X 12 9 1,M 4 11,M 5 12]
def ZHG:=R [1,2,4,18] [M 13 4,I 14 (.eqs false 3 [] (.s 13) (.v .nilptr)),M 15 14,U 16 15 false 5,G 17 15 false (.bin .neq (.s 16) (V 0)),I 18 (.pick (.s 15) (.v (.bool true)) (.s 17))]
def ZHH:=R [0,1,2,3] [I 19 (.build [(.int .u64 0),(.int .i64 0),(.int .i64 0),(.int .i64 0),(.int .i64 0)] []),I 20 (.build [(.int .u64 0),(.int .i64 0),(.int .i64 0),(.int .i64 0),(.int .i64 0)] []),I 0 (.mv (.v .nilptr)),N 5 1 19,N 5 2 20,I 3 (.mv (.v (.bool false)))]
def ZHI:=R [1,2,4,5,6] [M 22 4,I 23 (C ZCP [(.s 22),(.v (.str [97,98,99,100,101,102,103,104,105,106,107,108,109,110,111,112,113]))]),M 21 23,X 24 21 0,X 25 21 1,I 6 (.box (.v ZR)),N 5 6 24,M 5 25]
def ZHJ:=R [1,2,4,5,6,7,8] [M 27 4,T 28 5 6,I 29 (C Xf [(.s 27),(.s 28),(V 9),(.v (.str [120,121,122]))]),M 26 29,X 30 26 0,X 31 26 1,I 7 (.box (.v (.agg [(.int .u64 0),(.int .i64 0),(.int .i64 0),(.int .i64 0),(.int .i64 0),.nils,.nils]))),N 7 7 30,M 8 31]
def ZHK:=R [0,1,2,3] [M 32 4,T 33 5 6,F 34 0 7,I 35 (.w (.hide [(.s 1)]) (.ld true 5 (.s 34))),M 36 5,W 37 .eql 36 0,M 38 37,U 39 38 true 8,G 40 38 true (.bin .eql (.s 39) (V 0)),I 41 (.pick (.s 38) (.s 40) (.v (.bool false))),M 42 41,G 43 42 true (.fadr 0 (.s 6)),G 44 42 true (.ld false 1 (.s 43)),G 45 42 true (.bin .eql (.s 44) (.v (.int .u64 65538))),I 46 (.pick (.s 42) (.s 45) (.v (.bool false))),M 47 46,G 48 47 true (.fadr 0 (.s 7)),G 49 47 true (.fadr 0 (.s 48)),G 50 47 true (.w (.hide [(.s 1),(.s 2)]) (.ld false 1 (.s 49))),G 51 47 true (.bin .eql (.s 50) (.v (.int .u64 65540))),I 52 (.pick (.s 47) (.s 51) (.v (.bool false))),M 0 32,J (.w (.plain (.s 1)) (.st 5 (.s 1) (.s 33))),J (.w (.plain (.s 2)) (.st 5 (.s 2) (.s 35))),M 3 52]
def ZBb:PF:=⟨true,
 (D ZHE
 (D ZHF
 (D (D ZHG
 (E 18
 (D ZHH
 .ret)
 .skip))
 (D ZHI
 (D ZHJ
 (D ZHK
 .ret)))))),
 [.s 0,.c 1 true 5,.c 2 true 5,.s 3]⟩
theorem ZJh:ck0 true [(6,⟨[0,1,2,3],[],[],[],[(18,(.hide [(.s 1),(.s 2)])),(23,(.plain (.s 2))),(22,(.plain (.s 1))),(3,(.hide [(.s 1)]))],[]⟩)] ZBb Tryz.f48=some ZBb:=by kernel_rfl
def ZP1:=R [0,1] [I 4 (.mv (.v .nilmap)),K 5 0]
def ZP2:=R [0,1,17] [M 16 0,I 17 (.eqs false 3 [] (.s 16) (.v .nilptr))]
def ZP3:=R [4,5] [I 4 (.mv (.v .nilmap)),K 5 1]
def ZP4:=R [0,1,18,19,20] [M 18 1,I 19 (.len 1 (.s 18)),K 20 0]
def ZP5:=R [0,1,18,19,20,21] [B 21 .lss 20 19]
def ZP6:=R [0,1,7,18,19,20] [I 22 (.ixS 5 (.s 18) (.s 20)),T 23 5 22,I 7 (.box (.v ZR)),N 5 7 23]
def ZP7:=R [0,1,8,18,19,20] [M 24 0,T 25 5 7,I 26 (C Yh [(.s 24),(.s 25)]),M 8 26]
def ZP8:=R [0,1,8,18,19,20,28] [M 27 8,W 28 .neq 27 0]
def ZP9:=R [4,5] [M 29 8,I 4 (.mv (.v .nilmap)),M 5 29]
def ZQA:=R [0,1,18,19,20] [W 30 .add 20 1,M 20 30]
def ZMh:PC:=(D ZP5
 (D (E 21
 .skip
 (.exit 0))
 (D (.block 1
 (D ZP6
 (D ZP7
 (D ZP8
 (E 28
 (D ZP9
 .ret)
 .skip)))))
 ZQA)))
def ZMi:=R [0,1,9] [I 31 (.mkmap),M 9 31]
def ZMj:=R [0,9,32,33,34] [M 32 1,I 33 (.len 1 (.s 32)),K 34 0]
def ZMk:=R [0,9,32,33,34,35] [B 35 .lss 34 33]
def ZMl:=R [0,9,11,32,33,34] [I 36 (.ixS 5 (.s 32) (.s 34)),T 37 5 36,I 11 (.box (.v ZR)),N 5 11 37]
def ZMm:=R [0,9,12,13,32,33,34] [M 39 0,T 40 5 11,I 41 (C Yf [(.s 39),(.s 40)]),M 38 41,X 42 38 0,X 43 38 1,M 12 42,M 13 43]
def ZMn:=R [0,9,12,13,32,33,34,45] [M 44 13,W 45 .neq 44 0]
def ZMo:=R [4,5] [M 46 13,I 4 (.mv (.v .nilmap)),M 5 46]
def ZMp:=R [0,9,32,33,34,47,48,49] [M 47 12,I 48 (.len 1 (.s 47)),K 49 0]
def ZMq:=R [0,9,32,33,34,47,48,49,50] [B 50 .lss 49 48]
def ZMr:=R [0,9,15,32,33,34,47,48,49] [I 51 (.ixS 1 (.s 47) (.s 49)),L 52 51,M 15 52]
def ZMs:=R [0,9,32,33,34,47,48,49] [M 53 9,M 54 15,I 55 (.look 0 (.int .i64 0) false (.s 53) (.s 54)),W 56 .add 55 1,J (.mupd 0 (.s 53) (.s 54) (.s 56))]
def ZMt:=R [0,9,32,33,34,47,48,49] [W 57 .add 49 1,M 49 57]
def ZMu:PC:=(D ZMq
 (D (E 50
 .skip
 (.exit 4))
 (D (.block 5
 (D ZMr
 ZMs))
 ZMt)))
def ZMv:=R [0,9,32,33,34] [W 58 .add 34 1,M 34 58]
def ZMw:PC:=(D ZMk
 (D (E 35
 .skip
 (.exit 2))
 (D (.block 3
 (D ZMl
 (D ZMm
 (D (D ZMn
 (E 45
 (D ZMo
 .ret)
 .skip))
 (D ZMp
 (.block 4
 (.loop ZMu)))))))
 ZMv)))
def ZMx:=R [4,5] [M 59 9,M 4 59,K 5 0]
def ZIW:PF:=⟨true,
 (D ZP1
 (D (D ZP2
 (E 17
 (D ZP3
 .ret)
 .skip))
 (D (D ZP4
 (.block 0
 (.loop ZMh)))
 (D ZMi
 (D (D ZMj
 (.block 2
 (.loop ZMw)))
 (D ZMx
 .ret)))))),
 [.s 4,.s 5]⟩
theorem ZXO:ck0 true [] ZIW Tryz.f49=some ZIW:=by kernel_rfl
def ZDc:=R [0] [I 2 (.mv (.v .nils))]
def ZDd:=R [0,3] [I 3 (.onil 1)]
def ZDe:=R [0,3,9,10,11] [M 8 0,I 9 (C J0 [(.s 8),(.v (.int .u8 1))]),I 10 (.len 1 (.s 9)),K 11 0]
def ZDf:=R [0,3,9,10,11,12] [B 12 .lss 11 10]
def ZDg:=R [0,3,5,9,10,11] [I 13 (.ixS 1 (.s 9) (.s 11)),L 14 13,M 5 14]
def ZDh:=R [0,3,6,9,10,11] [M 16 5,M 17 0,I 18 (.nilck (.s 17)),F 19 2 18,L 20 19,M 21 5,I 22 (.ixS 1 (.s 20) (.s 21)),L 23 22,I 24 (C ZA6 [(.s 16),(.s 23)]),M 15 24,X 25 15 0,X 26 15 1,M 6 25,M 7 26]
def ZDi:=R [0,3,9,10,11] [M 27 3,M 28 6,I 29 (.bslice false 1 [(.int .u64 0)] [(0,(.s 28))]),I 30 (.app 1 8 (.s 27) (.s 29)),M 3 30]
def ZDj:=R [0,3,9,10,11] [W 31 .add 11 1,M 11 31]
def ZDk:PC:=(D ZDf
 (D (E 12
 .skip
 (.exit 0))
 (D (.block 1
 (D ZDg
 (D ZDh
 ZDi)))
 ZDj)))
def ZDl:=R [2] [M 32 3,M 2 32]
def ZAD:PF:=⟨false,
 (D ZDc
 (D ZDd
 (D (D ZDe
 (.block 0
 (.loop ZDk)))
 (D ZDl
 .ret)))),
 [.s 2]⟩
theorem ZEd:ck0 false [(1,⟨[0,3],[0],[],[],[],[]⟩)] ZAD Tryz.f51=some ZAD:=by kernel_rfl
def ZFc:=R [0] [I 2 (.mv (.v .nils))]
def ZFd:=R [0,7] [M 6 0,I 7 (.eqs false 3 [] (.s 6) (.v .nilptr))]
def ZFe:=R [2] [I 2 (.mv (.v .nils))]
def ZFf:=R [0,3] [M 8 0,I 9 (.nilck (.s 8)),F 10 0 9,L 11 10,I 12 (.len 1 (.s 11)),I 13 (.mkslice 1 8 (.int .i64 0) (.s 12) (.s 12)),M 3 13]
def ZFg:=R [3] [M 14 3,M 15 0,I 16 (.nilck (.s 15)),F 17 0 16,L 18 17,I 19 (.cpy 1 (.s 14) (.s 18))]
def ZFh:=R [3,4,5] [M 20 3,I 21 (.len 1 (.s 20)),W 22 .sub 21 1,K 4 0,M 5 22]
def ZFi:=R [3,4,5,25] [M 23 4,M 24 5,B 25 .lss 23 24]
def ZFj:=R [3,4,5] [M 30 3,M 31 4,M 32 3,M 33 5,M 34 3,M 35 5,I 36 (.ixS 1 (.s 34) (.s 35)),L 37 36,M 38 3,M 39 4,I 40 (.ixS 1 (.s 38) (.s 39)),L 41 40,I 42 (.ixS 1 (.s 30) (.s 31)),N 1 42 37,I 43 (.ixS 1 (.s 32) (.s 33)),N 1 43 41]
def ZFk:=R [3,4,5] [M 26 4,W 27 .add 26 1,M 28 5,W 29 .sub 28 1,M 4 27,M 5 29]
def ZFl:PC:=(D (D ZFi
 (E 25
 .skip
 (.exit 0)))
 (D (.block 1
 ZFj)
 ZFk))
def ZEe:=R [2] [M 44 3,M 2 44]
def ZBG:PF:=⟨false,
 (D ZFc
 (D (D ZFd
 (E 7
 (D ZFe
 .ret)
 .skip))
 (D ZFf
 (D ZFg
 (D (D ZFh
 (.block 0
 (.loop ZFl)))
 (D ZEe
 .ret)))))),
 [.s 2]⟩
theorem ZIY:ck0 false [] ZBG Tryz.f54=some ZBG:=by kernel_rfl
def ZBt:=R [0] [I 2 (.mv (.v .nils))]
def ZBu:=R [2] [M 3 0,I 4 (C J0 [(.s 3),(.v (.int .u8 2))]),M 2 4]
def XU:PF:=⟨false,
 (D ZBt
 (D ZBu
 .ret)),
 [.s 2]⟩
theorem ZDn:ck0 false [] XU Tryz.f55=some XU:=by kernel_rfl
def ZS9:=R [0,3,20] [I 3 (.box (.s 1)),I 4 (.mv (.v .nils)),K 5 0]
def ZTA:=R [0,3,6,20] [M 10 0,T 11 5 3,I 12 (C Yh [(.s 10),(.s 11)]),M 6 12]
def ZTB:=R [0,3,6,14,20] [M 13 6,W 14 .neq 13 0]
def ZTC:=R [4,5] [M 15 6,I 4 (.mv (.v .nils)),M 5 15]
def ZTD:=R [0,3,7,20] [I 7 (.boxnil 1)]
def ZTE:=R [7,18,20] [M 16 0,T 17 5 3,I 18 (C ZAM [(.s 16),(.s 17)])]
def ZTF:=R [7,9] [I 9 (.box (.v (.agg [(.int .i64 0),(.str []),.nils,(.int .i64 0)]))),N 4 9 20]
def ZTG:=R [7,9,24] [F 21 0 9,F 22 0 21,L 23 22,W 24 .eql 23 0]
def ZTH:=R [7] [L 25 7,F 26 0 9,F 27 1 26,L 28 27,I 29 (.bslice false 1 [(.str [])] [(0,(.s 28))]),I 30 (.app 1 16 (.s 25) (.s 29)),N 1 7 30]
def ZTI:=R [4,5] [L 31 7,M 4 31,K 5 0]
def ZJ5:RF:=⟨32,
 (D ZS9
 (D (D ZTA
 (D ZTB
 (E 14
 (D ZTC
 .ret)
 .skip)))
 (D ZTD
 (D ZTE
 .skip)))),
 ⟨(.s 18),[19,20],
 ZTF,
 (.block 1
 (D ZTG
 (E 24
 ZTH
 .skip)))⟩,
 (D .skip
 (D ZTI
 .ret)),
 [.s 4,.s 5]⟩
theorem Zam:ZWX Proofs.Tryz.prog (h0R [(4,⟨[0,3,7,20],[0],[],[],[],[]⟩)] ZJ5) Proofs.Tryz.f58=some ZJ5:=by kernel_rfl
def Zan:=R [0,1] [I 4 (.mv (.v .nilptr)),K 5 0]
def Zao:=R [0,6,7] [M 9 0,M 10 1,I 11 (C ZCR [(.s 9),(.s 10)]),M 8 11,X 12 8 0,X 13 8 1,M 6 12,M 7 13]
def Zap:=R [0,6,7,15] [M 14 7,W 15 .neq 14 0]
def Zaq:=R [4,5] [M 16 7,I 4 (.mv (.v .nilptr)),M 5 16]
def Zar:=R [4,5] [M 17 0,M 18 6,I 19 (.mkmap),I 20 (.build [(.int .i64 0),.nilptr,.nilmap,(.int .i64 0),(.int .i64 0),(.int .i64 0)] [(0,1,(.s 17)),(1,1,(.s 18)),(2,1,(.s 19))]),I 21 (.box (.s 20)),M 4 21,K 5 0]
def ZSX:PF:=⟨true,
 (D Zan
 (D Zao
 (D (D Zap
 (E 15
 (D Zaq
 .ret)
 .skip))
 (D Zar
 .ret)))),
 [.s 4,.s 5]⟩
theorem Zgi:ck0 true [] ZSX Tryz.f59=some ZSX:=by kernel_rfl
def ZeA:=R [0,1,4] [I 4 (.box (.v ZR)),K 5 0]
def ZeB:=R [0,1,4,11] [M 10 0,I 11 (.eqs false 3 [] (.s 10) (.v .nilptr))]
def ZeC:=R [4,5] [I 12 (.build [(.int .u64 0),(.int .i64 0),(.int .i64 0),(.int .i64 0),(.int .i64 0)] []),N 5 4 12,K 5 1]
def ZeD:=R [0,4,6,7] [M 14 1,I 15 (C ZAN [(.s 14)]),M 13 15,X 16 13 0,X 17 13 1,I 6 (.box (.v ZT)),N 7 6 16,M 7 17]
def ZeE:=R [0,4,6,7,19] [M 18 7,W 19 .neq 18 0]
def ZeF:=R [4,5] [I 20 (.build [(.int .u64 0),(.int .i64 0),(.int .i64 0),(.int .i64 0),(.int .i64 0)] []),M 21 7,N 5 4 20,M 5 21]
def ZeG:=R [4,7,8] [M 23 0,T 24 7 6,I 25 (C XL [(.s 23),(.s 24)]),M 22 25,X 26 22 0,X 27 22 1,X 28 22 2,I 8 (.box (.v ZR)),N 5 8 26,M 9 27,M 7 28]
def ZeH:=R [4,5] [T 29 5 8,M 30 7,N 5 4 29,M 5 30]
def ZXP:PF:=⟨false,
 (D ZeA
 (D (D ZeB
 (E 11
 (D ZeC
 .ret)
 .skip))
 (D ZeD
 (D (D ZeE
 (E 19
 (D ZeF
 .ret)
 .skip))
 (D ZeG
 (D ZeH
 .ret)))))),
 [.c 4 true 5,.s 5]⟩
theorem ZiW:ck0 false [] ZXP Tryz.f60=some ZXP:=by kernel_rfl
def Zas:=R [0,3,4] [I 3 (.box (.s 1)),I 4 (.box (.v ZT)),K 5 0]
def Zat:=R [0,3,4,8] [M 7 0,I 8 (.eqs false 3 [] (.s 7) (.v .nilptr))]
def Zau:=R [4,5] [I 9 (.build [(.int .u64 0),(.int .i64 0),(.int .i64 0),(.int .i64 0),(.int .i64 0),(.str []),.nils] []),N 7 4 9,K 5 1]
def Zav:=R [0,3,4,12] [T 10 5 3,I 11 (.build [(.int .u64 0),(.int .i64 0),(.int .i64 0),(.int .i64 0),(.int .i64 0)] []),I 12 (.eqs false 0 [(0,0),(1,0),(2,0),(3,0),(4,0)] (.s 10) (.s 11))]
def Zaw:=R [4,5] [I 13 (.build [(.int .u64 0),(.int .i64 0),(.int .i64 0),(.int .i64 0),(.int .i64 0),(.str []),.nils] []),N 7 4 13,K 5 0]
def Zax:=R [0,3,4,16] [F 14 0 3,L 15 14,I 16 (.bin .eql (.s 15) (.v (.int .u64 0)))]
def Zay:=R [4,5] [I 17 (.build [(.int .u64 0),(.int .i64 0),(.int .i64 0),(.int .i64 0),(.int .i64 0),(.str []),.nils] []),N 7 4 17,K 5 2]
def Zaz:=R [3,4,6] [M 18 0,F 19 0 3,L 20 19,F 21 1 3,L 22 21,F 23 2 3,T 24 3 23,I 25 (C ZDu [(.s 18),(.s 20),(.s 22),(.s 24)]),M 6 25]
def Za0:=R [3,4,6,27] [M 26 6,W 27 .neq 26 0]
def Za1:=R [4,5] [I 28 (.build [(.int .u64 0),(.int .i64 0),(.int .i64 0),(.int .i64 0),(.int .i64 0),(.str []),.nils] []),M 29 6,N 7 4 28,M 5 29]
def ZXQ:=R [4,5] [F 30 0 3,L 31 30,F 32 1 3,L 33 32,F 34 2 3,T 35 3 34,I 36 (.build [(.int .u64 0),(.int .i64 0),(.int .i64 0),(.int .i64 0),(.int .i64 0),(.str []),.nils] [(0,1,(.s 31)),(1,1,(.s 33)),(2,3,(.s 35))]),N 7 4 36,K 5 0]
def ZSY:PF:=⟨false,
 (D Zas
 (D (D Zat
 (E 8
 (D Zau
 .ret)
 .skip))
 (D (D Zav
 (E 12
 (D Zaw
 .ret)
 .skip))
 (D (D Zax
 (E 16
 (D Zay
 .ret)
 .skip))
 (D (D Zaz
 (D Za0
 (E 27
 (D Za1
 .ret)
 .skip)))
 (D ZXQ
 .ret)))))),
 [.c 4 true 7,.s 5]⟩
theorem Zgk:ck0 false [] ZSY Tryz.f61=some ZSY:=by kernel_rfl
def ZQB:=R [0,4,5] [I 4 (.box (.s 1)),I 5 (.box (.s 2)),I 6 (.mv (.v .nils)),K 7 0]
def ZQC:=R [0,4,5,9] [M 18 0,T 19 5 4,I 20 (C Ya [(.s 18),(.s 19)]),M 17 20,X 21 17 0,X 22 17 1,I 8 (.box (.v ZT)),N 7 8 21,M 9 22]
def ZQD:=R [0,4,5,9,24] [M 23 9,W 24 .neq 23 0]
def ZQE:=R [6,7] [M 25 9,I 6 (.mv (.v .nils)),M 7 25]
def ZQF:=R [0,4,5,10] [M 26 0,T 27 7 5,I 28 (C YA [(.s 26),(.s 27)]),M 10 28]
def ZQG:=R [0,4,5,10,30] [M 29 10,W 30 .neq 29 0]
def ZQH:=R [6,7] [M 31 10,I 6 (.mv (.v .nils)),M 7 31]
def ZQI:=R [0,4,5,11] [I 32 (.mkmap),I 11 (.box (.v .nilmap)),N 1 11 32]
def ZQJ:=R [0,4,11,34,35,36] [T 33 7 5,I 34 (C ZHl [(.s 33)]),I 35 (.len 1 (.s 34)),K 36 0]
def ZQK:=R [0,4,11,34,35,36,37] [B 37 .lss 36 35]
def ZMy:=R [0,4,11,13,34,35,36] [I 38 (.ixS 1 (.s 34) (.s 36)),L 39 38,M 13 39]
def ZMz:=R [0,4,11,14,34,35,36] [M 40 0,M 41 13,L 42 11,I 43 (C JT [(.s 40),(.s 41),(.s 42),(.v (.func (.func YV) [] []))]),M 14 43]
def ZM0:=R [0,4,11,14,34,35,36,45] [M 44 14,W 45 .neq 44 0]
def ZM1:=R [6,7] [M 46 14,I 6 (.mv (.v .nils)),M 7 46]
def ZM2:=R [0,4,11,34,35,36] [W 47 .add 36 1,M 36 47]
def ZM3:PC:=(D ZQK
 (D (E 37
 .skip
 (.exit 0))
 (D (.block 1
 (D ZMy
 (D ZMz
 (D ZM0
 (E 45
 (D ZM1
 .ret)
 .skip)))))
 ZM2)))
def ZM4:=R [0,4,11,15] [I 15 (.boxnil 1)]
def ZM5:=R [0,4,11,15,50] [F 48 0 4,L 49 48,I 50 (.bin .eql (.s 49) (.v (.int .u64 0)))]
def ZM6:=R [6,7] [I 6 (.mv (.v .nils)),K 7 0]
def ZM7:=R [15,16] [M 51 0,F 52 0 4,L 53 52,I 54 (.mkmap),I 55 (.mkf (.func YW) [] [(.s 11),(.s 15)]),I 56 (C JT [(.s 51),(.s 53),(.s 54),(.s 55)]),M 16 56]
def ZM8:=R [15,16,58] [M 57 16,W 58 .neq 57 0]
def ZM9:=R [6,7] [M 59 16,I 6 (.mv (.v .nils)),M 7 59]
def ZNA:=R [6,7] [L 60 15,M 6 60,K 7 0]
def ZIZ:PF:=⟨false,
 (D ZQB
 (D (D ZQC
 (D ZQD
 (E 24
 (D ZQE
 .ret)
 .skip)))
 (D (D ZQF
 (D ZQG
 (E 30
 (D ZQH
 .ret)
 .skip)))
 (D ZQI
 (D (D ZQJ
 (.block 0
 (.loop ZM3)))
 (D ZM4
 (D (D ZM5
 (E 50
 (D ZM6
 .ret)
 .skip))
 (D ZM7
 (D (D ZM8
 (E 58
 (D ZM9
 .ret)
 .skip))
 (D ZNA
 .ret)))))))))),
 [.s 6,.s 7]⟩
theorem ZXS:ck0 false [(15,⟨[0,4,11,15],[0],[],[],[],[]⟩)] ZIZ Tryz.f64=some ZIZ:=by kernel_rfl
def ZXT:=R [0,2] [I 2 (.box (.v ZT)),K 3 0]
def ZXU:=R [0,2,14] [M 12 0,I 13 (.len 0 (.s 12)),W 14 .gtr 13 65536]
def ZXV:=R [2,3] [I 15 (.build [(.int .u64 0),(.int .i64 0),(.int .i64 0),(.int .i64 0),(.int .i64 0),(.str []),.nils] []),N 7 2 15,K 3 5]
def ZXW:=R [0,2,4] [I 4 (.onil 7)]
def ZXX:=R [2,4,17,18,19] [M 16 0,I 17 (C ZCS [(.s 16)]),I 18 (.len 1 (.s 17)),K 19 0]
def ZXY:=R [2,4,17,18,19,20] [B 20 .lss 19 18]
def ZXZ:=R [2,4,6,17,18,19] [I 21 (.ixS 1 (.s 17) (.s 19)),L 22 21,M 6 22]
def ZXa:=R [2,4,17,18,19] [M 23 4,M 24 6,I 25 (.build [(.int .u64 0),(.int .i64 0),(.int .i64 0),(.int .i64 0),(.int .i64 0),(.str []),.nils] [(5,1,(.s 24))]),I 26 (.bslice false 7 [ZT] [(0,(.s 25))]),I 27 (.app 7 80 (.s 23) (.s 26)),M 4 27]
def ZXb:=R [2,4,17,18,19] [W 28 .add 19 1,M 19 28]
def ZXc:PC:=(D ZXY
 (D (E 20
 .skip
 (.exit 0))
 (D (.block 1
 (D ZXZ
 ZXa))
 ZXb)))
def ZTJ:=R [2,4,31] [M 29 4,I 30 (.len 1 (.s 29)),W 31 .gtr 30 1]
def ZTK:=R [2,4,7,8] [M 33 4,I 34 (.len 1 (.s 33)),I 35 (C ZFM [(.s 34),(V 4)]),M 32 35,X 36 32 0,X 37 32 1,M 7 36,M 8 37]
def ZTL:=R [2,4,7,8,39] [M 38 8,W 39 .neq 38 0]
def ZTM:=R [2,3] [I 40 (.build [(.int .u64 0),(.int .i64 0),(.int .i64 0),(.int .i64 0),(.int .i64 0),(.str []),.nils] []),M 41 8,N 7 2 40,M 3 41]
def ZTN:=R [2,4,7,9] [I 9 (.onil 7)]
def ZTO:=R [2,4,9,42,43,44] [M 42 7,I 43 (.len 1 (.s 42)),K 44 0]
def ZTP:=R [2,4,9,42,43,44,45] [B 45 .lss 44 43]
def ZTQ:=R [2,4,9,11,42,43,44] [I 46 (.ixS 1 (.s 42) (.s 44)),L 47 46,M 11 47]
def ZTR:=R [2,4,9,11,42,43,44] [M 48 9,M 49 4,M 50 11,I 51 (.slc 7 (.s 49) none (some (.s 50))),I 52 (C QP [(.s 51)]),I 53 (.bslice false 7 [ZT] [(0,(.s 52))]),I 54 (.app 7 80 (.s 48) (.s 53)),M 9 54]
def ZTS:=R [2,4,9,42,43,44] [M 55 4,M 56 11,I 57 (.slc 7 (.s 55) (some (.s 56)) none),M 4 57]
def ZTT:=R [2,4,9,42,43,44] [W 58 .add 44 1,M 44 58]
def ZTU:PC:=(D ZTP
 (D (E 45
 .skip
 (.exit 4))
 (D (.block 5
 (D ZTQ
 (D ZTR
 ZTS)))
 ZTT)))
def ZTV:=R [2,4] [M 59 9,M 4 59]
def ZGN:PC:=(D (D ZTJ
 (E 31
 .skip
 (.exit 2)))
 (.block 3
 (D ZTK
 (D (D ZTL
 (E 39
 (D ZTM
 .ret)
 .skip))
 (D ZTN
 (D (D ZTO
 (.block 4
 (.loop ZTU)))
 ZTV))))))
def ZGO:=R [2,3] [M 60 4,I 61 (C QP [(.s 60)]),N 7 2 61,K 3 0]
def ZNB:PF:=⟨false,
 (D ZXT
 (D (D ZXU
 (E 14
 (D ZXV
 .ret)
 .skip))
 (D ZXW
 (D (D ZXX
 (.block 0
 (.loop ZXc)))
 (D (.block 2
 (.loop ZGN))
 (D ZGO
 .ret)))))),
 [.c 2 true 7,.s 3]⟩
theorem ZeJ:ck0 false [(3,⟨[0,2,4],[0],[],[],[],[]⟩),(13,⟨[2,4,7,9],[0],[],[],[],[]⟩)] ZNB Tryz.f65=some ZNB:=by kernel_rfl
def ZQL:=R [0,2,3,4,6,10] [I 6 (.box (.s 1)),I 10 (.box (.v ZT)),K 11 0]
def ZQM:=R [0,2,3,4,6,10,12] [M 20 0,T 21 7 6,I 22 (C YA [(.s 20),(.s 21)]),M 12 22]
def ZQN:=R [0,2,3,4,6,10,12,24] [M 23 12,W 24 .neq 23 0]
def ZQO:=R [10,11] [I 25 (.build [(.int .u64 0),(.int .i64 0),(.int .i64 0),(.int .i64 0),(.int .i64 0),(.str []),.nils] []),M 26 12,N 7 10 25,M 11 26]
def ZQP:=R [0,2,3,4,6,10,13] [T 27 7 6,I 28 (C Qq [(.s 27)]),M 13 28]
def ZQQ:=R [0,2,3,4,6,10,13,46] [M 29 2,W 30 .lss 29 0,M 31 30,U 32 31 false 2,U 33 31 false 13,G 34 31 false (.bin .gtr (.s 32) (.s 33)),I 35 (.pick (.s 31) (.v (.bool true)) (.s 34)),M 36 35,U 37 36 false 3,G 38 36 false (.bin .lss (.s 37) (V 0)),I 39 (.pick (.s 36) (.v (.bool true)) (.s 38)),M 40 39,U 41 40 false 3,U 42 40 false 13,U 43 40 false 2,G 44 40 false (.bin .sub (.s 42) (.s 43)),G 45 40 false (.bin .gtr (.s 41) (.s 44)),I 46 (.pick (.s 40) (.v (.bool true)) (.s 45))]
def ZQR:=R [10,11] [I 47 (.build [(.int .u64 0),(.int .i64 0),(.int .i64 0),(.int .i64 0),(.int .i64 0),(.str []),.nils] []),N 7 10 47,K 11 3]
def ZQS:=R [0,2,3,4,6,10,60] [M 48 13,M 49 3,B 50 .sub 48 49,M 51 4,I 52 (.len 0 (.s 51)),I 53 (.mnx false (.s 52) (V 65536)),I 54 (.bin .sub (V 65536) (.s 53)),B 55 .gtr 50 54,M 56 55,U 57 56 false 4,G 58 56 false (.len 0 (.s 57)),G 59 56 false (.bin .gtr (.s 58) (V 65536)),I 60 (.pick (.s 56) (.v (.bool true)) (.s 59))]
def ZQT:=R [10,11] [I 61 (.build [(.int .u64 0),(.int .i64 0),(.int .i64 0),(.int .i64 0),(.int .i64 0),(.str []),.nils] []),N 7 10 61,K 11 5]
def ZQU:=R [0,2,3,4,6,10,67] [M 62 3,W 63 .eql 62 0,M 64 63,U 65 64 true 4,G 66 64 true (.bin .eql (.s 65) (.v (.str []))),I 67 (.pick (.s 64) (.s 66) (.v (.bool false)))]
def ZNC:=R [10,11] [T 68 7 6,I 69 (C ZCT [(.s 68)]),N 7 10 69,K 11 0]
def ZND:=R [0,3,4,10,14,15,16] [M 71 0,T 72 7 6,M 73 2,I 74 (C ZAs [(.s 71),(.s 72),(.s 73)]),M 70 74,X 75 70 0,X 76 70 1,X 77 70 2,I 14 (.box (.v ZT)),I 15 (.box (.v ZT)),N 7 14 75,N 7 15 76,M 16 77]
def ZNE:=R [0,3,4,10,14,15,16,79] [M 78 16,W 79 .neq 78 0]
def ZNF:=R [10,11] [I 80 (.build [(.int .u64 0),(.int .i64 0),(.int .i64 0),(.int .i64 0),(.int .i64 0),(.str []),.nils] []),M 81 16,N 7 10 80,M 11 81]
def ZNG:=R [0,4,10,14,16,18] [M 83 0,T 84 7 15,M 85 3,I 86 (C ZAs [(.s 83),(.s 84),(.s 85)]),M 82 86,X 87 82 0,X 88 82 1,X 89 82 2,I 17 (.box (.v ZT)),I 18 (.box (.v ZT)),N 7 17 87,N 7 18 88,M 16 89]
def ZNH:=R [0,4,10,14,16,18,91] [M 90 16,W 91 .neq 90 0]
def ZNI:=R [10,11] [I 92 (.build [(.int .u64 0),(.int .i64 0),(.int .i64 0),(.int .i64 0),(.int .i64 0),(.str []),.nils] []),M 93 16,N 7 10 92,M 11 93]
def ZNJ:=R [0,10,14,16,18,19] [M 95 4,I 96 (C ZAN [(.s 95)]),M 94 96,X 97 94 0,X 98 94 1,I 19 (.box (.v ZT)),N 7 19 97,M 16 98]
def ZNK:=R [0,10,14,16,18,19,100] [M 99 16,W 100 .neq 99 0]
def ZNL:=R [10,11] [I 101 (.build [(.int .u64 0),(.int .i64 0),(.int .i64 0),(.int .i64 0),(.int .i64 0),(.str []),.nils] []),M 102 16,N 7 10 101,M 11 102]
def ZNM:=R [0,10,14,16,18] [M 104 0,T 105 7 14,T 106 7 19,I 107 (C Yr [(.s 104),(.s 105),(.s 106)]),M 103 107,X 108 103 0,X 109 103 1,N 7 14 108,M 16 109]
def ZNN:=R [0,10,14,16,18,111] [M 110 16,W 111 .neq 110 0]
def ZNO:=R [10,11] [I 112 (.build [(.int .u64 0),(.int .i64 0),(.int .i64 0),(.int .i64 0),(.int .i64 0),(.str []),.nils] []),M 113 16,N 7 10 112,M 11 113]
def ZNP:=R [10,14,16] [M 115 0,T 116 7 14,T 117 7 18,I 118 (C Yr [(.s 115),(.s 116),(.s 117)]),M 114 118,X 119 114 0,X 120 114 1,N 7 14 119,M 16 120]
def ZNQ:=R [10,11] [T 121 7 14,I 122 (C ZCT [(.s 121)]),M 123 16,N 7 10 122,M 11 123]
def ZIa:PF:=⟨false,
 (D ZQL
 (D (D ZQM
 (D ZQN
 (E 24
 (D ZQO
 .ret)
 .skip)))
 (D ZQP
 (D (D ZQQ
 (E 46
 (D ZQR
 .ret)
 .skip))
 (D (D ZQS
 (E 60
 (D ZQT
 .ret)
 .skip))
 (D (D ZQU
 (E 67
 (D ZNC
 .ret)
 .skip))
 (D ZND
 (D (D ZNE
 (E 79
 (D ZNF
 .ret)
 .skip))
 (D ZNG
 (D (D ZNH
 (E 91
 (D ZNI
 .ret)
 .skip))
 (D ZNJ
 (D (D ZNK
 (E 100
 (D ZNL
 .ret)
 .skip))
 (D (D ZNM
 (D ZNN
 (E 111
 (D ZNO
 .ret)
 .skip)))
 (D ZNP
 (D ZNQ
 .ret))))))))))))))),
 [.c 10 true 7,.s 11]⟩
theorem ZXe:ck0 false [] ZIa Tryz.f66=some ZIa:=by kernel_rfl
def ZXf:=R [0,3] [I 3 (.box (.s 1)),K 4 0]
def ZXg:=R [0,3,7] [M 6 0,I 7 (.eqs false 3 [] (.s 6) (.v .nilptr))]
def ZXh:=R [4] [K 4 1]
def ZXi:=R [0,3,10] [T 8 7 3,I 9 (C Ql [(.s 8)]),W 10 .eql 9 1]
def ZXj:=R [4] [K 4 0]
def ZXk:=R [3,5] [M 11 0,T 12 7 3,I 13 (C ZBn [(.s 11),(.s 12),(.v (.bool false)),(V 0)]),M 5 13]
def ZXl:=R [3,5,15] [M 14 5,W 15 .neq 14 0]
def ZXm:=R [4] [M 16 5,M 4 16]
def ZXn:=R [19] [T 17 7 3,I 18 (C Qq [(.s 17)]),W 19 .gtr 18 65536]
def ZXo:=R [4] [K 4 5]
def ZTW:=R [4] [K 4 0]
def ZNR:PF:=⟨false,
 (D ZXf
 (D (D ZXg
 (E 7
 (D ZXh
 .ret)
 .skip))
 (D (D ZXi
 (E 10
 (D ZXj
 .ret)
 .skip))
 (D (D ZXk
 (D ZXl
 (E 15
 (D ZXm
 .ret)
 .skip)))
 (D (D ZXn
 (E 19
 (D ZXo
 .ret)
 .skip))
 (D ZTW
 .ret)))))),
 [.s 4]⟩
theorem ZeL:ck0 false [] ZNR Tryz.f67=some ZNR:=by kernel_rfl
def ZTX:=R [1,2,3,4] [I 4 (.box (.s 0)),K 5 0]
def ZTY:=R [1,2,3,4,15] [F 13 1 4,L 14 13,W 15 .eql 14 0]
def ZTZ:=R [2,6,7] [L 17 1,T 18 7 4,I 19 (C ZAB [(.s 17),(.s 18)]),M 16 19,X 20 16 0,X 21 16 1,M 6 20,M 7 21]
def ZTa:=R [7] [L 22 2,M 23 6,I 24 (.app 1 1 (.s 22) (.s 23)),N 1 2 24]
def ZTb:=R [5] [M 25 7,M 5 25]
def ZTc:=R [3,8,9] [L 27 1,T 28 7 4,I 29 (C J5 [(.s 27),(.s 28)]),M 26 29,X 30 26 0,X 31 26 1,M 8 30,M 9 31]
def ZTd:=R [3,8,9,33] [M 32 9,W 33 .neq 32 0]
def ZTe:=R [5] [M 34 9,M 5 34]
def ZTf:=R [3,35,36,37] [M 35 8,I 36 (.len 1 (.s 35)),K 37 0]
def ZTg:=R [3,35,36,37,38] [B 38 .lss 37 36]
def ZQV:=R [3,11,35,36,37] [I 39 (.ixS 7 (.s 35) (.s 37)),T 40 7 39,I 11 (.box (.v ZT)),N 7 11 40]
def ZQW:=R [3,12,35,36,37] [L 41 3,T 42 7 11,I 43 (.call .norm (.s 41) [(.s 42)]),M 12 43]
def ZQX:=R [3,12,35,36,37,45] [M 44 12,W 45 .neq 44 0]
def ZQY:=R [5] [M 46 12,M 5 46]
def ZQZ:=R [3,35,36,37] [W 47 .add 37 1,M 37 47]
def ZQa:PC:=(D ZTg
 (D (E 38
 .skip
 (.exit 0))
 (D (.block 1
 (D ZQV
 (D ZQW
 (D ZQX
 (E 45
 (D ZQY
 .ret)
 .skip)))))
 ZQZ)))
def ZQb:=R [5] [K 5 0]
def ZJ6:PF:=⟨false,
 (D ZTX
 (D (D ZTY
 (E 15
 (D ZTZ
 (D ZTa
 (D ZTb
 .ret)))
 .skip))
 (D ZTc
 (D (D ZTd
 (E 33
 (D ZTe
 .ret)
 .skip))
 (D (D ZTf
 (.block 0
 (.loop ZQa)))
 (D ZQb
 .ret)))))),
 [.s 5]⟩
theorem Za3:ck0 false [] ZJ6 Tryz.f68=some ZJ6:=by kernel_rfl
def Za4:=R [0,3] [I 3 (.box (.s 1)),I 4 (.mv (.v (.str []))),K 5 0]
def Za5:=R [0,3,10] [F 8 0 3,L 9 8,I 10 (.bin .eql (.s 9) (.v (.int .u64 0)))]
def Za6:=R [4,5] [F 11 5 3,L 12 11,M 4 12,K 5 0]
def Za7:=R [6,7] [M 14 0,F 15 0 3,L 16 15,I 17 (C Qm [(.s 14),(.s 16)]),M 13 17,X 18 13 0,X 19 13 1,I 6 (.box (.v ZN)),N 3 6 18,M 7 19]
def Za8:=R [4,5] [F 20 1 6,L 21 20,M 22 7,M 4 21,M 5 22]
def ZSZ:PF:=⟨false,
 (D Za4
 (D (D Za5
 (E 10
 (D Za6
 .ret)
 .skip))
 (D Za7
 (D Za8
 .ret)))),
 [.s 4,.s 5]⟩
theorem Zgm:ck0 false [] ZSZ Tryz.f69=some ZSZ:=by kernel_rfl
def ZNS:=R [0,3] [I 3 (.box (.s 1)),I 4 (.mv (.v .nils)),K 5 0]
def ZNT:=R [0,3,13] [F 11 0 3,L 12 11,I 13 (.bin .eql (.s 12) (.v (.int .u64 0)))]
def ZNU:=R [4,5] [F 14 6 3,L 15 14,M 4 15,K 5 0]
def ZNV:=R [6,7] [M 17 0,F 18 0 3,L 19 18,I 20 (C Qm [(.s 17),(.s 19)]),M 16 20,X 21 16 0,X 22 16 1,I 6 (.box (.v ZN)),N 3 6 21,M 7 22]
def ZNW:=R [6,7,24] [M 23 7,W 24 .neq 23 0]
def ZNX:=R [4,5] [M 25 7,I 4 (.mv (.v .nils)),M 5 25]
def ZNY:=R [6,8] [I 8 (.onil 7)]
def ZNZ:=R [6,8,27,28,29] [F 26 2 6,L 27 26,I 28 (.len 1 (.s 27)),K 29 0]
def ZNa:=R [6,8,27,28,29,30] [B 30 .lss 29 28]
def ZNb:=R [6,8,10,27,28,29] [I 31 (.ixS 4 (.s 27) (.s 29)),T 32 4 31,I 10 (.box (.v ZK)),N 4 10 32]
def ZKy:=R [6,8,27,28,29] [M 33 8,F 34 0 10,L 35 34,F 36 0 6,L 37 36,W 38 .sub 37 1,F 39 1 10,T 40 3 39,I 41 (.build [(.int .u64 0),(.int .i64 0),(.int .i64 0),(.int .i64 0),(.int .i64 0),(.str []),.nils] [(0,1,(.s 35)),(1,1,(.s 38)),(2,3,(.s 40))]),I 42 (.bslice false 7 [ZT] [(0,(.s 41))]),I 43 (.app 7 80 (.s 33) (.s 42)),M 8 43]
def ZKz:=R [6,8,27,28,29] [W 44 .add 29 1,M 29 44]
def ZDF:PC:=(D ZNa
 (D (E 30
 .skip
 (.exit 0))
 (D (.block 1
 (D ZNb
 ZKy))
 ZKz)))
def ZK0:=R [8,47] [M 45 8,I 46 (.len 1 (.s 45)),W 47 .eql 46 0]
def ZK1:=R [4,5] [I 4 (.mv (.v .nils)),K 5 23]
def ZK2:=R [4,5] [M 48 8,M 4 48,K 5 0]
def ZGP:PF:=⟨false,
 (D ZNS
 (D (D ZNT
 (E 13
 (D ZNU
 .ret)
 .skip))
 (D ZNV
 (D (D ZNW
 (E 24
 (D ZNX
 .ret)
 .skip))
 (D ZNY
 (D (D ZNZ
 (.block 0
 (.loop ZDF)))
 (D (D ZK0
 (E 47
 (D ZK1
 .ret)
 .skip))
 (D ZK2
 .ret)))))))),
 [.s 4,.s 5]⟩
theorem ZTi:ck0 false [(6,⟨[6,8],[0],[],[],[],[]⟩)] ZGP Tryz.f70=some ZGP:=by kernel_rfl
def Za9:=R [1] [I 1 (.box (.s 0)),K 2 0]
def ZbA:=R [1,3] [F 4 2 1,T 5 3 4,I 6 (.build [(.int .i64 0),(.int .i64 0),(.int .i64 0)] []),I 7 (.eqs false 0 [(0,0),(1,0),(2,0)] (.s 5) (.s 6)),M 8 7,G 9 8 true (.fadr 0 (.s 1)),G 10 8 true (.ld false 1 (.s 9)),G 11 8 true (.bin .eql (.s 10) (.v (.int .u64 0))),I 12 (.pick (.s 8) (.s 11) (.v (.bool false))),M 3 12]
def ZbB:=R [1,3,13] [M 14 3,M 15 14,G 16 15 true (.fadr 1 (.s 1)),G 17 15 true (.ld false 1 (.s 16)),G 18 15 true (.bin .eql (.s 17) (V 0)),I 19 (.pick (.s 15) (.s 18) (.v (.bool false))),M 20 19,G 21 20 true (.fadr 5 (.s 1)),G 22 20 true (.ld false 1 (.s 21)),G 23 20 true (.bin .eql (.s 22) (.v (.str []))),I 24 (.pick (.s 20) (.s 23) (.v (.bool false))),M 25 24,G 26 25 true (.fadr 6 (.s 1)),G 27 25 true (.ld false 1 (.s 26)),G 28 25 true (.len 1 (.s 27)),G 29 25 true (.bin .eql (.s 28) (V 0)),I 30 (.pick (.s 25) (.s 29) (.v (.bool false))),M 13 30]
def ZbC:=R [2] [K 2 1]
def ZbD:=R [1,3,31] [F 32 0 1,L 33 32,I 34 (.bin .neq (.s 33) (.v (.int .u64 0))),M 35 34,G 36 35 true (.fadr 5 (.s 1)),G 37 35 true (.ld false 1 (.s 36)),G 38 35 true (.bin .eql (.s 37) (.v (.str []))),I 39 (.pick (.s 35) (.s 38) (.v (.bool false))),M 40 39,G 41 40 true (.fadr 6 (.s 1)),G 42 40 true (.ld false 1 (.s 41)),G 43 40 true (.len 1 (.s 42)),G 44 40 true (.bin .eql (.s 43) (V 0)),I 45 (.pick (.s 40) (.s 44) (.v (.bool false))),M 31 45]
def ZbE:=R [2] [K 2 2]
def ZbF:=R [1,3,46] [M 47 3,M 48 47,G 49 48 true (.fadr 1 (.s 1)),G 50 48 true (.ld false 1 (.s 49)),G 51 48 true (.bin .eql (.s 50) (V 0)),I 52 (.pick (.s 48) (.s 51) (.v (.bool false))),M 53 52,G 54 53 true (.fadr 6 (.s 1)),G 55 53 true (.ld false 1 (.s 54)),G 56 53 true (.len 1 (.s 55)),G 57 53 true (.bin .eql (.s 56) (V 0)),I 58 (.pick (.s 53) (.s 57) (.v (.bool false))),M 59 58,G 60 59 true (.fadr 5 (.s 1)),G 61 59 true (.ld false 1 (.s 60)),G 62 59 true (.len 0 (.s 61)),G 63 59 true (.bin .leq (.s 62) (V 16)),I 64 (.pick (.s 59) (.s 63) (.v (.bool false))),M 46 64]
def ZbG:=R [2] [K 2 3]
def ZbH:=R [65] [M 66 3,M 67 66,G 68 67 true (.fadr 5 (.s 1)),G 69 67 true (.ld false 1 (.s 68)),G 70 67 true (.bin .eql (.s 69) (.v (.str []))),I 71 (.pick (.s 67) (.s 70) (.v (.bool false))),M 72 71,G 73 72 true (.fadr 1 (.s 1)),G 74 72 true (.ld false 1 (.s 73)),G 75 72 true (.bin .geq (.s 74) (V 1)),I 76 (.pick (.s 72) (.s 75) (.v (.bool false))),M 77 76,G 78 77 true (.fadr 1 (.s 1)),G 79 77 true (.ld false 1 (.s 78)),G 80 77 true (.bin .leq (.s 79) (V 16)),I 81 (.pick (.s 77) (.s 80) (.v (.bool false))),M 82 81,G 83 82 true (.fadr 6 (.s 1)),G 84 82 true (.ld false 1 (.s 83)),G 85 82 true (.len 1 (.s 84)),G 86 82 true (.bin .geq (.s 85) (V 2)),I 87 (.pick (.s 82) (.s 86) (.v (.bool false))),M 88 87,G 89 88 true (.fadr 6 (.s 1)),G 90 88 true (.ld false 1 (.s 89)),G 91 88 true (.len 1 (.s 90)),G 92 88 true (.bin .leq (.s 91) (V 4)),I 93 (.pick (.s 88) (.s 92) (.v (.bool false))),M 65 93]
def ZbI:=R [2] [K 2 4]
def ZXp:=R [2] [K 2 0]
def ZSa:PF:=⟨false,
 (D Za9
 (D ZbA
 (D (.block 0
 (D ZbB
 (E 13
 (D ZbC
 .ret)
 (D ZbD
 (E 31
 (D ZbE
 .ret)
 (D ZbF
 (E 46
 (D ZbG
 .ret)
 (D ZbH
 (E 65
 (D ZbI
 .ret)
 .skip)))))))))
 (D ZXp
 .ret)))),
 [.s 2]⟩
theorem Zgo:ck0 false [] ZSa Tryz.f71=some ZSa:=by kernel_rfl
def ZXq:=R [0,3] [I 3 (.box (.s 1)),I 4 (.mv (.v .nilptr)),K 5 0]
def ZXr:=R [0,3,6] [M 8 0,T 9 7 3,I 10 (C YA [(.s 8),(.s 9)]),M 6 10]
def ZXs:=R [0,3,6,12] [M 11 6,W 12 .neq 11 0]
def ZXt:=R [4,5] [M 13 6,I 4 (.mv (.v .nilptr)),M 5 13]
def ZXu:=R [0,3,19] [T 14 7 3,I 15 (C ZAt [(.s 14)]),M 16 0,I 17 (C XZ [(.s 16)]),I 18 (.fld false 1 1 (.s 17)),B 19 .gtr 15 18]
def ZXv:=R [4,5] [I 4 (.mv (.v .nilptr)),K 5 6]
def ZXw:=R [3,7] [M 20 0,I 21 (.build [.nilptr,.nils,.nilptr] [(0,1,(.s 20))]),I 22 (.box (.s 21)),M 7 22]
def ZXx:=R [7] [M 23 7,M 24 7,T 25 7 3,I 26 (C Qo [(.s 24),(.s 25)]),I 27 (.nilck (.s 23)),F 28 2 27,N 1 28 26]
def ZXy:=R [4,5] [M 29 7,M 4 29,K 5 0]
def ZNc:PF:=⟨true,
 (D ZXq
 (D (D ZXr
 (D ZXs
 (E 12
 (D ZXt
 .ret)
 .skip)))
 (D (D ZXu
 (E 19
 (D ZXv
 .ret)
 .skip))
 (D ZXw
 (D ZXx
 (D ZXy
 .ret)))))),
 [.s 4,.s 5]⟩
theorem ZeN:ck0 true [] ZNc Tryz.f72=some ZNc:=by kernel_rfl
def ZNd:=R [0] [I 2 (.mv (.v (.int .u64 0))),I 3 (.mv (.v (.bool false))),K 4 0]
def ZNe:=R [0,6] [M 5 0,I 6 (.eqs false 3 [] (.s 5) (.v .nilptr))]
def ZNf:=R [2,3,4] [I 2 (.mv (.v (.int .u64 0))),I 3 (.mv (.v (.bool false))),K 4 1]
def ZNg:=R [0,12] [M 7 0,I 8 (.nilck (.s 7)),F 9 1 8,L 10 9,I 11 (.len 1 (.s 10)),W 12 .eql 11 0]
def ZNh:=R [2,3,4] [I 2 (.mv (.v (.int .u64 0))),I 3 (.mv (.v (.bool true))),K 4 0]
def ZNi:=R [0,2,4] [M 14 0,I 15 (.nilck (.s 14)),F 16 1 15,L 17 16,I 18 (.ixS 1 (.s 17) (V 0)),L 19 18,I 20 (.call .norm (.s 19) []),M 13 20,X 21 13 0,X 22 13 1,M 2 21,M 4 22]
def ZNj:=R [0,2,4,24] [M 23 4,W 24 .neq 23 0]
def ZNk:=R [2,3,4] [M 25 4,I 2 (.mv (.v (.int .u64 0))),I 3 (.mv (.v (.bool false))),M 4 25]
def ZNl:=R [0,2] [M 26 0,M 27 0,I 28 (.nilck (.s 27)),F 29 1 28,L 30 29,I 31 (.slc 1 (.s 30) (some (V 1)) none),I 32 (.nilck (.s 26)),F 33 1 32,N 1 33 31]
def ZNm:=R [2,3,4] [M 34 2,M 35 0,I 36 (.nilck (.s 35)),F 37 1 36,L 38 37,I 39 (.len 1 (.s 38)),W 40 .eql 39 0,M 2 34,M 3 40,K 4 0]
def ZGQ:PF:=⟨false,
 (D ZNd
 (D (D ZNe
 (E 6
 (D ZNf
 .ret)
 .skip))
 (D (D ZNg
 (E 12
 (D ZNh
 .ret)
 .skip))
 (D ZNi
 (D (D ZNj
 (E 24
 (D ZNk
 .ret)
 .skip))
 (D ZNl
 (D ZNm
 .ret))))))),
 [.s 2,.s 3,.s 4]⟩
theorem ZTk:ck0 false [] ZGQ Tryz.f73=some ZGQ:=by kernel_rfl
def ZNn:=R [0,2] [I 2 (.box (.v ZR)),K 3 0]
def ZNo:=R [0,2,5] [M 4 0,I 5 (.eqs false 3 [] (.s 4) (.v .nilptr))]
def ZNp:=R [2,3] [I 6 (.build [(.int .u64 0),(.int .i64 0),(.int .i64 0),(.int .i64 0),(.int .i64 0)] []),N 5 2 6,K 3 1]
def ZNq:=R [0,2,12] [M 7 0,I 8 (.nilck (.s 7)),F 9 1 8,L 10 9,I 11 (.len 1 (.s 10)),W 12 .gtr 11 0]
def ZNr:=R [2,3] [I 13 (.build [(.int .u64 0),(.int .i64 0),(.int .i64 0),(.int .i64 0),(.int .i64 0)] []),N 5 2 13,K 3 8]
def ZNs:=R [2,3] [M 14 0,I 15 (.nilck (.s 14)),F 16 2 15,L 17 16,I 18 (.nilck (.s 17)),T 19 5 18,N 5 2 19,K 3 0]
def ZGR:PF:=⟨false,
 (D ZNn
 (D (D ZNo
 (E 5
 (D ZNp
 .ret)
 .skip))
 (D (D ZNq
 (E 12
 (D ZNr
 .ret)
 .skip))
 (D ZNs
 .ret)))),
 [.c 2 true 5,.s 3]⟩
theorem ZTm:ck0 false [] ZGR Tryz.f74=some ZGR:=by kernel_rfl
def ZQc:=R [1,2,3] [I 3 (.box (.s 0))]
def ZQd:=R [1,2,3,4] [I 4 (.box (.v .nilfunc))]
def ZQe:=R [2,4] [I 5 (.mkf (.func YU) [] [(.s 1),(.s 3),(.s 4)]),N 1 4 5]
def ZQf:=R [2,4,8] [F 6 0 2,L 7 6,I 8 (.bin .neq (.s 7) (.v (.int .u64 0)))]
def ZQg:=R [] [L 9 4,F 10 0 2,L 11 10,I 12 (.call .norm (.s 9) [(.s 11)])]
def ZIb:PF:=⟨false,
 (D ZQc
 (D ZQd
 (D ZQe
 (D ZQf
 (E 8
 ZQg
 .skip))))),
 []⟩
theorem ZX0:ck0 false [] ZIb Tryz.f79=some ZIb:=by kernel_rfl
def ZK3:=R [0,1,2,3] [I 5 (.mv (.v (.bool false)))]
def ZK4:=R [0,2,3,6,7] [L 11 1,M 12 0,I 13 (C Qm [(.s 11),(.s 12)]),M 10 13,X 14 10 0,X 15 10 1,I 6 (.box (.v ZN)),N 3 6 14,M 7 15]
def ZK5:=R [3,6,26] [L 16 2,M 17 0,T 18 3 6,M 19 7,I 20 (.build [(.int .i64 0),(.str []),.nils,(.int .i64 0)] [(0,3,(.s 18)),(3,1,(.s 19))]),I 21 (.call .norm (.s 16) [(.s 17),(.s 20)]),I 22 (.un .not (.s 21)),M 23 22,U 24 23 false 7,G 25 23 false (.bin .neq (.s 24) (V 0)),I 26 (.pick (.s 23) (.v (.bool true)) (.s 25))]
def ZK6:=R [5] [I 5 (.mv (.v (.bool false)))]
def ZK7:=R [3,28,29,30] [F 27 2 6,L 28 27,I 29 (.len 1 (.s 28)),K 30 0]
def ZK8:=R [3,28,29,30,31] [B 31 .lss 30 29]
def ZK9:=R [3,9,28,29,30] [I 32 (.ixS 4 (.s 28) (.s 30)),T 33 4 32,I 9 (.box (.v ZK)),N 4 9 33]
def ZLA:=R [3,28,29,30,38] [L 34 3,F 35 0 9,L 36 35,I 37 (.call .norm (.s 34) [(.s 36)]),I 38 (.un .not (.s 37))]
def ZLB:=R [5] [I 5 (.mv (.v (.bool false)))]
def ZLC:=R [3,28,29,30] [W 39 .add 30 1,M 30 39]
def ZJi:PC:=(D ZK8
 (D (E 31
 .skip
 (.exit 0))
 (D (.block 1
 (D ZK9
 (D ZLA
 (E 38
 (D ZLB
 .ret)
 .skip))))
 ZLC)))
def ZJj:=R [5] [I 5 (.mv (.v (.bool true)))]
def ZEf:PF:=⟨false,
 (D ZK3
 (D ZK4
 (D (D ZK5
 (E 26
 (D ZK6
 .ret)
 .skip))
 (D (D ZK7
 (.block 0
 (.loop ZJi)))
 (D ZJj
 .ret))))),
 [.s 5]⟩
theorem ZQi:ck0 false [] ZEf Tryz.f80=some ZEf:=by kernel_rfl
def ZJk:=R [0,1,4] [I 4 (.box (.v ZN)),K 5 0]
def ZJl:=R [0,1,4,9] [M 8 0,I 9 (.eqs false 3 [] (.s 8) (.v .nilptr))]
def ZJm:=R [4,5] [I 10 (.build [(.int .i64 0),(.str []),.nils] []),N 3 4 10,K 5 1]
def ZJn:=R [0,4,6,7] [M 12 0,I 13 (.nilck (.s 12)),F 14 2 13,L 15 14,M 16 1,I 17 (.look 0 ZN true (.s 15) (.s 16)),M 11 17,X 18 11 0,X 19 11 1,I 6 (.box (.v ZN)),N 3 6 18,M 7 19]
def ZJo:=R [0,4,6,21] [M 20 7,I 21 (.un .not (.s 20))]
def ZJp:=R [4] [M 22 0,I 23 (.nilck (.s 22)),F 24 5 23,L 25 24,W 26 .add 25 1,I 27 (.nilck (.s 22)),F 28 5 27,N 1 28 26]
def ZJq:=R [4,5] [I 29 (.build [(.int .i64 0),(.str []),.nils] []),N 3 4 29,K 5 10]
def ZJr:=R [4,6] [F 30 2 6,L 31 30,I 32 (C Z9 [(.s 31)]),F 33 2 6,N 1 33 32]
def ZJs:=R [4,5] [T 34 3 6,N 3 4 34,K 5 0]
def ZDy:PF:=⟨false,
 (D ZJk
 (D (D ZJl
 (E 9
 (D ZJm
 .ret)
 .skip))
 (D ZJn
 (D (D ZJo
 (E 21
 (D ZJp
 (D ZJq
 .ret))
 .skip))
 (D ZJr
 (D ZJs
 .ret)))))),
 [.c 4 true 3,.s 5]⟩
theorem ZNu:ck0 false [] ZDy Tryz.f81=some ZDy:=by kernel_rfl
def ZTn:=R [0,2,3,5,8] [I 5 (.box (.s 1)),I 8 (.box (.v (.agg [(.int .u64 0),(.int .i64 0),(.int .i64 0),(.int .i64 0),(.int .i64 0),.nils,.nils]))),K 9 0]
def ZTo:=R [8,9] [M 10 0,T 11 5 5,M 12 2,M 13 3,I 14 (C ZCO [(.s 10),(.s 11),(.s 12),(V 0),(.s 13)]),X 15 14 0,X 16 14 1,N 7 8 15,M 9 16]
def ZJ7:PF:=⟨false,
 (D ZTn
 (D ZTo
 .ret)),
 [.c 8 true 7,.s 9]⟩
theorem ZbK:ck0 false [] ZJ7 Tryz.f82=some ZJ7:=by kernel_rfl
def ZEg:=R [0,1] [I 4 (.mv (.v .nils))]
def ZEh:=R [0,1,5] [I 5 (.onil 1)]
def ZEi:=R [0,1,5,9] [M 8 0,I 9 (.eqs false 3 [] (.s 8) (.v .nilptr))]
def ZEj:=R [4] [M 10 5,M 4 10]
def ZEk:=R [1,5,14,15,16] [M 11 0,I 12 (.nilck (.s 11)),F 13 1 12,L 14 13,I 15 (.len 1 (.s 14)),K 16 0]
def ZEl:=R [1,5,14,15,16,17] [B 17 .lss 16 15]
def ZEm:=R [1,5,6,7,14,15,16] [M 18 16,I 19 (.ixS 1 (.s 14) (.s 16)),L 20 19,M 6 18,M 7 20]
def ZEn:=R [1,5,6,14,15,16,23] [M 21 7,M 22 1,B 23 .eql 21 22]
def ZEo:=R [1,5,14,15,16] [M 24 5,M 25 6,I 26 (.bslice false 1 [(.int .i64 0)] [(0,(.s 25))]),I 27 (.app 1 8 (.s 24) (.s 26)),M 5 27]
def ZEp:=R [1,5,14,15,16] [W 28 .add 16 1,M 16 28]
def ZEI:PC:=(D ZEl
 (D (E 17
 .skip
 (.exit 0))
 (D (.block 1
 (D ZEm
 (D ZEn
 (E 23
 ZEo
 .skip))))
 ZEp)))
def ZEJ:=R [4] [M 29 5,M 4 29]
def ZAg:PF:=⟨false,
 (D ZEg
 (D ZEh
 (D (D ZEi
 (E 9
 (D ZEj
 .ret)
 .skip))
 (D (D ZEk
 (.block 0
 (.loop ZEI)))
 (D ZEJ
 .ret))))),
 [.s 4]⟩
theorem ZHM:ck0 false [(1,⟨[0,1,5],[0],[],[],[],[]⟩)] ZAg Tryz.f83=some ZAg:=by kernel_rfl
def ZTp:=R [0,1] [I 4 (.mv (.v (.int .u64 0))),K 5 0]
def ZTq:=R [0,1,19] [M 6 0,W 7 .lss 6 0,M 8 7,U 9 8 false 0,G 10 8 false (.bin .geq (.s 9) (V 16384)),I 11 (.pick (.s 8) (.v (.bool true)) (.s 10)),M 12 11,U 13 12 false 1,G 14 12 false (.bin .lss (.s 13) (.v (.int .u64 1))),I 15 (.pick (.s 12) (.v (.bool true)) (.s 14)),M 16 15,U 17 16 false 1,G 18 16 false (.bin .gtr (.s 17) (.v (.int .u64 4294967295))),I 19 (.pick (.s 16) (.v (.bool true)) (.s 18))]
def ZTr:=R [4,5] [I 4 (.mv (.v (.int .u64 0))),K 5 3]
def ZTs:=R [4,5] [M 20 1,I 21 (.bin .shl (.s 20) (.v (.int .u64 16))),M 22 0,I 23 (.cint .u64 (.s 22)),B 24 .or 21 23,M 4 24,K 5 0]
def ZJ8:PF:=⟨false,
 (D ZTp
 (D (D ZTq
 (E 19
 (D ZTr
 .ret)
 .skip))
 (D ZTs
 .ret))),
 [.s 4,.s 5]⟩
theorem ZbM:ck0 false [] ZJ8 Tryz.f84=some ZJ8:=by kernel_rfl
def ZQj:=R [0,1] [I 4 (.mv (.v .nilptr)),K 5 0]
def ZQk:=R [0,1,21] [M 8 0,W 9 .lss 8 1,M 10 9,U 11 10 false 0,G 12 10 false (.bin .gtr (.s 11) (V 16384)),I 13 (.pick (.s 10) (.v (.bool true)) (.s 12)),M 14 13,U 15 14 false 1,G 16 14 false (.bin .lss (.s 15) (.v (.int .u64 1))),I 17 (.pick (.s 14) (.v (.bool true)) (.s 16)),M 18 17,U 19 18 false 1,G 20 18 false (.bin .gtr (.s 19) (.v (.int .u64 4294967295))),I 21 (.pick (.s 18) (.v (.bool true)) (.s 20))]
def ZQl:=R [4,5] [I 4 (.mv (.v .nilptr)),K 5 3]
def ZQm:PC:=(.regH [3,1,5] [0,6] [M 22 0,I 23 (.w (.here 1) (.mkslice 1 8 (.int .i64 0) (.s 22) (.s 22))),M 24 0,I 25 (.w (.here 3) (.mkslice 1 1 (.int .u8 0) (.s 24) (.s 24))),M 26 0,I 27 (.w (.here 5) (.mkslice 1 8 (.int .u64 0) (.s 26) (.s 26))),M 28 1,I 29 (.build [.nils,.nils,.nils,(.int .u64 0)] [(0,1,(.s 23)),(1,1,(.s 25)),(2,1,(.s 27)),(3,1,(.s 28))]),I 30 (.box (.s 29)),M 6 30])
def ZQn:=R [0,6,31,32] [M 31 0,K 32 0]
def ZQo:=R [0,6,31,32,33] [B 33 .lss 32 31]
def ZQp:=R [0,6,7,31,32] [M 34 32,M 7 34]
def ZQq:=R [0,6,7,31,32] [M 35 6,I 36 (.nilck (.s 35)),F 37 0 36,L 38 37,M 39 7,M 40 0,W 41 .sub 40 1,M 42 7,B 43 .sub 41 42,I 44 (.ixS 1 (.s 38) (.s 39)),N 1 44 43]
def ZQr:=R [0,6,31,32] [M 45 6,I 46 (.nilck (.s 45)),F 47 2 46,L 48 47,M 49 7,I 50 (.ixS 1 (.s 48) (.s 49)),J (.st 1 (.s 50) (.v (.int .u64 1)))]
def ZQs:=R [0,6,31,32] [W 51 .add 32 1,M 32 51]
def ZNv:PC:=(D ZQo
 (D (E 33
 .skip
 (.exit 0))
 (D (.block 1
 (D ZQp
 (D ZQq
 ZQr)))
 ZQs)))
def ZNw:=R [4,5] [M 52 6,M 4 52,K 5 0]
def ZIc:PF:=⟨true,
 (D ZQj
 (D (D ZQk
 (E 21
 (D ZQl
 .ret)
 .skip))
 (D ZQm
 (D (D ZQn
 (.block 0
 (.loop ZNv)))
 (D ZNw
 .ret))))),
 [.s 4,.s 5]⟩
theorem ZX2:ck0 true [(3,⟨[0,6],[],[],[],[(1,(.here 1)),(5,(.here 5)),(3,(.here 3))],[3,1,5]⟩)] ZIc Tryz.f87=some ZIc:=by kernel_rfl
def ZbN:=R [0,1,2,7] [I 7 (.box (.s 3)),K 8 0]
def ZbO:=R [2,7,9,10] [M 13 0,M 14 1,I 15 (C Qm [(.s 13),(.s 14)]),M 12 15,X 16 12 0,X 17 12 1,I 9 (.box (.v ZN)),N 3 9 16,M 10 17]
def ZbP:=R [2,7,9,10,19] [M 18 10,W 19 .neq 18 0]
def ZbQ:=R [8] [M 20 10,M 8 20]
def ZbR:=R [2,7,9,10,11] [T 22 3 9,I 23 (C XC [(.s 22)]),M 21 23,X 24 21 0,X 25 21 1,I 11 (.box (.v ZM)),N 3 11 24,M 10 25]
def ZbS:=R [38] [M 26 10,W 27 .neq 26 0,M 28 27,G 29 28 false (.fadr 0 (.s 9)),G 30 28 false (.ld false 1 (.s 29)),U 31 28 false 2,G 32 28 false (.bin .neq (.s 30) (.s 31)),I 33 (.pick (.s 28) (.v (.bool true)) (.s 32)),M 34 33,G 35 34 false (.ld true 3 (.s 11)),G 36 34 false (.ld true 3 (.s 7)),G 37 34 false (.eqs true 0 [(0,0),(1,0),(2,0)] (.s 35) (.s 36)),I 38 (.pick (.s 34) (.v (.bool true)) (.s 37))]
def ZbT:=R [8] [K 8 23]
def ZbU:=R [8] [K 8 0]
def ZSb:PF:=⟨false,
 (D ZbN
 (D ZbO
 (D (D ZbP
 (E 19
 (D ZbQ
 .ret)
 .skip))
 (D ZbR
 (D (D ZbS
 (E 38
 (D ZbT
 .ret)
 .skip))
 (D ZbU
 .ret)))))),
 [.s 8]⟩
theorem Zgq:ck0 false [] ZSb Tryz.f88=some ZSb:=by kernel_rfl
def ZbV:=R [1] [I 1 (.box (.s 0)),I 2 (.mv (.v .nils))]
def ZbW:=R [1,3] [I 3 (.boxnil 1)]
def ZbX:=R [1,3,4] [I 6 (.mkmap),I 4 (.box (.v .nilmap)),N 1 4 6]
def ZbY:=R [1,3,4,5] [I 5 (.box (.v .nilfunc))]
def ZbZ:=R [1,3,5] [I 7 (.mkf (.func Ys) [] [(.s 4),(.s 3),(.s 5)]),N 1 5 7]
def Zba:=R [3] [L 8 5,T 9 7 1,I 10 (.call .norm (.s 8) [(.s 9)])]
def Zbb:=R [2] [L 11 3,M 2 11]
def ZSc:PF:=⟨false,
 (D ZbV
 (D ZbW
 (D ZbX
 (D ZbY
 (D ZbZ
 (D Zba
 (D Zbb
 .ret))))))),
 [.s 2]⟩
theorem Zgs:ck0 false [(1,⟨[1,3],[0],[],[],[],[]⟩)] ZSc Tryz.f93=some ZSc:=by kernel_rfl
def ZX3:=R [0,1,2,3] [K 8 0]
def ZX4:=R [0,1,2,3,16] [M 14 2,M 15 1,I 16 (.look 0 (.bool false) false (.s 14) (.s 15))]
def ZX5:=R [8] [K 8 0]
def ZX6:=R [0,1,2,3] [M 17 2,M 18 1,J (.mupd 0 (.s 17) (.s 18) (.v (.bool true)))]
def ZX7:=R [0,1,2,3,9,10] [M 20 0,M 21 1,I 22 (C Qm [(.s 20),(.s 21)]),M 19 22,X 23 19 0,X 24 19 1,I 9 (.box (.v ZN)),N 3 9 23,M 10 24]
def ZX8:=R [0,1,2,3,9,10,26] [M 25 10,W 26 .neq 25 0]
def ZX9:=R [8] [M 27 10,M 8 27]
def ZYA:=R [0,2,3,9] [M 28 3,M 29 1,I 30 (.call .norm (.s 28) [(.s 29)])]
def ZYB:=R [0,2,3,32,33,34] [F 31 2 9,L 32 31,I 33 (.len 1 (.s 32)),K 34 0]
def ZYC:=R [0,2,3,32,33,34,35] [B 35 .lss 34 33]
def ZTt:=R [0,2,3,12,32,33,34] [I 36 (.ixS 4 (.s 32) (.s 34)),T 37 4 36,I 12 (.box (.v ZK)),N 4 12 37]
def ZTu:=R [0,2,3,13,32,33,34] [M 38 0,F 39 0 12,L 40 39,M 41 2,M 42 3,I 43 (C JT [(.s 38),(.s 40),(.s 41),(.s 42)]),M 13 43]
def ZTv:=R [0,2,3,13,32,33,34,45] [M 44 13,W 45 .neq 44 0]
def ZTw:=R [8] [M 46 13,M 8 46]
def ZTx:=R [0,2,3,32,33,34] [W 47 .add 34 1,M 34 47]
def ZTy:PC:=(D ZYC
 (D (E 35
 .skip
 (.exit 0))
 (D (.block 1
 (D ZTt
 (D ZTu
 (D ZTv
 (E 45
 (D ZTw
 .ret)
 .skip)))))
 ZTx)))
def ZTz:=R [8] [K 8 0]
def ZNx:PF:=⟨false,
 (D ZX3
 (D (D ZX4
 (E 16
 (D ZX5
 .ret)
 .skip))
 (D ZX6
 (D ZX7
 (D (D ZX8
 (E 26
 (D ZX9
 .ret)
 .skip))
 (D ZYA
 (D (D ZYB
 (.block 0
 (.loop ZTy)))
 (D ZTz
 .ret)))))))),
 [.s 8]⟩
theorem ZeP:ck0 false [] ZNx Tryz.f94=some ZNx:=by kernel_rfl
def ZEq:PF:=⟨false,
 .skip,
 []⟩
theorem ZQu:ck0 false [] ZEq Tryz.f95=some ZEq:=by kernel_rfl
def ZLD:=R [0,2,7] [L 4 1,M 5 0,I 6 (.look 0 (.bool false) false (.s 4) (.s 5)),I 7 (.un .not (.s 6))]
def ZLE:=R [] [L 8 2,M 9 0,I 10 (.bslice false 1 [(.int .u64 0)] [(0,(.s 9))]),I 11 (.app 1 8 (.s 8) (.s 10)),N 1 2 11]
def ZEr:PF:=⟨false,
 (D ZLD
 (E 7
 ZLE
 .skip)),
 []⟩
theorem ZQw:ck0 false [] ZEr Tryz.f96=some ZEr:=by kernel_rfl
def ZQx:=R [0] [I 2 (.mv (.v .nils))]
def ZQy:=R [0,3] [I 3 (.onil 1)]
def ZQz:=R [0,3,8,9,10] [M 6 0,I 7 (.len 0 (.s 6)),I 8 (C ZA7 [(.s 7),(V 16)]),I 9 (.len 1 (.s 8)),K 10 0]
def ZQ0:=R [0,3,8,9,10,11] [B 11 .lss 10 9]
def ZQ1:=R [0,3,5,8,9,10] [I 12 (.ixS 1 (.s 8) (.s 10)),L 13 12,M 5 13]
def ZQ2:=R [0,3,5,8,9,10] [M 14 3,M 15 0,M 16 5,I 17 (.slcS (.s 15) none (some (.s 16))),I 18 (.bslice false 1 [(.str [])] [(0,(.s 17))]),I 19 (.app 1 16 (.s 14) (.s 18)),M 3 19]
def ZQ3:=R [0,3,8,9,10] [M 20 0,M 21 5,I 22 (.slcS (.s 20) (some (.s 21)) none),M 0 22]
def ZQ4:=R [0,3,8,9,10] [W 23 .add 10 1,M 10 23]
def ZQ5:PC:=(D ZQ0
 (D (E 11
 .skip
 (.exit 0))
 (D (.block 1
 (D ZQ1
 (D ZQ2
 ZQ3)))
 ZQ4)))
def ZQ6:=R [2] [M 24 3,M 2 24]
def ZId:PF:=⟨false,
 (D ZQx
 (D ZQy
 (D (D ZQz
 (.block 0
 (.loop ZQ5)))
 (D ZQ6
 .ret)))),
 [.s 2]⟩
theorem ZYE:ck0 false [(1,⟨[0,3],[0],[],[],[],[]⟩)] ZId Tryz.f97=some ZId:=by kernel_rfl
def ZYF:=R [0,1] [I 4 (.mv (.v .nils)),K 5 0]
def ZYG:=R [0,1,11] [M 6 0,W 7 .lss 6 0,M 8 7,U 9 8 false 1,G 10 8 false (.bin .lss (.s 9) (V 1)),I 11 (.pick (.s 8) (.v (.bool true)) (.s 10))]
def ZYH:=R [4,5] [I 4 (.mv (.v .nils)),K 5 2]
def ZYI:=R [0,1,13] [M 12 0,W 13 .gtr 12 65536]
def ZYJ:=R [4,5] [I 4 (.mv (.v .nils)),K 5 5]
def ZYK:=R [4,5] [M 14 0,M 15 1,I 16 (C ZA7 [(.s 14),(.s 15)]),M 4 16,K 5 0]
def ZNy:PF:=⟨false,
 (D ZYF
 (D (D ZYG
 (E 11
 (D ZYH
 .ret)
 .skip))
 (D (D ZYI
 (E 13
 (D ZYJ
 .ret)
 .skip))
 (D ZYK
 .ret)))),
 [.s 4,.s 5]⟩
theorem ZeR:ck0 false [] ZNy Tryz.f98=some ZNy:=by kernel_rfl
def ZYL:=R [0,2] [I 2 (.box (.v ZT))]
def ZYM:=R [0,2,3] [M 4 0,I 5 (.len 1 (.s 4)),W 6 .eql 5 0,M 3 6]
def ZYN:=R [2] [I 7 (.build [(.int .u64 0),(.int .i64 0),(.int .i64 0),(.int .i64 0),(.int .i64 0),(.str []),.nils] []),N 7 2 7]
def ZYO:=R [0,2,8] [M 9 0,I 10 (.len 1 (.s 9)),W 11 .eql 10 1,M 8 11]
def ZYP:=R [2] [M 12 0,I 13 (.ixS 7 (.s 12) (V 0)),T 14 7 13,N 7 2 14]
def ZYQ:=R [2] [M 15 0,I 16 (.ixS 7 (.s 15) (V 0)),F 17 1 16,L 18 17,W 19 .add 18 1,I 20 (.w .imm (.bslice false 7 [] [])),M 21 0,I 22 (.w .app0 (.app 7 80 (.s 20) (.s 21))),I 23 (.build [(.int .u64 0),(.int .i64 0),(.int .i64 0),(.int .i64 0),(.int .i64 0),(.str []),.nils] [(1,1,(.s 19)),(6,1,(.s 22))]),N 7 2 23]
def ZNz:PF:=⟨false,
 (D ZYL
 (D (.block 0
 (D ZYM
 (E 3
 (D ZYN
 .ret)
 (D ZYO
 (E 8
 (D ZYP
 .ret)
 .skip)))))
 (D ZYQ
 .ret))),
 [.c 2 true 7]⟩
theorem ZeT:ck0 false [(5,⟨[2],[],[],[],[(7,.app0),(5,.imm)],[]⟩)] ZNz Tryz.f99=some ZNz:=by kernel_rfl
def ZYR:=R [1] [I 1 (.box (.s 0)),K 2 0]
def ZYS:=R [1,3] [F 6 2 1,F 7 0 6,L 8 7,F 9 5 1,L 10 9,I 11 (.len 0 (.s 10)),B 12 .add 8 11,M 3 12]
def ZYT:=R [3,14,15,16] [F 13 6 1,L 14 13,I 15 (.len 1 (.s 14)),K 16 0]
def ZYU:=R [3,14,15,16,17] [B 17 .lss 16 15]
def ZYV:=R [3,5,14,15,16] [I 18 (.ixS 7 (.s 14) (.s 16)),T 19 7 18,I 5 (.box (.v ZT)),N 7 5 19]
def ZYW:=R [3,14,15,16] [M 20 3,T 21 7 5,I 22 (C Qq [(.s 21)]),B 23 .add 20 22,M 3 23]
def ZYX:=R [3,14,15,16] [W 24 .add 16 1,M 16 24]
def ZYY:PC:=(D ZYU
 (D (E 17
 .skip
 (.exit 0))
 (D (.block 1
 (D ZYV
 ZYW))
 ZYX)))
def ZYZ:=R [2] [M 25 3,M 2 25]
def ZN0:PF:=⟨false,
 (D ZYR
 (D ZYS
 (D (D ZYT
 (.block 0
 (.loop ZYY)))
 (D ZYZ
 .ret)))),
 [.s 2]⟩
theorem ZeV:ck0 false [] ZN0 Tryz.f100=some ZN0:=by kernel_rfl
def ZeW:=R [1,2] [I 1 (.box (.s 0)),I 2 (.box (.v ZT))]
def ZeX:=R [1,2,9] [F 6 6 1,L 7 6,I 8 (.len 1 (.s 7)),W 9 .eql 8 0]
def ZeY:=R [1,2] [F 10 6 1,J (.st 1 (.s 10) (.v .nils))]
def ZeZ:=R [2] [T 11 7 1,N 7 2 11]
def Zea:=R [1,2,3] [F 12 6 1,L 13 12,I 14 (.len 1 (.s 13)),I 15 (.mkslice 7 80 ZT (.s 14) (.s 14)),M 3 15]
def Zeb:=R [1,2,3,17,18,19] [F 16 6 1,L 17 16,I 18 (.len 1 (.s 17)),K 19 0]
def Zec:=R [1,2,3,17,18,19,20] [B 20 .lss 19 18]
def Zed:=R [1,2,3,4,5,17,18,19] [M 21 19,I 22 (.ixS 7 (.s 17) (.s 19)),T 23 7 22,I 5 (.box (.v ZT)),M 4 21,N 7 5 23]
def Zee:=R [1,2,3,17,18,19] [M 24 3,M 25 4,T 26 7 5,I 27 (C ZCT [(.s 26)]),I 28 (.ixS 7 (.s 24) (.s 25)),N 7 28 27]
def Zef:=R [1,2,3,17,18,19] [W 29 .add 19 1,M 19 29]
def Zbc:PC:=(D Zec
 (D (E 20
 .skip
 (.exit 0))
 (D (.block 1
 (D Zed
 Zee))
 Zef)))
def Zbd:=R [1,2] [M 30 3,F 31 6 1,N 1 31 30]
def Zbe:=R [2] [T 32 7 1,N 7 2 32]
def ZYa:PF:=⟨false,
 (D ZeW
 (D (D ZeX
 (E 9
 (D ZeY
 (D ZeZ
 .ret))
 .skip))
 (D Zea
 (D (D Zeb
 (.block 0
 (.loop Zbc)))
 (D Zbd
 (D Zbe
 .ret)))))),
 [.c 2 true 7]⟩
theorem ZiY:ck0 false [] ZYa Tryz.f101=some ZYa:=by kernel_rfl
def Zeg:=R [0,2,4,6,7] [I 4 (.box (.s 1)),I 6 (.box (.v ZT)),I 7 (.box (.v ZT)),K 8 0]
def Zeh:=R [0,2,4,6,7,18] [M 17 2,W 18 .eql 17 0]
def Zei:=R [6,7,8] [I 19 (.build [(.int .u64 0),(.int .i64 0),(.int .i64 0),(.int .i64 0),(.int .i64 0),(.str []),.nils] []),I 20 (.w (.hide [(.s 6)]) (.ld true 7 (.s 4))),J (.w (.plain (.s 6)) (.st 7 (.s 6) (.s 19))),N 7 7 20,K 8 0]
def Zej:=R [0,2,4,6,7,24] [M 21 2,T 22 7 4,I 23 (C Qq [(.s 22)]),B 24 .eql 21 23]
def Zek:=R [6,7,8] [T 25 7 4,I 26 (.build [(.int .u64 0),(.int .i64 0),(.int .i64 0),(.int .i64 0),(.int .i64 0),(.str []),.nils] []),N 7 6 25,N 7 7 26,K 8 0]
def Zel:=R [0,2,4,6,7,29] [F 27 1 4,L 28 27,W 29 .eql 28 0]
def Zem:=R [2,6,7,9,10] [M 31 0,T 32 7 4,I 33 (C ZAB [(.s 31),(.s 32)]),M 30 33,X 34 30 0,X 35 30 1,M 9 34,M 10 35]
def Zen:=R [2,6,7,9,10,37] [M 36 10,W 37 .neq 36 0]
def Zeo:=R [6,7,8] [I 38 (.build [(.int .u64 0),(.int .i64 0),(.int .i64 0),(.int .i64 0),(.int .i64 0),(.str []),.nils] []),I 39 (.build [(.int .u64 0),(.int .i64 0),(.int .i64 0),(.int .i64 0),(.int .i64 0),(.str []),.nils] []),M 40 10,N 7 6 38,N 7 7 39,M 8 40]
def Zep:=R [6,7,10,11,12] [M 42 9,M 43 2,I 44 (C ZHm [(.s 42),(.s 43)]),M 41 44,X 45 41 0,X 46 41 1,X 47 41 2,M 11 45,M 12 46,M 10 47]
def Zbf:=R [6,7,8] [M 48 11,I 49 (.build [(.int .u64 0),(.int .i64 0),(.int .i64 0),(.int .i64 0),(.int .i64 0),(.str []),.nils] [(5,1,(.s 48))]),M 50 12,I 51 (.build [(.int .u64 0),(.int .i64 0),(.int .i64 0),(.int .i64 0),(.int .i64 0),(.str []),.nils] [(5,1,(.s 50))]),M 52 10,N 7 6 49,N 7 7 51,M 8 52]
def Zbg:=R [0,2,6,7,8,13] [M 54 0,T 55 7 4,I 56 (C J5 [(.s 54),(.s 55)]),M 53 56,X 57 53 0,X 58 53 1,M 13 57,M 8 58]
def Zbh:=R [0,2,6,7,8,13,60] [M 59 8,W 60 .neq 59 0]
def Zbi:=R [6,7,8] [I 61 (.build [(.int .u64 0),(.int .i64 0),(.int .i64 0),(.int .i64 0),(.int .i64 0),(.str []),.nils] []),I 62 (.build [(.int .u64 0),(.int .i64 0),(.int .i64 0),(.int .i64 0),(.int .i64 0),(.str []),.nils] []),M 63 8,N 7 6 61,N 7 7 62,M 8 63]
def Zbj:=R [0,2,6,7,13,14] [K 14 0]
def Zbk:=R [0,2,6,7,13,14,77] [M 64 14,W 65 .add 64 1,M 66 13,I 67 (.len 1 (.s 66)),B 68 .lss 65 67,M 69 68,U 70 69 true 2,U 71 69 true 13,U 72 69 true 14,G 73 69 true (.ixS 7 (.s 71) (.s 72)),G 74 69 true (.ld true 7 (.s 73)),G 75 69 true (C Qq [(.s 74)]),G 76 69 true (.bin .geq (.s 70) (.s 75)),I 77 (.pick (.s 69) (.s 76) (.v (.bool false)))]
def Zbl:=R [0,2,6,7,13,14] [M 78 2,M 79 13,M 80 14,I 81 (.ixS 7 (.s 79) (.s 80)),T 82 7 81,I 83 (C Qq [(.s 82)]),B 84 .sub 78 83,M 2 84]
def Zbm:=R [0,2,6,7,13,14] [M 85 14,W 86 .add 85 1,M 14 86]
def ZJ9:PC:=(D (D Zbk
 (E 77
 .skip
 (.exit 0)))
 (.block 1
 (D Zbl
 Zbm)))
def Zbn:=R [0,2,6,7,13,14,88] [M 87 2,W 88 .eql 87 0]
def Zbo:=R [6,7,8] [M 89 13,M 90 14,I 91 (.slc 7 (.s 89) none (some (.s 90))),I 92 (.call .pure (.v (.func (.func QP) [] [])) [(.s 91)]),M 93 13,M 94 14,I 95 (.slc 7 (.s 93) (some (.s 94)) none),I 96 (C QP [(.s 95)]),N 7 6 92,N 7 7 96,K 8 0]
def Zbp:=R [0,6,7,8,13,14,15,16] [M 98 0,M 99 13,M 100 14,I 101 (.ixS 7 (.s 99) (.s 100)),T 102 7 101,M 103 2,I 104 (C ZAs [(.s 98),(.s 102),(.s 103)]),M 97 104,X 105 97 0,X 106 97 1,X 107 97 2,I 15 (.box (.v ZT)),I 16 (.box (.v ZT)),N 7 15 105,N 7 16 106,M 8 107]
def Zbq:=R [0,6,7,8,13,14,15,16,109] [M 108 8,W 109 .neq 108 0]
def Zbr:=R [6,7,8] [I 110 (.build [(.int .u64 0),(.int .i64 0),(.int .i64 0),(.int .i64 0),(.int .i64 0),(.str []),.nils] []),I 111 (.build [(.int .u64 0),(.int .i64 0),(.int .i64 0),(.int .i64 0),(.int .i64 0),(.str []),.nils] []),M 112 8,N 7 6 110,N 7 7 111,M 8 112]
def Zbs:=R [0,6,7,8,13,14,16] [M 114 0,M 115 13,M 116 14,I 117 (.slc 7 (.s 115) none (some (.s 116))),I 118 (.call .pure (.v (.func (.func QP) [] [])) [(.s 117)]),T 119 7 15,I 120 (C Yr [(.s 114),(.s 118),(.s 119)]),M 113 120,X 121 113 0,X 122 113 1,N 7 6 121,M 8 122]
def Zbt:=R [0,6,7,8,13,14,16,124] [M 123 8,W 124 .neq 123 0]
def Zbu:=R [6,7,8] [I 125 (.build [(.int .u64 0),(.int .i64 0),(.int .i64 0),(.int .i64 0),(.int .i64 0),(.str []),.nils] []),I 126 (.build [(.int .u64 0),(.int .i64 0),(.int .i64 0),(.int .i64 0),(.int .i64 0),(.str []),.nils] []),M 127 8,N 7 6 125,N 7 7 126,M 8 127]
def Zbv:=R [6,7,8] [M 129 0,T 130 7 16,M 131 13,M 132 14,W 133 .add 132 1,I 134 (.slc 7 (.s 131) (some (.s 133)) none),I 135 (.call .pure (.v (.func (.func QP) [] [])) [(.s 134)]),I 136 (C Yr [(.s 129),(.s 130),(.s 135)]),M 128 136,X 137 128 0,X 138 128 1,N 7 7 137,M 8 138]
def Zbw:=R [6,7,8,140] [M 139 8,W 140 .neq 139 0]
def Zbx:=R [6,7,8] [I 141 (.build [(.int .u64 0),(.int .i64 0),(.int .i64 0),(.int .i64 0),(.int .i64 0),(.str []),.nils] []),I 142 (.build [(.int .u64 0),(.int .i64 0),(.int .i64 0),(.int .i64 0),(.int .i64 0),(.str []),.nils] []),M 143 8,N 7 6 141,N 7 7 142,M 8 143]
def Zby:=R [6,7,8] [T 144 7 6,I 145 (.w (.hide [(.s 6)]) (.ld true 7 (.s 7))),J (.w (.plain (.s 6)) (.st 7 (.s 6) (.s 144))),N 7 7 145,K 8 0]
def ZYb:PF:=⟨false,
 (D Zeg
 (D (D Zeh
 (E 18
 (D Zei
 .ret)
 .skip))
 (D (D Zej
 (E 24
 (D Zek
 .ret)
 .skip))
 (D (D Zel
 (E 29
 (D Zem
 (D (D Zen
 (E 37
 (D Zeo
 .ret)
 .skip))
 (D Zep
 (D Zbf
 .ret))))
 .skip))
 (D Zbg
 (D (D Zbh
 (E 60
 (D Zbi
 .ret)
 .skip))
 (D Zbj
 (D (.block 0
 (.loop ZJ9))
 (D (D Zbn
 (E 88
 (D Zbo
 .ret)
 .skip))
 (D Zbp
 (D (D Zbq
 (E 109
 (D Zbr
 .ret)
 .skip))
 (D (D Zbs
 (D Zbt
 (E 124
 (D Zbu
 .ret)
 .skip)))
 (D (D Zbv
 (D Zbw
 (E 140
 (D Zbx
 .ret)
 .skip)))
 (D Zby
 .ret)))))))))))))),
 [.c 6 true 7,.c 7 true 7,.s 8]⟩
theorem Zia:ck0 false [(2,⟨[6,7,8],[],[],[],[(1,(.hide [(.s 6)])),(2,(.plain (.s 6)))],[]⟩),(19,⟨[6,7,8],[],[(3,.pure)],[],[],[]⟩),(23,⟨[0,6,7,8,13,14,16],[],[(4,.pure)],[],[],[]⟩),(26,⟨[6,7,8],[],[(6,.pure)],[],[],[]⟩),(29,⟨[6,7,8],[],[],[],[(1,(.hide [(.s 6)])),(2,(.plain (.s 6)))],[]⟩)] ZYb Tryz.f102=some ZYb:=by kernel_rfl
def ZT0:=R [0,4,5,6] [I 4 (.box (.s 1)),I 5 (.box (.s 2)),I 6 (.box (.v ZT)),K 7 0]
def ZT1:=R [0,4,5,6,12] [T 10 7 4,I 11 (C Ql [(.s 10)]),W 12 .eql 11 1]
def ZT2:=R [6,7] [T 13 7 5,N 7 6 13,K 7 0]
def ZT3:=R [0,4,5,6,16] [T 14 7 5,I 15 (C Ql [(.s 14)]),W 16 .eql 15 1]
def ZT4:=R [6,7] [T 17 7 4,N 7 6 17,K 7 0]
def ZT5:=R [6,8,9] [M 19 0,T 20 7 4,T 21 7 5,I 22 (C ZAP [(.s 19),(.s 20),(.s 21)]),M 18 22,X 23 18 0,X 24 18 1,M 8 23,M 9 24]
def ZT6:=R [6,8,9,26] [M 25 9,W 26 .neq 25 0]
def ZT7:=R [6,7] [I 27 (.build [(.int .u64 0),(.int .i64 0),(.int .i64 0),(.int .i64 0),(.int .i64 0),(.str []),.nils] []),M 28 9,N 7 6 27,M 7 28]
def ZT8:=R [6,7] [M 29 8,I 30 (C QP [(.s 29)]),N 7 6 30,K 7 0]
def ZKA:PF:=⟨false,
 (D ZT0
 (D (D ZT1
 (E 12
 (D ZT2
 .ret)
 .skip))
 (D (D ZT3
 (E 16
 (D ZT4
 .ret)
 .skip))
 (D ZT5
 (D (D ZT6
 (E 26
 (D ZT7
 .ret)
 .skip))
 (D ZT8
 .ret)))))),
 [.c 6 true 7,.s 7]⟩
theorem Zb0:ck0 false [] ZKA Tryz.f103=some ZKA:=by kernel_rfl
def ZYc:=R [0,2,3,5] [I 5 (.box (.s 1)),K 8 0]
def ZYd:=R [0,2,3,5,9] [T 14 7 5,I 15 (C Ql [(.s 14)]),M 9 15]
def ZYe:=R [0,2,5,9,30] [M 16 9,W 17 .eql 16 0,M 18 17,U 19 18 false 9,G 20 18 false (.bin .eql (.s 19) (V 1)),I 21 (.pick (.s 18) (.v (.bool true)) (.s 20)),M 22 21,U 23 22 false 2,U 24 22 false 23,G 25 24 true (.fadr 1 (.s 5)),G 26 24 true (.ld false 1 (.s 25)),U 27 24 true 3,G 28 24 true (.bin .neq (.s 26) (.s 27)),G 29 22 false (.pick (.s 24) (.s 28) (.v (.bool false))),I 30 (.pick (.s 22) (.v (.bool true)) (.s 29))]
def ZYf:=R [8] [K 8 23]
def ZYg:=R [0,2,5,32] [M 31 9,W 32 .eql 31 2]
def ZYh:=R [0,2,5,10] [M 33 0,F 34 0 5,L 35 34,F 36 1 5,L 37 36,F 38 2 5,T 39 3 38,I 40 (C ZDu [(.s 33),(.s 35),(.s 37),(.s 39)]),M 10 40]
def ZYi:=R [0,2,5,10,42] [M 41 10,W 42 .neq 41 0]
def ZYj:=R [8] [M 43 10,M 8 43]
def ZYk:=R [0,5,54] [M 44 2,M 45 44,G 46 45 true (.fadr 1 (.s 5)),G 47 45 true (.ld false 1 (.s 46)),G 48 45 true (.bin .eql (.s 47) (V 0)),I 49 (.pick (.s 45) (.s 48) (.v (.bool false))),M 50 49,G 51 50 true (.ld true 7 (.s 5)),G 52 50 true (C Qq [(.s 51)]),G 53 50 true (.bin .lss (.s 52) (V 8)),I 54 (.pick (.s 50) (.s 53) (.v (.bool false)))]
def ZYl:=R [8] [K 8 23]
def ZT9:=R [0,5,56,57,58] [F 55 6 5,L 56 55,I 57 (.len 1 (.s 56)),K 58 0]
def ZUA:=R [0,5,56,57,58,59] [B 59 .lss 58 57]
def ZUB:=R [0,5,12,56,57,58] [I 60 (.ixS 7 (.s 56) (.s 58)),T 61 7 60,I 12 (.box (.v ZT)),N 7 12 61]
def ZUC:=R [0,5,13,56,57,58] [M 62 0,T 63 7 12,F 64 1 5,L 65 64,W 66 .sub 65 1,I 67 (C ZBn [(.s 62),(.s 63),(.v (.bool true)),(.s 66)]),M 13 67]
def ZUD:=R [0,5,13,56,57,58,69] [M 68 13,W 69 .neq 68 0]
def ZUE:=R [8] [M 70 13,M 8 70]
def ZUF:=R [0,5,56,57,58] [W 71 .add 58 1,M 58 71]
def ZGS:PC:=(D ZUA
 (D (E 59
 .skip
 (.exit 0))
 (D (.block 1
 (D ZUB
 (D ZUC
 (D ZUD
 (E 69
 (D ZUE
 .ret)
 .skip)))))
 ZUF)))
def ZUG:=R [8] [K 8 0]
def ZN1:PF:=⟨false,
 (D ZYc
 (D ZYd
 (D (D ZYe
 (E 30
 (D ZYf
 .ret)
 .skip))
 (D (D ZYg
 (E 32
 (D ZYh
 (D ZYi
 (E 42
 (D ZYj
 .ret)
 .skip)))
 .skip))
 (D (D ZYk
 (E 54
 (D ZYl
 .ret)
 .skip))
 (D (D ZT9
 (.block 0
 (.loop ZGS)))
 (D ZUG
 .ret))))))),
 [.s 8]⟩
theorem Zer:ck0 false [] ZN1 Tryz.f104=some ZN1:=by kernel_rfl
def Zes:=R [1] [I 1 (.box (.s 0)),K 2 0]
def Zet:=R [1,3] [K 3 0]
def Zeu:=R [1,3,4] [T 7 7 1,I 8 (C Ql [(.s 7)]),M 4 8]
def Zev:=R [1,3,14] [M 9 4,W 10 .eql 9 3,M 11 10,U 12 11 false 4,G 13 11 false (.bin .eql (.s 12) (V 4)),I 14 (.pick (.s 11) (.v (.bool true)) (.s 13))]
def Zew:=R [1,3] [K 3 1]
def Zex:=R [3,16,17,18] [F 15 6 1,L 16 15,I 17 (.len 1 (.s 16)),K 18 0]
def Zey:=R [3,16,17,18,19] [B 19 .lss 18 17]
def Zez:=R [3,6,16,17,18] [I 20 (.ixS 7 (.s 16) (.s 18)),T 21 7 20,I 6 (.box (.v ZT)),N 7 6 21]
def Ze0:=R [3,16,17,18] [M 22 3,T 23 7 6,I 24 (C ZAt [(.s 23)]),B 25 .add 22 24,M 3 25]
def Ze1:=R [3,16,17,18] [W 26 .add 18 1,M 18 26]
def Zb1:PC:=(D Zey
 (D (E 19
 .skip
 (.exit 0))
 (D (.block 1
 (D Zez
 Ze0))
 Ze1)))
def Zb2:=R [2] [M 27 3,M 2 27]
def ZYm:PF:=⟨false,
 (D Zes
 (D Zet
 (D (D Zeu
 (D Zev
 (E 14
 Zew
 .skip)))
 (D (D Zex
 (.block 0
 (.loop Zb1)))
 (D Zb2
 .ret))))),
 [.s 2]⟩
theorem Zic:ck0 false [] ZYm Tryz.f105=some ZYm:=by kernel_rfl
def ZQ7:=R [0,3] [I 3 (.box (.s 1)),I 4 (.mv (.v .nilptr))]
def ZQ8:=R [0,3,5] [F 11 1 3,L 12 11,F 13 2 3,T 14 3 13,F 15 0 3,L 16 15,I 17 (.build [(.int .u64 0),(.int .i64 0),(.int .i64 0),(.int .i64 0),(.int .i64 0)] [(1,1,(.s 12)),(2,3,(.s 14)),(0,1,(.s 16))]),I 18 (.box (.s 17)),M 5 18]
def ZQ9:=R [0,3,5,80] [F 81 0 3,L 82 81,I 83 (.bin .neq (.s 82) (.v (.int .u64 0))),M 84 83,G 85 84 false (.fadr 5 (.s 3)),G 86 84 false (.ld false 1 (.s 85)),G 87 84 false (.bin .eql (.s 86) (.v (.str []))),U 88 84 false 87,G 89 88 true (.fadr 6 (.s 3)),G 90 88 true (.ld false 1 (.s 89)),G 91 88 true (.len 1 (.s 90)),G 92 88 true (.bin .eql (.s 91) (V 0)),G 93 84 false (.pick (.s 88) (.s 92) (.v (.bool false))),I 94 (.pick (.s 84) (.v (.bool true)) (.s 93)),M 80 94]
def ZRA:=R [0,3,5,95] [F 96 1 3,L 97 96,W 98 .eql 97 0,M 95 98]
def ZRB:=R [0,5,6] [F 99 5 3,L 100 99,I 101 (.build [(.int .i64 0),(.str []),.nils] [(1,1,(.s 100))]),I 6 (.box (.v ZN)),N 3 6 101]
def ZRC:=R [0,5,6] [M 103 5,T 104 3 6,I 105 (C XC [(.s 104)]),M 102 105,X 106 102 0,X 107 102 1,I 108 (.nilck (.s 103)),F 109 2 108,N 3 109 106]
def ZRD:=R [5] [M 110 0,M 111 5,I 112 (.mkf (.func Js) [] [(.s 6)]),I 113 (C ZAQ [(.s 110),(.s 111),(.s 112)])]
def ZRE:=R [0,3,5,7] [I 7 (.boxnil 1)]
def ZRF:=R [0,3,5,7,20,21,22] [F 19 6 3,L 20 19,I 21 (.len 1 (.s 20)),K 22 0]
def ZRG:=R [0,3,5,7,20,21,22,23] [B 23 .lss 22 21]
def ZN2:=R [0,3,5,7,9,20,21,22] [I 24 (.ixS 7 (.s 20) (.s 22)),T 25 7 24,I 9 (.box (.v ZT)),N 7 9 25]
def ZN3:=R [0,3,5,7,10,20,21,22] [M 26 0,T 27 7 9,I 28 (C Qo [(.s 26),(.s 27)]),M 10 28]
def ZN4:=R [0,3,5,7,10,20,21,22] [L 29 7,M 30 10,I 31 (.bslice true 1 [.nilptr] [(0,(.s 30))]),I 32 (.app 1 8 (.s 29) (.s 31)),N 1 7 32]
def ZDz:=R [0,3,5,7,10,20,21,22] [M 33 5,I 34 (.nilck (.s 33)),F 35 2 34,F 36 0 35,L 37 36,M 38 10,I 39 (.nilck (.s 38)),F 40 2 39,F 41 0 40,L 42 41,B 43 .add 37 42,I 44 (.nilck (.s 33)),F 45 2 44,F 46 0 45,N 1 46 43]
def ZD0:=R [0,3,5,7,10,20,21,22] [M 47 5,I 48 (.nilck (.s 47)),F 49 2 48,F 50 1 49,L 51 50,M 52 10,I 53 (.nilck (.s 52)),F 54 2 53,F 55 1 54,L 56 55,B 57 .add 51 56,I 58 (.nilck (.s 47)),F 59 2 58,F 60 1 59,N 1 60 57]
def ZD1:=R [0,3,5,7,20,21,22] [M 61 5,I 62 (.nilck (.s 61)),F 63 2 62,F 64 2 63,L 65 64,M 66 10,I 67 (.nilck (.s 66)),F 68 2 67,F 69 2 68,L 70 69,B 71 .add 65 70,I 72 (.nilck (.s 61)),F 73 2 72,F 74 2 73,N 1 74 71]
def ZN5:=R [0,3,5,7,20,21,22] [W 75 .add 22 1,M 22 75]
def ZN6:PC:=(D ZRG
 (D (E 23
 .skip
 (.exit 1))
 (D (.block 2
 (D ZN2
 (D ZN3
 (D ZN4
 (D ZDz
 (D ZD0
 ZD1))))))
 ZN5)))
def ZN7:=R [5] [M 76 0,M 77 5,I 78 (.mkf (.func JP) [] [(.s 3),(.s 7)]),I 79 (C ZAQ [(.s 76),(.s 77),(.s 78)])]
def ZN8:=R [4] [M 114 5,M 4 114]
def ZIe:PF:=⟨true,
 (D ZQ7
 (D ZQ8
 (D (.block 0
 (D ZQ9
 (E 80
 .skip
 (D ZRA
 (E 95
 (D ZRB
 (D ZRC
 ZRD))
 (D ZRE
 (D (D ZRF
 (.block 1
 (.loop ZN6)))
 ZN7)))))))
 (D ZN8
 .ret)))),
 [.s 4]⟩
theorem ZYo:ck0 true [(7,⟨[0,3,5,7],[0],[],[],[],[]⟩),(12,⟨[0,3,5,7,10,20,21,22],[2],[],[],[],[]⟩)] ZIe Tryz.f106=some ZIe:=by kernel_rfl
def ZRH:=R [1,2] [I 1 (.box (.s 0)),I 2 (.box (.v ZM)),K 3 0]
def ZRI:=R [1,2,4] [T 5 3 1,I 6 (C ZBo [(.s 5)]),M 4 6]
def ZRJ:=R [1,2,4,8] [M 7 4,W 8 .neq 7 0]
def ZRK:=R [2,3] [I 9 (.build [(.int .i64 0),(.int .i64 0),(.int .i64 0)] []),M 10 4,N 3 2 9,M 3 10]
def ZRL:=R [2,3] [T 11 3 1,I 12 (C ZCW [(.s 11)]),N 3 2 12,K 3 0]
def ZIf:PF:=⟨false,
 (D ZRH
 (D (D ZRI
 (D ZRJ
 (E 8
 (D ZRK
 .ret)
 .skip)))
 (D ZRL
 .ret))),
 [.c 2 true 3,.s 3]⟩
theorem ZYq:ck0 false [] ZIf Tryz.f113=some ZIf:=by kernel_rfl
def ZUH:=R [1,2,3,4] [I 4 (.box (.s 0))]
def ZUI:=R [1,2,3,4,16] [F 7 0 4,L 8 7,I 9 (.bin .neq (.s 8) (.v (.int .u64 0))),M 10 9,G 11 10 true (.ld false 1 (.s 1)),G 12 10 true (.fadr 0 (.s 4)),G 13 10 true (.ld false 1 (.s 12)),G 14 10 true (.look 0 (.bool false) false (.s 11) (.s 13)),G 15 10 true (.un .not (.s 14)),I 16 (.pick (.s 10) (.s 15) (.v (.bool false)))]
def ZUJ:=R [2,3,4] [L 17 1,F 18 0 4,L 19 18,J (.mupd 0 (.s 17) (.s 19) (.v (.bool true)))]
def ZUK:=R [3,4] [L 20 2,F 21 0 4,L 22 21,I 23 (.bslice false 1 [(.int .u64 0)] [(0,(.s 22))]),I 24 (.app 1 8 (.s 20) (.s 23)),N 1 2 24]
def ZGT:=R [3,26,27,28] [F 25 6 4,L 26 25,I 27 (.len 1 (.s 26)),K 28 0]
def ZUL:=R [3,26,27,28,29] [B 29 .lss 28 27]
def ZUM:=R [3,6,26,27,28] [I 30 (.ixS 7 (.s 26) (.s 28)),T 31 7 30,I 6 (.box (.v ZT)),N 7 6 31]
def ZUN:=R [3,26,27,28] [L 32 3,T 33 7 6,I 34 (.call .norm (.s 32) [(.s 33)])]
def ZUO:=R [3,26,27,28] [W 35 .add 28 1,M 28 35]
def ZBX:PC:=(D ZUL
 (D (E 29
 .skip
 (.exit 0))
 (D (.block 1
 (D ZUM
 ZUN))
 ZUO)))
def ZKB:PF:=⟨false,
 (D ZUH
 (D (D ZUI
 (E 16
 (D ZUJ
 ZUK)
 .skip))
 (D ZGT
 (.block 0
 (.loop ZBX))))),
 []⟩
theorem Zb4:ck0 false [] ZKB Tryz.f115=some ZKB:=by kernel_rfl
def ZUP:=R [1,2] [I 2 (.box (.s 0)),I 4 (.mv (.v .nils))]
def ZUQ:=R [1,2,10] [L 9 2,W 10 .eql 9 0]
def ZUR:=R [4] [I 4 (.mv (.v .nils))]
def ZUS:=R [1,2,5] [L 11 2,M 12 1,B 13 .quo 11 12,I 5 (.box (V 0)),N 1 5 13]
def ZUT:=R [2,5,17] [L 14 2,M 15 1,B 16 .rem 14 15,W 17 .gtr 16 0]
def ZUU:=R [2,5] [L 18 5,W 19 .add 18 1,N 1 5 19]
def ZUV:=R [5,6] [I 20 (.mkf (.func J6) [] [(.s 2),(.s 5)]),M 6 20]
def ZUW:=R [5,6,7] [L 21 5,I 22 (.mkslice 1 8 (.int .i64 0) (.s 21) (.s 21)),M 7 22]
def ZUX:=R [6,7,23,24] [L 23 5,K 24 0]
def ZUY:=R [6,7,23,24,25] [B 25 .lss 24 23]
def ZRM:=R [6,7,8,23,24] [M 26 24,M 8 26]
def ZRN:=R [6,7,23,24] [M 27 7,M 28 8,M 29 6,M 30 8,I 31 (.call .norm (.s 29) [(.s 30)]),I 32 (.ixS 1 (.s 27) (.s 28)),N 1 32 31]
def ZRO:=R [6,7,23,24] [W 33 .add 24 1,M 24 33]
def ZEs:PC:=(D ZUY
 (D (E 25
 .skip
 (.exit 0))
 (D (.block 1
 (D ZRM
 ZRN))
 ZRO)))
def ZRP:=R [4] [M 34 7,M 4 34]
def ZKC:PF:=⟨false,
 (D ZUP
 (D (D ZUQ
 (E 10
 (D ZUR
 .ret)
 .skip))
 (D ZUS
 (D (D ZUT
 (E 17
 ZUU
 .skip))
 (D ZUV
 (D ZUW
 (D (D ZUX
 (.block 0
 (.loop ZEs)))
 (D ZRP
 .ret)))))))),
 [.s 4]⟩
theorem Zb6:ck0 false [] ZKC Tryz.f116=some ZKC:=by kernel_rfl
def Zb7:=R [0,1] [I 4 (.mv (.v (.str []))),I 5 (.mv (.v (.str []))),K 6 0]
def Zb8:=R [0,1,9] [M 7 0,I 8 (C ZAR [(.s 7)]),I 9 (.un .not (.s 8))]
def Zb9:=R [4,5,6] [I 4 (.mv (.v (.str []))),I 5 (.mv (.v (.str []))),K 6 2]
def ZcA:=R [0,1,17] [M 10 1,W 11 .lss 10 0,M 12 11,U 13 12 false 1,U 14 12 false 0,G 15 12 false (.len 0 (.s 14)),G 16 12 false (.bin .gtr (.s 13) (.s 15)),I 17 (.pick (.s 12) (.v (.bool true)) (.s 16))]
def ZcB:=R [4,5,6] [I 4 (.mv (.v (.str []))),I 5 (.mv (.v (.str []))),K 6 3]
def ZcC:=R [4,5,6] [M 18 0,M 19 1,I 20 (.slcS (.s 18) none (some (.s 19))),M 21 0,M 22 1,I 23 (.slcS (.s 21) (some (.s 22)) none),M 4 20,M 5 23,K 6 0]
def ZSd:PF:=⟨false,
 (D Zb7
 (D (D Zb8
 (E 9
 (D Zb9
 .ret)
 .skip))
 (D (D ZcA
 (E 17
 (D ZcB
 .ret)
 .skip))
 (D ZcC
 .ret)))),
 [.s 4,.s 5,.s 6]⟩
theorem Zgu:ck0 false [] ZSd Tryz.f117=some ZSd:=by kernel_rfl
def ZYr:=R [0,4,5] [I 4 (.box (.s 1)),I 5 (.box (.s 2)),I 6 (.mv (.v .nils)),K 7 0]
def ZYs:=R [0,4,5,22] [F 15 1 4,L 16 15,W 17 .eql 16 0,M 18 17,G 19 18 true (.fadr 1 (.s 5)),G 20 18 true (.ld false 1 (.s 19)),G 21 18 true (.bin .eql (.s 20) (V 0)),I 22 (.pick (.s 18) (.s 21) (.v (.bool false)))]
def ZYt:=R [6,7] [M 23 0,T 24 7 4,T 25 7 5,I 26 (C ZED [(.s 23),(.s 24),(.s 25)]),X 27 26 0,X 28 26 1,M 6 27,M 7 28]
def ZYu:=R [0,4,5,8,9] [I 8 (.mv (.v .nils)),I 9 (.mv (.v .nils))]
def ZYv:=R [0,4,5,8,9] [K 10 0]
def ZYw:=R [0,4,5,8,9,33] [F 29 1 4,L 30 29,F 31 1 5,L 32 31,B 33 .geq 30 32]
def ZYx:=R [0,4,5,8,9,10] [M 35 0,T 36 7 4,I 37 (C J5 [(.s 35),(.s 36)]),M 34 37,X 38 34 0,X 39 34 1,M 8 38,M 10 39]
def ZYy:=R [0,4,5,8,9,10,41] [M 40 10,W 41 .neq 40 0]
def ZYz:=R [6,7] [M 42 10,I 6 (.mv (.v .nils)),M 7 42]
def ZY0:=R [0,4,5,8,9,47] [F 43 1 5,L 44 43,F 45 1 4,L 46 45,B 47 .geq 44 46]
def ZUZ:=R [0,4,5,8,9,10] [M 49 0,T 50 7 5,I 51 (C J5 [(.s 49),(.s 50)]),M 48 51,X 52 48 0,X 53 48 1,M 9 52,M 10 53]
def ZUa:=R [0,4,5,8,9,10,55] [M 54 10,W 55 .neq 54 0]
def ZUb:=R [6,7] [M 56 10,I 6 (.mv (.v .nils)),M 7 56]
def ZUc:=R [0,4,5,8,9,57] [F 58 1 4,L 59 58,F 60 1 5,L 61 60,B 62 .eql 59 61,M 63 62,U 64 63 true 8,G 65 63 true (.len 1 (.s 64)),U 66 63 true 9,G 67 63 true (.len 1 (.s 66)),G 68 63 true (.bin .add (.s 65) (.s 67)),G 69 63 true (.bin .leq (.s 68) (V 4)),I 70 (.pick (.s 63) (.s 69) (.v (.bool false))),M 57 70]
def ZUd:=R [6,7] [I 71 (.bslice false 7 [] []),M 72 8,I 73 (.app 7 80 (.s 71) (.s 72)),M 74 9,I 75 (.app 7 80 (.s 73) (.s 74)),I 76 (C QP [(.s 75)]),I 77 (.bslice false 7 [ZT] [(0,(.s 76))]),M 6 77,K 7 0]
def ZUe:=R [0,4,5,8,9,78] [F 79 1 4,L 80 79,F 81 1 5,L 82 81,B 83 .eql 80 82,M 78 83]
def ZUf:=R [6,7] [T 84 7 4,T 85 7 5,I 86 (.bslice false 7 [ZT,ZT] [(0,(.s 84)),(1,(.s 85))]),M 6 86,K 7 0]
def ZUg:=R [0,4,5,8,9,87] [F 88 1 4,L 89 88,F 90 1 5,L 91 90,B 92 .gtr 89 91,M 87 92]
def ZUh:=R [0,5,8,11] [M 93 8,I 94 (.len 1 (.s 93)),W 95 .sub 94 1,M 11 95]
def ZUi:=R [8,11,12,13] [M 97 0,M 98 8,M 99 11,I 100 (.ixS 7 (.s 98) (.s 99)),T 101 7 100,T 102 7 5,I 103 (C ZAP [(.s 97),(.s 101),(.s 102)]),M 96 103,X 104 96 0,X 105 96 1,M 12 104,M 13 105]
def ZUj:=R [8,11,12,13,107] [M 106 13,W 107 .neq 106 0]
def ZUk:=R [6,7] [M 108 13,I 6 (.mv (.v .nils)),M 7 108]
def ZUl:=R [6,7] [I 109 (.bslice false 7 [] []),M 110 8,M 111 11,I 112 (.slc 7 (.s 110) none (some (.s 111))),I 113 (.app 7 80 (.s 109) (.s 112)),M 114 12,I 115 (.app 7 80 (.s 113) (.s 114)),I 116 (C ZDw [(.s 115)]),M 6 116,K 7 0]
def ZUm:=R [9,10,14] [M 118 0,T 119 7 4,M 120 9,I 121 (.ixS 7 (.s 120) (V 0)),T 122 7 121,I 123 (C ZAP [(.s 118),(.s 119),(.s 122)]),M 117 123,X 124 117 0,X 125 117 1,M 14 124,M 10 125]
def ZUn:=R [9,10,14,127] [M 126 10,W 127 .neq 126 0]
def ZUo:=R [6,7] [M 128 10,I 6 (.mv (.v .nils)),M 7 128]
def ZUp:=R [6,7] [I 129 (.w .imm (.bslice false 7 [] [])),M 130 14,I 131 (.w .app0 (.app 7 80 (.s 129) (.s 130))),M 132 9,I 133 (.w .blind (.slc 7 (.s 132) (some (V 1)) none)),I 134 (.app 7 80 (.s 131) (.s 133)),I 135 (C ZDw [(.s 134)]),M 6 135,K 7 0]
def ZN9:PF:=⟨false,
 (D ZYr
 (D (D ZYs
 (E 22
 (D ZYt
 .ret)
 .skip))
 (D ZYu
 (D ZYv
 (D (D ZYw
 (E 33
 (D ZYx
 (D ZYy
 (E 41
 (D ZYz
 .ret)
 .skip)))
 .skip))
 (D (D ZY0
 (E 47
 (D ZUZ
 (D ZUa
 (E 55
 (D ZUb
 .ret)
 .skip)))
 .skip))
 (D (.block 0
 (D ZUc
 (E 57
 (D ZUd
 .ret)
 (D ZUe
 (E 78
 (D ZUf
 .ret)
 (D ZUg
 (E 87
 (D ZUh
 (D ZUi
 (D (D ZUj
 (E 107
 (D ZUk
 .ret)
 .skip))
 (D ZUl
 .ret))))
 .skip)))))))
 (D ZUm
 (D (D ZUn
 (E 127
 (D ZUo
 .ret)
 .skip))
 (D ZUp
 .ret)))))))))),
 [.s 6,.s 7]⟩
theorem Ze3:ck0 false [(26,⟨[6,7],[],[],[],[(4,.blind),(2,.app0),(0,.imm)],[]⟩)] ZN9 Tryz.f118=some ZN9:=by kernel_rfl
def ZRQ:=R [3,4,5] [I 3 (.box (.s 0)),I 4 (.box (.s 1)),I 5 (.box (.s 2))]
def ZRR:=R [] [I 6 (.w (.only (.s 3)) (.ld false 1 (.s 3))),L 7 3,I 8 (.nilck (.s 7)),F 9 1 8,L 10 9,I 11 (.mkf (.func XO) [] [(.s 3),(.s 5),(.s 4)]),I 12 (.bslice true 1 [.nilfunc] [(0,(.s 11))]),I 13 (.w (.grow (.s 3)) (.app 1 8 (.s 10) (.s 12))),I 14 (.nilck (.s 6)),F 15 1 14,N 1 15 13]
def ZIg:PF:=⟨true,
 (D ZRQ
 ZRR),
 []⟩
theorem ZY2:ck0 true [(1,⟨[],[6],[],[],[(0,(.only (.s 3))),(7,(.grow (.s 3)))],[]⟩)] ZIg Tryz.f119=some ZIg:=by kernel_rfl
def ZLF:=R [0,1] [I 1 (.box (.v ZN))]
def ZLG:=R [1] [T 2 3 0,N 3 1 2]
def ZEt:PF:=⟨false,
 (D ZLF
 (D ZLG
 .ret)),
 [.c 1 true 3]⟩
theorem ZRT:ck0 false [] ZEt Tryz.f120=some ZEt:=by kernel_rfl
def ZLH:=R [0,1,2] [I 2 (.box (.v ZN))]
def ZLI:=R [1,2,3] [F 6 1 0,L 7 6,I 8 (.build [(.int .i64 0),(.str []),.nils] [(0,1,(.s 7))]),I 3 (.box (.v ZN)),N 3 3 8]
def ZLJ:=R [2,3,9,10,11] [L 9 1,I 10 (.len 1 (.s 9)),K 11 0]
def ZLK:=R [2,3,9,10,11,12] [B 12 .lss 11 10]
def ZLL:=R [2,3,5,9,10,11] [I 13 (.ixS 1 (.s 9) (.s 11)),L 14 13,M 5 14]
def ZLM:=R [2,3,9,10,11] [F 15 2 3,L 16 15,M 17 5,I 18 (.nilck (.s 17)),F 19 0 18,L 20 19,M 21 5,I 22 (.nilck (.s 21)),F 23 2 22,T 24 3 23,I 25 (.build [(.int .u64 0),(.int .i64 0),(.int .i64 0),(.int .i64 0)] [(0,1,(.s 20)),(1,3,(.s 24))]),I 26 (.w .imm (.bslice false 4 [ZK] [(0,(.s 25))])),I 27 (.app 4 32 (.s 16) (.s 26)),F 28 2 3,N 1 28 27]
def ZLN:=R [2,3,9,10,11] [W 29 .add 11 1,M 11 29]
def ZLO:PC:=(D ZLK
 (D (E 12
 .skip
 (.exit 0))
 (D (.block 1
 (D ZLL
 ZLM))
 ZLN)))
def ZLP:=R [2] [T 30 3 3,N 3 2 30]
def ZEu:PF:=⟨false,
 (D ZLH
 (D ZLI
 (D (D ZLJ
 (.block 0
 (.loop ZLO)))
 (D ZLP
 .ret)))),
 [.c 2 true 3]⟩
theorem ZRV:ck0 false [(5,⟨[2,3,9,10,11],[],[],[],[(11,.imm)],[]⟩)] ZEu Tryz.f121=some ZEu:=by kernel_rfl
def ZRW:=R [0] [K 2 0]
def ZRX:=R [3,4] [M 6 0,I 7 (C ZCV [(.s 6)]),M 5 7,X 8 5 0,X 9 5 1,M 3 8,M 4 9]
def ZRY:=R [19] [M 10 3,W 11 .geq 10 16384,M 12 11,U 13 12 false 4,G 14 12 false (.bin .lss (.s 13) (.v (.int .u64 1))),I 15 (.pick (.s 12) (.v (.bool true)) (.s 14)),M 16 15,U 17 16 false 4,G 18 16 false (.bin .gtr (.s 17) (.v (.int .u64 4294967295))),I 19 (.pick (.s 16) (.v (.bool true)) (.s 18))]
def ZRZ:=R [2] [K 2 2]
def ZRa:=R [2] [K 2 0]
def ZIh:PF:=⟨false,
 (D ZRW
 (D (D ZRX
 (D ZRY
 (E 19
 (D ZRZ
 .ret)
 .skip)))
 (D ZRa
 .ret))),
 [.s 2]⟩
theorem ZY4:ck0 false [] ZIh Tryz.f132=some ZIh:=by kernel_rfl
def ZRb:=R [0] [K 2 0,I 3 (.mv (.v (.int .u64 0)))]
def ZRc:=R [2,3] [M 4 0,I 5 (.bin .and (.s 4) (.v (.int .u64 65535))),I 6 (.cint .i64 (.s 5)),M 7 0,I 8 (.bin .shr (.s 7) (.v (.int .u64 16))),M 2 6,M 3 8]
def ZIi:PF:=⟨false,
 (D ZRb
 (D ZRc
 .ret)),
 [.s 2,.s 3]⟩
theorem ZY6:ck0 false [] ZIi Tryz.f133=some ZIi:=by kernel_rfl
def ZY7:=R [1] [I 1 (.box (.s 0)),K 2 0]
def ZY8:=R [1,5] [T 3 3 1,I 4 (C ZA8 [(.s 3)]),I 5 (.un .not (.s 4))]
def ZY9:=R [2] [K 2 23]
def ZZA:=R [9] [T 6 3 1,I 7 (C ZCW [(.s 6)]),I 8 (.fld false 0 1 (.s 7)),W 9 .gtr 8 65536]
def ZZB:=R [2] [K 2 5]
def ZZC:=R [2] [K 2 0]
def ZOA:PF:=⟨false,
 (D ZY7
 (D (D ZY8
 (E 5
 (D ZY9
 .ret)
 .skip))
 (D (D ZZA
 (E 9
 (D ZZB
 .ret)
 .skip))
 (D ZZC
 .ret)))),
 [.s 2]⟩
theorem Ze5:ck0 false [] ZOA Tryz.f134=some ZOA:=by kernel_rfl
def Ze6:=R [1,2] [I 1 (.box (.s 0)),I 2 (.box (.v ZM))]
def Ze7:=R [1,2,8] [F 6 0 1,L 7 6,W 8 .eql 7 0]
def Ze8:=R [2] [F 9 1 1,L 10 9,I 11 (C ZFN [(.s 10)]),N 3 2 11]
def Ze9:=R [1,2,3] [I 3 (.onil 3)]
def ZfA:=R [2,3,13,14,15] [F 12 2 1,L 13 12,I 14 (.len 1 (.s 13)),K 15 0]
def ZfB:=R [2,3,13,14,15,16] [B 16 .lss 15 14]
def ZfC:=R [2,3,5,13,14,15] [I 17 (.ixS 4 (.s 13) (.s 15)),T 18 4 17,I 5 (.box (.v ZK)),N 4 5 18]
def ZfD:=R [2,3,13,14,15] [M 19 3,F 20 1 5,T 21 3 20,I 22 (.bslice false 3 [ZM] [(0,(.s 21))]),I 23 (.app 3 24 (.s 19) (.s 22)),M 3 23]
def ZfE:=R [2,3,13,14,15] [W 24 .add 15 1,M 15 24]
def ZfF:PC:=(D ZfB
 (D (E 16
 .skip
 (.exit 0))
 (D (.block 1
 (D ZfC
 ZfD))
 ZfE)))
def ZcD:=R [2] [M 25 3,I 26 (C ZEE [(.s 25)]),N 3 2 26]
def ZZD:PF:=⟨false,
 (D Ze6
 (D (D Ze7
 (E 8
 (D Ze8
 .ret)
 .skip))
 (D Ze9
 (D (D ZfA
 (.block 0
 (.loop ZfF)))
 (D ZcD
 .ret))))),
 [.c 2 true 3]⟩
theorem Zie:ck0 false [(3,⟨[1,2,3],[0],[],[],[],[]⟩)] ZZD Tryz.f135=some ZZD:=by kernel_rfl
def ZOB:=R [0,1,2] [K 4 0]
def ZOC:=R [1,2,9] [M 5 0,L 6 1,L 7 2,B 8 .rem 6 7,B 9 .lss 5 8]
def ZOD:=R [4] [L 10 1,L 11 2,B 12 .quo 10 11,W 13 .add 12 1,M 4 13]
def ZOE:=R [4] [L 14 1,L 15 2,B 16 .quo 14 15,M 4 16]
def ZGU:PF:=⟨false,
 (D ZOB
 (D (D ZOC
 (E 9
 (D ZOD
 .ret)
 .skip))
 (D ZOE
 .ret))),
 [.s 4]⟩
theorem ZUr:ck0 false [] ZGU Tryz.f136=some ZGU:=by kernel_rfl
def ZZE:=R [0] [I 2 (.mv (.v (.bool false)))]
def ZZF:=R [2] [M 3 0,I 4 (.len 0 (.s 3)),W 5 .geq 4 1,M 6 5,U 7 6 true 0,G 8 6 true (.len 0 (.s 7)),G 9 6 true (.bin .leq (.s 8) (V 16)),I 10 (.pick (.s 6) (.s 9) (.v (.bool false))),M 2 10]
def ZOF:PF:=⟨false,
 (D ZZE
 (D ZZF
 .ret)),
 [.s 2]⟩
theorem ZfH:ck0 false [] ZOF Tryz.f137=some ZOF:=by kernel_rfl
def ZUs:=R [0,4,5] [I 4 (.box (.s 1)),I 5 (.box (.s 2)),I 6 (.mv (.v .nils)),K 7 0]
def ZUt:=R [0,4,5,8,9] [T 17 7 4,I 18 (.call .pure (.v (.func (.func Qq) [] [])) [(.s 17)]),T 19 7 5,I 20 (C Qq [(.s 19)]),M 8 18,M 9 20]
def ZUu:=R [0,4,5,32] [M 21 8,M 22 9,B 23 .add 21 22,W 24 .gtr 23 16,M 25 24,U 26 25 true 8,G 27 25 true (.bin .geq (.s 26) (V 8)),I 28 (.pick (.s 25) (.s 27) (.v (.bool false))),M 29 28,U 30 29 true 9,G 31 29 true (.bin .geq (.s 30) (V 8)),I 32 (.pick (.s 29) (.s 31) (.v (.bool false)))]
def ZUv:=R [6,7] [T 33 7 4,T 34 7 5,I 35 (.bslice false 7 [ZT,ZT] [(0,(.s 33)),(1,(.s 34))]),M 6 35,K 7 0]
def ZUw:=R [0,5,10,11] [M 37 0,T 38 7 4,I 39 (C ZAB [(.s 37),(.s 38)]),M 36 39,X 40 36 0,X 41 36 1,M 10 40,M 11 41]
def ZUx:=R [0,5,10,11,43] [M 42 11,W 43 .neq 42 0]
def ZUy:=R [6,7] [M 44 11,I 6 (.mv (.v .nils)),M 7 44]
def ZUz:=R [10,11,12] [M 46 0,T 47 7 5,I 48 (C ZAB [(.s 46),(.s 47)]),M 45 48,X 49 45 0,X 50 45 1,M 12 49,M 11 50]
def ZU0:=R [10,11,12,52] [M 51 11,W 52 .neq 51 0]
def ZU1:=R [6,7] [M 53 11,I 6 (.mv (.v .nils)),M 7 53]
def ZRd:=R [11,13] [M 55 10,M 56 12,I 57 (C ZFO [(.s 55),(.s 56)]),M 54 57,X 58 54 0,X 59 54 1,M 13 58,M 11 59]
def ZRe:=R [11,13,61] [M 60 11,W 61 .neq 60 0]
def ZRf:=R [6,7] [M 62 11,I 6 (.mv (.v .nils)),M 7 62]
def ZRg:=R [13,14] [I 14 (.onil 7)]
def ZRh:=R [14,63,64,65] [M 63 13,I 64 (.len 1 (.s 63)),K 65 0]
def ZRi:=R [14,63,64,65,66] [B 66 .lss 65 64]
def ZRj:=R [14,16,63,64,65] [I 67 (.ixS 1 (.s 63) (.s 65)),L 68 67,M 16 68]
def ZRk:=R [14,63,64,65] [M 69 14,M 70 16,I 71 (.build [(.int .u64 0),(.int .i64 0),(.int .i64 0),(.int .i64 0),(.int .i64 0),(.str []),.nils] [(5,1,(.s 70))]),I 72 (.bslice false 7 [ZT] [(0,(.s 71))]),I 73 (.app 7 80 (.s 69) (.s 72)),M 14 73]
def ZRl:=R [14,63,64,65] [W 74 .add 65 1,M 65 74]
def ZEv:PC:=(D ZRi
 (D (E 66
 .skip
 (.exit 0))
 (D (.block 1
 (D ZRj
 ZRk))
 ZRl)))
def ZRm:=R [6,7] [M 75 14,M 6 75,K 7 0]
def ZKD:PF:=⟨false,
 (D ZUs
 (D ZUt
 (D (D ZUu
 (E 32
 (D ZUv
 .ret)
 .skip))
 (D ZUw
 (D (D ZUx
 (E 43
 (D ZUy
 .ret)
 .skip))
 (D ZUz
 (D (D ZU0
 (E 52
 (D ZU1
 .ret)
 .skip))
 (D ZRd
 (D (D ZRe
 (E 61
 (D ZRf
 .ret)
 .skip))
 (D ZRg
 (D (D ZRh
 (.block 0
 (.loop ZEv)))
 (D ZRm
 .ret)))))))))))),
 [.s 6,.s 7]⟩
theorem ZcF:ck0 false [(1,⟨[0,4,5,8,9],[],[(1,.pure)],[],[],[]⟩),(13,⟨[13,14],[0],[],[],[],[]⟩)] ZKD Tryz.f138=some ZKD:=by kernel_rfl
def ZcG:=R [0] [I 2 (.mv (.v .nils))]
def ZcH:=R [0,6] [M 4 0,I 5 (.len 1 (.s 4)),W 6 .leq 5 4]
def ZcI:=R [2] [M 7 0,I 8 (C QP [(.s 7)]),I 9 (.bslice false 7 [ZT] [(0,(.s 8))]),M 2 9]
def ZcJ:=R [0,3] [M 10 0,I 11 (.len 1 (.s 10)),W 12 .add 11 1,W 13 .quo 12 2,M 3 13]
def ZcK:=R [2] [M 14 0,M 15 3,I 16 (.slc 7 (.s 14) none (some (.s 15))),I 17 (.call .pure (.v (.func (.func QP) [] [])) [(.s 16)]),M 18 0,M 19 3,I 20 (.slc 7 (.s 18) (some (.s 19)) none),I 21 (C QP [(.s 20)]),I 22 (.bslice false 7 [ZT,ZT] [(0,(.s 17)),(1,(.s 21))]),M 2 22]
def ZSe:PF:=⟨false,
 (D ZcG
 (D (D ZcH
 (E 6
 (D ZcI
 .ret)
 .skip))
 (D ZcJ
 (D ZcK
 .ret)))),
 [.s 2]⟩
theorem Zgw:ck0 false [(4,⟨[2],[],[(3,.pure)],[],[],[]⟩)] ZSe Tryz.f139=some ZSe:=by kernel_rfl
def ZLQ:=R [0,1,2] [I 3 (.mv (.v (.int .u64 0))),K 4 0]
def ZLR:=R [2,5,6] [L 8 0,I 9 (.nilck (.s 8)),F 10 0 9,L 11 10,L 12 1,I 13 (.call .pure (.s 12) []),I 14 (C Jj [(.s 11),(.s 13)]),M 7 14,X 15 7 0,X 16 7 1,M 5 15,M 6 16]
def ZLS:=R [2,5,6,18] [M 17 6,W 18 .eql 17 0]
def ZLT:=R [5,6] [L 19 2,M 20 5,I 21 (.nilck (.s 19)),F 22 0 21,N 1 22 20]
def ZLU:=R [3,4] [M 23 5,M 24 6,M 3 23,M 4 24]
def ZEw:PF:=⟨false,
 (D ZLQ
 (D ZLR
 (D (D ZLS
 (E 18
 ZLT
 .skip))
 (D ZLU
 .ret)))),
 [.s 3,.s 4]⟩
theorem ZRo:ck0 false [(1,⟨[2,5,6],[],[(5,.pure)],[],[],[]⟩)] ZEw Tryz.f140=some ZEw:=by kernel_rfl
def ZHN:=R [0,3] [I 3 (.box (.s 1)),I 4 (.mv (.v (.int .u64 0))),K 5 0]
def ZHO:=R [0,3,16] [M 15 0,I 16 (.eqs false 3 [] (.s 15) (.v .nilptr))]
def ZHP:=R [4,5] [I 4 (.mv (.v (.int .u64 0))),K 5 1]
def ZHQ:=R [0,3,6] [T 17 3 3,I 18 (C ZBo [(.s 17)]),M 6 18]
def ZHR:=R [0,3,6,20] [M 19 6,W 20 .neq 19 0]
def ZHS:=R [4,5] [M 21 6,I 4 (.mv (.v (.int .u64 0))),M 5 21]
def ZHT:=R [0,3,23,24,25] [F 22 2 3,L 23 22,I 24 (.len 1 (.s 23)),K 25 0]
def ZHU:=R [0,3,23,24,25,26] [B 26 .lss 25 24]
def ZHV:=R [0,3,8,23,24,25] [I 27 (.ixS 4 (.s 23) (.s 25)),T 28 4 27,I 8 (.box (.v ZK)),N 4 8 28]
def ZHW:=R [0,3,8,9,10,23,24,25] [M 30 0,I 31 (.nilck (.s 30)),F 32 2 31,L 33 32,F 34 0 8,L 35 34,I 36 (.look 0 ZN true (.s 33) (.s 35)),M 29 36,X 37 29 0,X 38 29 1,I 9 (.box (.v ZN)),N 3 9 37,M 10 38]
def ZFm:=R [0,3,8,9,23,24,25,40] [M 39 10,I 40 (.un .not (.s 39))]
def ZFn:=R [4,5] [I 4 (.mv (.v (.int .u64 0))),K 5 10]
def ZFo:=R [0,3,8,9,11,12,23,24,25] [T 42 3 9,I 43 (C XC [(.s 42)]),M 41 43,X 44 41 0,X 45 41 1,I 11 (.box (.v ZM)),N 3 11 44,M 12 45]
def ZFp:=R [0,3,23,24,25,61] [M 46 12,W 47 .neq 46 0,M 48 47,G 49 48 false (.fadr 0 (.s 9)),G 50 48 false (.ld false 1 (.s 49)),G 51 48 false (.fadr 0 (.s 3)),G 52 48 false (.ld false 1 (.s 51)),G 53 48 false (.bin .sub (.s 52) (V 1)),G 54 48 false (.bin .neq (.s 50) (.s 53)),I 55 (.pick (.s 48) (.v (.bool true)) (.s 54)),M 56 55,G 57 56 false (.ld true 3 (.s 11)),G 58 56 false (.fadr 1 (.s 8)),G 59 56 false (.ld true 3 (.s 58)),G 60 56 false (.eqs true 0 [(0,0),(1,0),(2,0)] (.s 57) (.s 59)),I 61 (.pick (.s 56) (.v (.bool true)) (.s 60))]
def ZFq:=R [4,5] [I 4 (.mv (.v (.int .u64 0))),K 5 23]
def ZFr:=R [0,3,23,24,25] [W 62 .add 25 1,M 25 62]
def ZFs:PC:=(D ZHU
 (D (E 26
 .skip
 (.exit 0))
 (D (.block 1
 (D ZHV
 (D ZHW
 (D (D ZFm
 (E 40
 (D ZFn
 .ret)
 .skip))
 (D ZFo
 (D ZFp
 (E 61
 (D ZFq
 .ret)
 .skip)))))))
 ZFr)))
def ZFt:=R [0,3,13,14] [M 64 0,I 65 (.nilck (.s 64)),F 66 1 65,L 67 66,I 68 (C XD [(.s 67)]),M 63 68,X 69 63 0,X 70 63 1,M 13 69,M 14 70]
def ZFu:=R [0,3,13,14,72] [M 71 14,W 72 .neq 71 0]
def ZFv:=R [4,5] [M 73 14,I 4 (.mv (.v (.int .u64 0))),M 5 73]
def ZAS:=R [0,3,13] [F 74 2 3,L 75 74,I 76 (C Z9 [(.s 75)]),F 77 2 3,N 1 77 76]
def ZAT:=R [0,13] [M 78 0,I 79 (.nilck (.s 78)),F 80 2 79,L 81 80,M 82 13,T 83 3 3,J (.mupd 0 (.s 81) (.s 82) (.s 83))]
def ZAU:=R [13] [M 84 0,I 85 (.nilck (.s 84)),F 86 3 85,L 87 86,W 88 .add 87 1,I 89 (.nilck (.s 84)),F 90 3 89,N 1 90 88]
def ZAV:=R [4,5] [M 91 13,M 4 91,K 5 0]
def ZBc:PF:=⟨false,
 (D ZHN
 (D (D ZHO
 (E 16
 (D ZHP
 .ret)
 .skip))
 (D (D ZHQ
 (D ZHR
 (E 20
 (D ZHS
 .ret)
 .skip)))
 (D (D ZHT
 (.block 0
 (.loop ZFs)))
 (D ZFt
 (D (D ZFu
 (E 72
 (D ZFv
 .ret)
 .skip))
 (D ZAS
 (D ZAT
 (D ZAU
 (D ZAV
 .ret)))))))))),
 [.s 4,.s 5]⟩
theorem ZJu:ck0 false [] ZBc Tryz.f141=some ZBc:=by kernel_rfl
def ZU2:=R [1] [I 1 (.box (.s 0)),I 2 (.mv (.v (.bool false)))]
def ZU3:=R [1,9] [F 7 0 1,L 8 7,W 9 .eql 8 0]
def ZU4:=R [2] [F 10 1 1,L 11 10,I 12 (.len 0 (.s 11)),W 13 .geq 12 1,M 14 13,G 15 14 true (.fadr 1 (.s 1)),G 16 14 true (.ld false 1 (.s 15)),G 17 14 true (.len 0 (.s 16)),G 18 14 true (.bin .leq (.s 17) (V 16)),I 19 (.pick (.s 14) (.s 18) (.v (.bool false))),M 20 19,G 21 20 true (.fadr 2 (.s 1)),G 22 20 true (.ld false 1 (.s 21)),G 23 20 true (.len 1 (.s 22)),G 24 20 true (.bin .eql (.s 23) (V 0)),I 25 (.pick (.s 20) (.s 24) (.v (.bool false))),M 2 25]
def ZU5:=R [1,50] [F 26 0 1,L 27 26,W 28 .lss 27 1,M 29 28,G 30 29 false (.fadr 0 (.s 1)),G 31 29 false (.ld false 1 (.s 30)),G 32 29 false (.bin .gtr (.s 31) (V 16)),I 33 (.pick (.s 29) (.v (.bool true)) (.s 32)),M 34 33,G 35 34 false (.fadr 1 (.s 1)),G 36 34 false (.ld false 1 (.s 35)),G 37 34 false (.bin .neq (.s 36) (.v (.str []))),I 38 (.pick (.s 34) (.v (.bool true)) (.s 37)),M 39 38,G 40 39 false (.fadr 2 (.s 1)),G 41 39 false (.ld false 1 (.s 40)),G 42 39 false (.len 1 (.s 41)),G 43 39 false (.bin .lss (.s 42) (V 2)),I 44 (.pick (.s 39) (.v (.bool true)) (.s 43)),M 45 44,G 46 45 false (.fadr 2 (.s 1)),G 47 45 false (.ld false 1 (.s 46)),G 48 45 false (.len 1 (.s 47)),G 49 45 false (.bin .gtr (.s 48) (V 4)),I 50 (.pick (.s 45) (.v (.bool true)) (.s 49))]
def ZU6:=R [2] [I 2 (.mv (.v (.bool false)))]
def ZU7:=R [1,3,4] [F 52 0 1,L 53 52,W 54 .sub 53 1,I 55 (C ZEF [(.s 54)]),M 51 55,X 56 51 0,X 57 51 1,M 3 56,M 4 57]
def ZU8:=R [3,4,59,60,61] [F 58 2 1,L 59 58,I 60 (.len 1 (.s 59)),K 61 0]
def ZU9:=R [3,4,59,60,61,62] [B 62 .lss 61 60]
def ZVA:=R [3,4,6,59,60,61] [I 63 (.ixS 4 (.s 59) (.s 61)),T 64 4 63,I 6 (.box (.v ZK)),N 4 6 64]
def ZVB:=R [3,4,59,60,61,112] [F 65 0 6,L 66 65,I 67 (C ZCU [(.s 66)]),W 68 .neq 67 0,M 69 68,G 70 69 false (.fadr 1 (.s 6)),G 71 69 false (.fadr 0 (.s 70)),G 72 69 false (.ld false 1 (.s 71)),U 73 69 false 3,G 74 69 false (.bin .lss (.s 72) (.s 73)),I 75 (.pick (.s 69) (.v (.bool true)) (.s 74)),M 76 75,G 77 76 false (.fadr 1 (.s 6)),G 78 76 false (.fadr 0 (.s 77)),G 79 76 false (.ld false 1 (.s 78)),U 80 76 false 4,G 81 76 false (.bin .gtr (.s 79) (.s 80)),I 82 (.pick (.s 76) (.v (.bool true)) (.s 81)),M 83 82,G 84 83 false (.fadr 1 (.s 6)),G 85 83 false (.fadr 1 (.s 84)),G 86 83 false (.ld false 1 (.s 85)),G 87 83 false (.bin .lss (.s 86) (V 0)),I 88 (.pick (.s 83) (.v (.bool true)) (.s 87)),M 89 88,G 90 89 false (.fadr 1 (.s 6)),G 91 89 false (.fadr 1 (.s 90)),G 92 89 false (.ld false 1 (.s 91)),G 93 89 false (.fadr 1 (.s 6)),G 94 89 false (.fadr 0 (.s 93)),G 95 89 false (.ld false 1 (.s 94)),G 96 89 false (.bin .gtr (.s 92) (.s 95)),I 97 (.pick (.s 89) (.v (.bool true)) (.s 96)),M 98 97,G 99 98 false (.fadr 1 (.s 6)),G 100 98 false (.fadr 2 (.s 99)),G 101 98 false (.ld false 1 (.s 100)),G 102 98 false (.bin .lss (.s 101) (V 0)),I 103 (.pick (.s 98) (.v (.bool true)) (.s 102)),M 104 103,G 105 104 false (.fadr 1 (.s 6)),G 106 104 false (.fadr 2 (.s 105)),G 107 104 false (.ld false 1 (.s 106)),G 108 104 false (.fadr 1 (.s 6)),G 109 104 false (.fadr 1 (.s 108)),G 110 104 false (.ld false 1 (.s 109)),G 111 104 false (.bin .gtr (.s 107) (.s 110)),I 112 (.pick (.s 104) (.v (.bool true)) (.s 111))]
def ZRp:=R [2] [I 2 (.mv (.v (.bool false)))]
def ZRq:=R [3,4,59,60,61] [W 113 .add 61 1,M 61 113]
def ZRr:PC:=(D ZU9
 (D (E 62
 .skip
 (.exit 0))
 (D (.block 1
 (D ZVA
 (D ZVB
 (E 112
 (D ZRp
 .ret)
 .skip))))
 ZRq)))
def ZRs:=R [2] [I 2 (.mv (.v (.bool true)))]
def ZKE:PF:=⟨false,
 (D ZU2
 (D (D ZU3
 (E 9
 (D ZU4
 .ret)
 .skip))
 (D (D ZU5
 (E 50
 (D ZU6
 .ret)
 .skip))
 (D ZU7
 (D (D ZU8
 (.block 0
 (.loop ZRr)))
 (D ZRs
 .ret)))))),
 [.s 2]⟩
theorem ZcM:ck0 false [] ZKE Tryz.f147=some ZKE:=by kernel_rfl
def ZZG:=R [0,2] [I 2 (.box (.v ZM))]
def ZZH:=R [0,2,3] [I 3 (.box (.v ZM))]
def ZZI:=R [0,2,3,6,7] [I 6 (.build [.nilfunc,.nilfunc,.nilfunc] [(0,1,(.v (.func (.func Xn) [] []))),(1,1,(.v (.func (.func XP) [] []))),(2,1,(.v (.func (.func Xo) [] [])))]),K 7 0]
def ZZJ:=R [0,2,3,6,7,8] [W 8 .lss 7 3]
def ZZK:=R [0,2,3,4,5,6,7] [M 9 7,I 10 (.ixArr false 3 1 (.s 6) (.s 7)),M 4 9,M 5 10]
def ZZL:=R [0,2,3,6,7] [M 11 4,M 12 0,M 13 5,I 14 (C ZBW [(.s 12),(.s 13)]),I 15 (.ixA 3 1 (.s 3) (.s 11)),N 1 15 14]
def ZZM:=R [0,2,3,6,7] [W 16 .add 7 1,M 7 16]
def ZZN:PC:=(D ZZJ
 (D (E 8
 .skip
 (.exit 0))
 (D (.block 1
 (D ZZK
 ZZL))
 ZZM)))
def ZZO:=R [2] [T 17 3 3,I 18 (C Yi [(.s 17)]),N 3 2 18]
def ZOG:PF:=⟨false,
 (D ZZG
 (D ZZH
 (D (D ZZI
 (.block 0
 (.loop ZZN)))
 (D ZZO
 .ret)))),
 [.c 2 true 3]⟩
theorem ZfJ:ck0 false [] ZOG Tryz.f148=some ZOG:=by kernel_rfl
def ZVC:=R [0,2] [I 2 (.box (.v ZM))]
def ZVD:=R [0,2,3] [I 3 (.box (.v ZM))]
def ZVE:=R [2,3,8,9,10] [M 8 0,I 9 (.len 1 (.s 8)),K 10 0]
def ZVF:=R [2,3,8,9,10,11] [B 11 .lss 10 9]
def ZVG:=R [2,3,5,8,9,10] [I 12 (.ixS 3 (.s 8) (.s 10)),T 13 3 12,I 5 (.box (.v ZM)),N 3 5 13]
def ZVH:=R [2,3,8,9,10,20,21] [F 14 0 5,L 15 14,F 16 1 5,L 17 16,F 18 2 5,L 19 18,I 20 (.build [(.int .i64 0),(.int .i64 0),(.int .i64 0)] [(0,1,(.s 15)),(1,1,(.s 17)),(2,1,(.s 19))]),K 21 0]
def ZVI:=R [2,3,8,9,10,20,21,22] [W 22 .lss 21 3]
def ZVJ:=R [2,3,6,7,8,9,10,20,21] [M 23 21,I 24 (.ixArr false 3 1 (.s 20) (.s 21)),M 6 23,M 7 24]
def ZVK:=R [2,3,8,9,10,20,21] [M 25 6,I 26 (.ixA 3 1 (.s 3) (.s 25)),L 27 26,M 28 7,B 29 .add 27 28,I 30 (.ixA 3 1 (.s 3) (.s 25)),N 1 30 29]
def ZVL:=R [2,3,8,9,10,20,21] [W 31 .add 21 1,M 21 31]
def ZRt:PC:=(D ZVI
 (D (E 22
 .skip
 (.exit 2))
 (D (.block 3
 (D ZVJ
 ZVK))
 ZVL)))
def ZRu:=R [2,3,8,9,10] [W 32 .add 10 1,M 10 32]
def ZRv:PC:=(D ZVF
 (D (E 11
 .skip
 (.exit 0))
 (D (.block 1
 (D ZVG
 (D ZVH
 (.block 2
 (.loop ZRt)))))
 ZRu)))
def ZRw:=R [2] [T 33 3 3,I 34 (C Yi [(.s 33)]),N 3 2 34]
def ZKF:PF:=⟨false,
 (D ZVC
 (D ZVD
 (D (D ZVE
 (.block 0
 (.loop ZRv)))
 (D ZRw
 .ret)))),
 [.c 2 true 3]⟩
theorem ZcO:ck0 false [] ZKF Tryz.f149=some ZKF:=by kernel_rfl
def ZZP:=R [0,1] [I 4 (.mv (.v .nils)),K 5 0]
def ZZQ:=R [0,1,15] [M 8 0,I 9 (C ZAR [(.s 8)]),I 10 (.un .not (.s 9)),M 11 10,U 12 11 false 1,G 13 11 false (C ZAR [(.s 12)]),G 14 11 false (.un .not (.s 13)),I 15 (.pick (.s 11) (.v (.bool true)) (.s 14))]
def ZZR:=R [4,5] [I 4 (.mv (.v .nils)),K 5 2]
def ZZS:=R [0,1,6] [M 16 0,M 17 1,B 18 .add 16 17,M 6 18]
def ZZT:=R [0,1,6,21] [M 19 6,I 20 (.len 0 (.s 19)),W 21 .leq 20 16]
def ZZU:=R [4,5] [M 22 6,I 23 (.bslice false 1 [(.str [])] [(0,(.s 22))]),M 4 23,K 5 0]
def ZZV:=R [0,1,6,31] [M 24 0,I 25 (.len 0 (.s 24)),W 26 .geq 25 8,M 27 26,U 28 27 true 1,G 29 27 true (.len 0 (.s 28)),G 30 27 true (.bin .geq (.s 29) (V 8)),I 31 (.pick (.s 27) (.s 30) (.v (.bool false)))]
def ZZW:=R [4,5] [M 32 0,M 33 1,I 34 (.bslice false 1 [(.str []),(.str [])] [(0,(.s 32)),(1,(.s 33))]),M 4 34,K 5 0]
def ZZX:=R [6,7] [M 35 6,I 36 (.len 0 (.s 35)),W 37 .add 36 1,W 38 .quo 37 2,M 7 38]
def ZZY:=R [4,5] [M 39 6,M 40 7,I 41 (.slcS (.s 39) none (some (.s 40))),M 42 6,M 43 7,I 44 (.slcS (.s 42) (some (.s 43)) none),I 45 (.bslice false 1 [(.str []),(.str [])] [(0,(.s 41)),(1,(.s 44))]),M 4 45,K 5 0]
def ZOH:PF:=⟨false,
 (D ZZP
 (D (D ZZQ
 (E 15
 (D ZZR
 .ret)
 .skip))
 (D ZZS
 (D (D ZZT
 (E 21
 (D ZZU
 .ret)
 .skip))
 (D (D ZZV
 (E 31
 (D ZZW
 .ret)
 .skip))
 (D ZZX
 (D ZZY
 .ret))))))),
 [.s 4,.s 5]⟩
theorem ZfL:ck0 false [] ZOH Tryz.f150=some ZOH:=by kernel_rfl
def ZFw:=R [0] [I 2 (.mv (.v (.int .u64 0))),K 3 0]
def ZFx:=R [0,6] [M 5 0,I 6 (.eqs false 3 [] (.s 5) (.v .nilptr))]
def ZFy:=R [2,3] [I 2 (.mv (.v (.int .u64 0))),K 3 1]
def ZFz:=R [0,12] [M 7 0,I 8 (.nilck (.s 7)),F 9 0 8,L 10 9,I 11 (.len 1 (.s 10)),W 12 .eql 11 0]
def ZF0:=R [2,3] [I 2 (.mv (.v (.int .u64 0))),K 3 6]
def ZF1:=R [0,4] [M 13 0,I 14 (.nilck (.s 13)),F 15 0 14,L 16 15,M 17 0,I 18 (.nilck (.s 17)),F 19 0 18,L 20 19,I 21 (.len 1 (.s 20)),W 22 .sub 21 1,I 23 (.ixS 1 (.s 16) (.s 22)),L 24 23,M 4 24]
def ZF2:=R [0,4] [M 25 0,M 26 0,I 27 (.nilck (.s 26)),F 28 0 27,L 29 28,M 30 0,I 31 (.nilck (.s 30)),F 32 0 31,L 33 32,I 34 (.len 1 (.s 33)),W 35 .sub 34 1,I 36 (.slc 1 (.s 29) none (some (.s 35))),I 37 (.nilck (.s 25)),F 38 0 37,N 1 38 36]
def ZF3:=R [0,4] [M 39 0,I 40 (.nilck (.s 39)),F 41 1 40,L 42 41,M 43 4,I 44 (.ixS 1 (.s 42) (.s 43)),J (.st 1 (.s 44) (.v (.int .u8 1)))]
def ZF4:=R [2,3] [M 45 4,M 46 0,I 47 (.nilck (.s 46)),F 48 2 47,L 49 48,M 50 4,I 51 (.ixS 1 (.s 49) (.s 50)),L 52 51,I 53 (C ZA6 [(.s 45),(.s 52)]),X 54 53 0,X 55 53 1,M 2 54,M 3 55]
def ZBH:PF:=⟨false,
 (D ZFw
 (D (D ZFx
 (E 6
 (D ZFy
 .ret)
 .skip))
 (D (D ZFz
 (E 12
 (D ZF0
 .ret)
 .skip))
 (D ZF1
 (D ZF2
 (D ZF3
 (D ZF4
 .ret))))))),
 [.s 2,.s 3]⟩
theorem ZIk:ck0 false [] ZBH Tryz.f151=some ZBH:=by kernel_rfl
def ZVM:=R [0] [K 2 0,K 3 0]
def ZVN:=R [0,2,3] [K 2 8,K 3 16]
def ZVO:=R [2,3,4,5] [M 4 0,K 5 0]
def ZVP:=R [2,3,4,5,6] [B 6 .lss 5 4]
def ZVQ:=R [2,3,4,5] [M 7 2,W 8 .mul 7 2,M 2 8]
def ZVR:=R [2,3,4,5] [M 9 3,W 10 .mul 9 4,I 11 (.mnx false (.s 10) (V 65536)),M 3 11]
def ZVS:=R [2,3,4,5] [W 12 .add 5 1,M 5 12]
def ZVT:PC:=(D ZVP
 (D (E 6
 .skip
 (.exit 0))
 (D (.block 1
 (D ZVQ
 ZVR))
 ZVS)))
def ZVU:=R [2,3] [M 13 2,M 14 3,I 15 (.mnx false (.s 14) (V 65536)),M 2 13,M 3 15]
def ZKG:PF:=⟨false,
 (D ZVM
 (D ZVN
 (D (D ZVO
 (.block 0
 (.loop ZVT)))
 (D ZVU
 .ret)))),
 [.s 2,.s 3]⟩
theorem ZcQ:ck0 false [] ZKG Tryz.f153=some ZKG:=by kernel_rfl
def ZOI:=R [] [I 2 (.mv (.v (.bool false)))]
def ZOJ:=R [2] [I 2 (.mv (.v (.bool true)))]
def ZGV:PF:=⟨false,
 (D ZOI
 (D ZOJ
 .ret)),
 [.s 2]⟩
theorem ZVW:ck0 false [] ZGV Tryz.f154=some ZGV:=by kernel_rfl
def ZLV:=R [0] [I 2 (.mv (.v (.bool false)))]
def ZLW:=R [2] [M 3 0,I 4 (.bin .lss (.s 3) (.v (.int .u8 128))),M 5 4,U 6 5 false 0,G 7 5 false (.bin .gtr (.s 6) (.v (.int .u8 191))),I 8 (.pick (.s 5) (.v (.bool true)) (.s 7)),M 2 8]
def ZEx:PF:=⟨false,
 (D ZLV
 (D ZLW
 .ret)),
 [.s 2]⟩
theorem ZRy:ck0 false [] ZEx Tryz.f155=some ZEx:=by kernel_rfl
def ZOK:=R [0] [I 2 (.mv (.v (.bool false)))]
def ZOL:=R [2] [M 3 0,I 4 (.bin .eql (.s 3) (.v (.int .u8 10))),M 2 4]
def ZGW:PF:=⟨false,
 (D ZOK
 (D ZOL
 .ret)),
 [.s 2]⟩
theorem ZVY:ck0 false [] ZGW Tryz.f156=some ZGW:=by kernel_rfl
def ZOM:=R [0,1] [K 4 0]
def ZON:=R [0,1,5] [K 5 0]
def ZOO:=R [0,1,5,8,9] [M 7 0,I 8 (.len 0 (.s 7)),K 9 0]
def ZOP:=R [0,1,5,8,9,10] [B 10 .lss 9 8]
def ZOQ:=R [0,1,5,6,8,9] [M 11 9,M 6 11]
def ZOR:=R [0,1,5,8,9,16] [M 12 1,M 13 0,M 14 6,I 15 (.ixStr (.s 13) (.s 14)),I 16 (.call .norm (.s 12) [(.s 15)])]
def ZOS:=R [0,1,5,8,9] [M 17 5,W 18 .add 17 1,M 5 18]
def ZOT:=R [0,1,5,8,9] [W 19 .add 9 1,M 9 19]
def ZOU:PC:=(D ZOP
 (D (E 10
 .skip
 (.exit 0))
 (D (.block 1
 (D ZOQ
 (D ZOR
 (E 16
 ZOS
 .skip))))
 ZOT)))
def ZOV:=R [4] [M 20 5,M 4 20]
def ZGX:PF:=⟨false,
 (D ZOM
 (D ZON
 (D (D ZOO
 (.block 0
 (.loop ZOU)))
 (D ZOV
 .ret)))),
 [.s 4]⟩
theorem ZVa:ck0 false [] ZGX Tryz.f157=some ZGX:=by kernel_rfl
def ZIl:=R [1,2] [I 1 (.box (.s 0)),I 2 (.box (.v ZM))]
def ZIm:=R [1,2,5] [T 3 3 1,I 4 (.build [(.int .i64 0),(.int .i64 0),(.int .i64 0)] []),I 5 (.eqs false 0 [(0,0),(1,0),(2,0)] (.s 3) (.s 4))]
def ZIn:=R [2] [I 6 (.build [(.int .i64 0),(.int .i64 0),(.int .i64 0)] []),N 3 2 6]
def ZIo:=R [2] [I 7 (.ixA 3 1 (.s 1) (V 0)),L 8 7,I 9 (.ixA 3 1 (.s 1) (V 1)),L 10 9,I 11 (.ixA 3 1 (.s 1) (V 2)),L 12 11,I 13 (.build [(.int .i64 0),(.int .i64 0),(.int .i64 0)] [(0,1,(.s 8)),(1,1,(.s 10)),(2,1,(.s 12))]),N 3 2 13]
def ZDG:PF:=⟨false,
 (D ZIl
 (D (D ZIm
 (E 5
 (D ZIn
 .ret)
 .skip))
 (D ZIo
 .ret))),
 [.c 2 true 3]⟩
theorem ZLY:ck0 false [] ZDG Tryz.f158=some ZDG:=by kernel_rfl
end Go.Q15
