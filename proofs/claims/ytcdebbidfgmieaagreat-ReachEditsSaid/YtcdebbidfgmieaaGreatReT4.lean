/- A part of the proof. No condition. -/
import Derived.Test.YtcdebbidfgmieaaGreatProg
import Derived.KernelRfl
import Derived.Test.YtcdebbidfgmieaaGreatReT3
set_option linter.unusedVariables false
set_option linter.unusedSimpArgs false
namespace Go.Q15
open Go Go.QAbs Go.Proofs Go.Proofs.Tryz
set_option maxRecDepth 100000
noncomputable abbrev c0(b:Bool)(h:List Hint)(f:Func):=Zd Proofs.Tryz.prog b h f
def kp0:PC->List (List Nat)
 | .seq a b=>kp0 a++kp0 b
 | .reg k _=>[k]
 | .regH _ k _=>[k]
 | .ite _ a b=>kp0 a++kp0 b
 | .loop b=>kp0 b
 | .block _ b=>kp0 b
 | _=>[]
def hz0(ov:List (Nat × Hint)):Nat->List (List Nat)->List Hint
 | _,[]=>[]
 | n,k::l=>((ov.find? fun p=>p.1==n).map (·.2)).getD ⟨k,[],[],[],[],[]⟩::hz0 ov (n+1) l
def h0(ov:List (Nat × Hint))(p:PF):List Hint:=hz0 ov 0 (kp0 p.body)
def h0R(ov:List (Nat × Hint))(p:RF):List Hint:=hz0 ov 0 (kp0 p.pre++kp0 p.rng.assign++kp0 p.rng.body++kp0 p.post)
noncomputable abbrev ck0 (b:Bool) (o:List (Nat × Hint)) (p:PF) (f:Func):=c0 b (h0 o p) f
abbrev Zw:FuncId:=6
abbrev XW:FuncId:=7
abbrev Yk:FuncId:=9
abbrev Js:FuncId:=10
abbrev XY:FuncId:=11
abbrev HY:FuncId:=14
abbrev JL:FuncId:=15
abbrev J3:FuncId:=16
abbrev Z3:FuncId:=17
abbrev XZ:FuncId:=19
abbrev JO:FuncId:=20
abbrev Y0:FuncId:=22
abbrev Q0:FuncId:=23
abbrev Qd:FuncId:=24
abbrev YJ:FuncId:=25
abbrev Y2:FuncId:=26
abbrev Ju:FuncId:=27
abbrev K9:FuncId:=28
abbrev HZ:FuncId:=29
abbrev K_:FuncId:=30
abbrev LA:FuncId:=31
abbrev Yl:FuncId:=36
abbrev X5:FuncId:=37
abbrev LC:FuncId:=38
abbrev Xm:FuncId:=39
abbrev JI:FuncId:=40
abbrev Ha:FuncId:=41
abbrev YO:FuncId:=42
abbrev LD:FuncId:=43
abbrev Xn:FuncId:=46
abbrev Fd:FuncId:=47
abbrev YK:FuncId:=48
abbrev YP:FuncId:=49
abbrev Q6:FuncId:=50
abbrev YQ:FuncId:=51
abbrev JM:FuncId:=52
abbrev X6:FuncId:=53
abbrev J4:FuncId:=54
abbrev Q9:FuncId:=55
abbrev LE:FuncId:=56
abbrev J5:FuncId:=57
abbrev LG:FuncId:=58
abbrev Hb:FuncId:=59
abbrev Fe:FuncId:=60
abbrev Yd:FuncId:=61
abbrev LH:FuncId:=64
abbrev Ff:FuncId:=65
abbrev Hc:FuncId:=66
abbrev J6:FuncId:=67
abbrev Yw:FuncId:=68
abbrev ET:FuncId:=69
abbrev Jz:FuncId:=70
abbrev QW:FuncId:=71
abbrev Xo:FuncId:=72
abbrev Hd:FuncId:=73
abbrev LI:FuncId:=74
abbrev Qe:FuncId:=79
abbrev YS:FuncId:=80
abbrev QX:FuncId:=81
abbrev X9:FuncId:=82
abbrev Jv:FuncId:=83
abbrev He:FuncId:=84
abbrev Ym:FuncId:=85
abbrev J7:FuncId:=86
abbrev LJ:FuncId:=87
abbrev Hf:FuncId:=88
abbrev LK:FuncId:=93
abbrev JN:FuncId:=94
abbrev YT:FuncId:=95
abbrev YU:FuncId:=96
abbrev LL:FuncId:=97
abbrev LM:FuncId:=98
abbrev QC:FuncId:=99
abbrev Qj:FuncId:=100
abbrev Fg:FuncId:=101
abbrev EU:FuncId:=102
abbrev Yx:FuncId:=103
abbrev Hg:FuncId:=104
abbrev EV:FuncId:=105
abbrev Qf:FuncId:=106
abbrev Zp:FuncId:=109
abbrev Xa:FuncId:=110
abbrev Hh:FuncId:=111
abbrev LN:FuncId:=112
abbrev Xb:FuncId:=113
abbrev Yy:FuncId:=115
abbrev Hi:FuncId:=116
abbrev LP:FuncId:=117
abbrev Fh:FuncId:=118
abbrev Hj:FuncId:=119
abbrev Jn:FuncId:=120
abbrev JJ:FuncId:=121
abbrev YV:FuncId:=132
abbrev Xc:FuncId:=133
abbrev Hk:FuncId:=134
abbrev Fi:FuncId:=135
abbrev J0:FuncId:=136
abbrev Fj:FuncId:=137
abbrev LQ:FuncId:=138
abbrev Hl:FuncId:=139
abbrev Xp:FuncId:=140
abbrev Ja:FuncId:=141
abbrev Hm:FuncId:=147
abbrev LR:FuncId:=148
abbrev LS:FuncId:=149
abbrev LT:FuncId:=150
abbrev Xd:FuncId:=151
abbrev LU:FuncId:=153
abbrev Hn:FuncId:=154
abbrev Xq:FuncId:=155
abbrev Ho:FuncId:=156
abbrev LW:FuncId:=157
abbrev Yn:FuncId:=158
instance(n:Nat):OfNat Opd n:=⟨.s n⟩
instance(n:Nat):OfNat RV n:=⟨.s n⟩
abbrev I(d:Nat)(o:PO):PI:=⟨some d,none,false,o⟩
abbrev G(d g:Nat)(b:Bool)(o:PO):PI:=⟨some d,some (g,b),false,o⟩
abbrev J(o:PO):PI:=⟨none,none,false,o⟩
abbrev C(f:FuncId)(a:List Opd):PO:=.call .norm (.v (.func (.func f) [] [])) a
abbrev H(k:List Nat):Hint:=⟨k,[],[],[],[],[]⟩
abbrev V(i:Int):Opd:=.v (.int .i64 i)
abbrev M(d s:Nat):PI:=I d (.mv (.s s))
abbrev X(d s i:Nat):PI:=I d (.ext (.s s) i)
abbrev L(d s:Nat):PI:=I d (.ld false 1 (.s s))
abbrev T(d n s:Nat):PI:=I d (.ld true n (.s s))
abbrev F(d n s:Nat):PI:=I d (.fadr n (.s s))
abbrev U(d g:Nat)(b:Bool)(s:Nat):PI:=G d g b (.mv (.s s))
abbrev W(d:Nat)(o:BinOp)(s:Nat)(i:Int):PI:=I d (.bin o (.s s) (V i))
abbrev B(d:Nat)(o:BinOp)(s t:Nat):PI:=I d (.bin o (.s s) (.s t))
abbrev K(d:Nat)(i:Int):PI:=I d (.mv (V i))
abbrev N(n a x:Nat):PI:=J (.st n (.s a) (.s x))
abbrev E(c:Nat)(a b:PC):PC:=.ite (.s c) a b
abbrev D(a b:PC):PC:=.seq a b
abbrev R(k:List Nat)(l:List PI):PC:=.reg k l
abbrev ZT:AV:=.agg [(.int .u64 0),(.int .i64 0),(.int .i64 0),(.int .i64 0),(.int .i64 0),(.str []),.nils]
abbrev ZR:AV:=.agg [(.int .u64 0),(.int .i64 0),(.int .i64 0),(.int .i64 0),(.int .i64 0)]
abbrev ZM:AV:=.agg [(.int .i64 0),(.int .i64 0),(.int .i64 0)]
abbrev ZN:AV:=.agg [(.int .i64 0),(.str []),.nils]
abbrev ZK:AV:=.agg [(.int .u64 0),(.int .i64 0),(.int .i64 0),(.int .i64 0)]
abbrev k9:Opd:=.v (.bool true)
abbrev j0:Opd:=.v (.bool false)
abbrev j6:Opd:=.v .nils
abbrev j7:AV:=.int .i64 0
abbrev j8(d:Nat)(f:FuncId)(a:List Opd):PI:=I d (C f a)
abbrev j9(d:Nat)(a b c:Opd):PI:=I d (.pick a b c)
abbrev w5(d g:Nat)(w:Bool)(o:BinOp)(x y:Opd):PI:=G d g w (.bin o x y)
abbrev w6(d n:Nat)(x:Opd):PI:=I d (.len n x)
abbrev w7(d:Nat)(x:Opd):PI:=I d (.box x)
abbrev w8(d n:Nat)(x i:Opd):PI:=I d (.ixS n x i)
def ct:=R [0,1,2,3,4,5] [I 12 (.mv j0)]
def cw:=R [0,1,2,3,4,5,38] [M 31 0,M 32 1,j8 33 XW [31,32],M 34 33,U 35 34 false 5,G 36 34 false (.len 0 35),w5 37 34 false .gtr 36 (V 200),j9 38 34 k9 37]
def cz:=R [12] [j8 39 Z3 [],M 12 39]
def c_:=R [2,3,4,5,13,14,15,16] [M 41 0,M 42 1,j8 43 Yk [41,42],M 40 43,X 44 40 0,X 45 40 1,X 46 40 2,X 47 40 3,M 13 44,M 14 45,M 15 46,M 16 47]
def dA:=R [2,3,4,5,13,14,15,49] [M 48 16,I 49 (.un .not 48)]
def dB:=R [12] [I 12 (.mv j0)]
def dC:=R [2,3,4,5,13,14,15,52] [M 50 14,w6 51 1 50,W 52 .eql 51 0]
def dD:=R [12] [j8 53 Z3 [],M 12 53]
def dE:=R [2,3,4,5,13,14,15,17,18] [M 55 13,M 56 14,j8 57 Qd [55,56,j6],M 54 57,X 58 54 0,X 59 54 1,M 17 58,M 18 59]
def dF:=R [2,3,4,5,13,14,15,66] [M 60 18,W 61 .neq 60 0,M 62 61,U 63 62 false 17,G 64 62 false (.len 1 63),w5 65 62 false .neq 64 (V 0),j9 66 62 k9 65]
def dG:=R [12] [I 12 (.mv j0)]
def dH:=R [3,4,5,13,14,15,19] [M 67 2,M 68 14,w6 69 1 68,W 70 .sub 69 1,j8 71 Js [67,70],M 19 71]
def dI:=R [3,4,5,13,14,15,19] [M 72 3,M 73 15,M 74 19,w8 75 1 73 74,L 76 75,w6 77 0 76,j8 78 Js [72,77],M 3 78]
def dJ:=R [3,4,5,13,14,15,19] [M 79 4,M 80 15,M 81 19,w8 82 1 80 81,L 83 82,w6 84 0 83,M 85 3,B 86 .sub 84 85,j8 87 Js [79,86],M 4 87]
def dK:=R [3,4,5,13,14,15,18,19,20] [M 89 13,M 90 14,M 91 19,w8 92 5 90 91,T 93 5 92,M 94 3,M 95 4,M 96 5,j8 97 XY [89,93,94,95,96],M 88 97,X 98 88 0,X 99 88 1,I 20 (.box (.v (.agg [(.int .u64 0),j7,j7,j7,j7,.nils,.nils]))),N 7 20 98,M 18 99]
def dL:=R [3,4,5,13,14,15,18,19,20,101] [M 100 18,W 101 .eql 100 6]
def dM:=R [12] [j8 102 Z3 [],M 12 102]
def dN:=R [3,4,5,13,14,15,19,20,104] [M 103 18,W 104 .neq 103 0]
def dO:=R [12] [I 12 (.mv j0)]
def Y5:=R [3,4,5,13,15,19,20,21] [M 105 14,j8 106 Y2 [105],M 21 106]
def Y6:=R [3,4,5,13,15,19,20,21] [M 107 21,M 108 19,F 109 0 20,T 110 5 109,w8 111 5 107 108,N 5 111 110]
def Y7:=R [3,4,5,13,15,18,19,20,21,22] [M 113 13,M 114 21,j8 115 XZ [113,114],M 112 115,X 116 112 0,X 117 112 1,M 22 116,M 18 117]
def Y8:=R [3,4,5,13,15,17,18,19,20,21,22,23] [M 119 13,M 120 21,j8 121 Qd [119,120,j6],M 118 121,X 122 118 0,X 123 118 1,M 17 122,M 23 123]
def Y9:=R [3,4,5,13,15,17,19,21,147] [M 124 18,W 125 .neq 124 0,M 126 125,U 127 126 false 23,w5 128 126 false .neq 127 (V 0),j9 129 126 k9 128,M 130 129,U 131 130 false 17,G 132 130 false (.len 1 131),G 133 130 false (.fadr 6 20),G 134 130 false (.ld false 1 133),U 135 130 false 22,G 136 130 false (C Ju [134,135]),G 137 130 false (.len 1 136),w5 138 130 false .neq 132 137,j9 139 130 k9 138,M 140 139,U 141 140 false 17,G 142 140 false (.fadr 6 20),G 143 140 false (.ld false 1 142),G 144 140 false (C Ju [141,143]),G 145 140 false (.len 1 144),w5 146 140 false .neq 145 (V 0),j9 147 140 k9 146]
def XA:=R [12] [I 12 (.mv j0)]
def XB:=R [3,4,5,13,15,17,18,19,21,24] [M 149 13,M 150 21,M 151 17,j8 152 Q0 [149,150,151],M 148 152,X 153 148 0,X 154 148 1,I 24 (.box (.v (.agg [j7,j7,j7,j7,j7]))),N 5 24 153,M 18 154]
def XC:=R [3,4,5,13,15,17,19,21,24,168] [M 155 18,W 156 .neq 155 0,M 157 156,G 158 157 false (.fadr 4 24),G 159 157 false (.ld false 1 158),w5 160 157 false .neq 159 (V 0),j9 161 157 k9 160,M 162 161,G 163 162 false (.fadr 1 24),G 164 162 false (.ld false 1 163),U 165 162 false 17,G 166 162 false (.len 1 165),w5 167 162 false .neq 164 166,j9 168 162 k9 167]
def XD:=R [12] [I 12 (.mv j0)]
def XE:=R [3,4,5,13,15,17,19,21,24,25] [K 25 0]
def dP:=R [3,4,5,13,15,17,19,21,24,25,172] [M 169 25,M 170 17,w6 171 1 170,B 172 .lss 169 171]
def dQ:=R [3,4,5,13,15,17,19,21,24,25,181] [M 175 13,M 176 17,M 177 25,w8 178 1 176 177,L 179 178,j8 180 K9 [175,179],W 181 .neq 180 0]
def dR:=R [12] [I 12 (.mv j0)]
def dS:=R [3,4,5,13,15,17,19,21,24,25] [M 173 25,W 174 .add 173 1,M 25 174]
def p_quartolaw22_ReachEdits_33:PC:=(D (D dP
 (E 172
 .skip
 (.exit 0)))
 (D (.block 1
 (D dQ
 (E 181
 (D dR
 .ret)
 .skip)))
 dS))
def XF:=R [3,4,5,13,15,17,18,19,21,24,26] [M 183 13,M 184 21,j8 185 Q0 [183,184,j6],M 182 185,X 186 182 0,X 187 182 1,I 26 (.box (.v (.agg [j7,j7,j7,j7,j7]))),N 5 26 186,M 18 187]
def XG:=R [3,4,5,13,15,19,21,222] [M 188 18,W 189 .neq 188 0,M 190 189,G 191 190 false (.fadr 4 26),G 192 190 false (.ld false 1 191),w5 193 190 false .neq 192 (V 0),j9 194 190 k9 193,M 195 194,G 196 195 false (.fadr 1 26),G 197 195 false (.ld false 1 196),w5 198 195 false .neq 197 (V 0),j9 199 195 k9 198,M 200 199,G 201 200 false (.fadr 0 26),G 202 200 false (.ld false 1 201),G 203 200 false (.fadr 0 24),G 204 200 false (.ld false 1 203),w5 205 200 false .neq 202 204,j9 206 200 k9 205,M 207 206,G 208 207 false (.fadr 2 26),G 209 207 false (.ld false 1 208),G 210 207 false (.fadr 3 26),G 211 207 false (.ld false 1 210),w5 212 207 false .add 209 211,G 213 207 false (.fadr 2 24),G 214 207 false (.ld false 1 213),G 215 207 false (.fadr 3 24),G 216 207 false (.ld false 1 215),w5 217 207 false .add 214 216,U 218 207 false 17,G 219 207 false (.len 1 218),w5 220 207 false .add 217 219,w5 221 207 false .neq 212 220,j9 222 207 k9 221]
def XH:=R [12] [I 12 (.mv j0)]
def XI:=R [3,4,5,13,15,19,21,27] [K 27 0]
def dT:=R [3,4,5,13,15,19,21,27,226] [M 223 27,M 224 21,w6 225 1 224,B 226 .lss 223 225]
def dU:=R [3,4,5,13,15,19,21,27,28,29] [M 230 13,M 231 21,M 232 27,w8 233 5 231 232,T 234 5 233,j8 235 HZ [230,234],M 229 235,X 236 229 0,X 237 229 1,M 28 236,M 29 237]
def dV:=R [3,4,5,13,15,19,21,27,28,29,30] [M 238 15,M 239 27,w8 240 1 238 239,L 241 240,M 30 241]
def dW:=R [3,4,5,13,15,19,21,27,28,29,30,244] [M 242 27,M 243 19,B 244 .eql 242 243]
def dX:=R [3,4,5,13,15,19,21,27,28,29,30] [M 245 15,M 246 19,w8 247 1 245 246,L 248 247,M 249 3,I 250 (.slcS 248 none (some 249)),M 251 5,B 252 .add 250 251,M 253 15,M 254 19,w8 255 1 253 254,L 256 255,M 257 3,M 258 4,B 259 .add 257 258,I 260 (.slcS 256 (some 259) none),B 261 .add 252 260,M 30 261]
def dY:=R [3,4,5,13,15,19,21,27,268] [M 262 29,W 263 .neq 262 0,M 264 263,U 265 264 false 28,U 266 264 false 30,w5 267 264 false .neq 265 266,j9 268 264 k9 267]
def dZ:=R [12] [I 12 (.mv j0)]
def da:=R [3,4,5,13,15,19,21,27] [M 227 27,W 228 .add 227 1,M 27 228]
def p_quartolaw22_ReachEdits_46:PC:=(D (D dT
 (E 226
 .skip
 (.exit 2)))
 (D (.block 3
 (D dU
 (D dV
 (D (D dW
 (E 244
 dX
 .skip))
 (D dY
 (E 268
 (D dZ
 .ret)
 .skip))))))
 da))
def XJ:=R [12] [M 269 13,j8 270 YJ [269],I 271 (.fld false 6 1 270),W 272 .eql 271 0,M 273 272,G 274 273 true (C Z3 []),j9 275 273 274 j0,M 12 275]
def Z8:PF:=⟨false,
 (D ct
 (D (D cw
 (E 38
 (D cz
 .ret)
 .skip))
 (D c_
 (D (D dA
 (E 49
 (D dB
 .ret)
 .skip))
 (D (D dC
 (E 52
 (D dD
 .ret)
 .skip))
 (D dE
 (D (D dF
 (E 66
 (D dG
 .ret)
 .skip))
 (D dH
 (D dI
 (D dJ
 (D dK
 (D (D dL
 (E 101
 (D dM
 .ret)
 .skip))
 (D (D dN
 (E 104
 (D dO
 .ret)
 .skip))
 (D Y5
 (D Y6
 (D Y7
 (D Y8
 (D (D Y9
 (E 147
 (D XA
 .ret)
 .skip))
 (D XB
 (D (D XC
 (E 168
 (D XD
 .ret)
 .skip))
 (D (D XE
 (.block 0
 (.loop p_quartolaw22_ReachEdits_33)))
 (D XF
 (D (D XG
 (E 222
 (D XH
 .ret)
 .skip))
 (D (D XI
 (.block 2
 (.loop p_quartolaw22_ReachEdits_46)))
 (D XJ
 .ret))))))))))))))))))))))))),
 [12]⟩
theorem db:ck0 false [] Z8 f6=some Z8:=by kernel_rfl
def dc:=R [0,1] [I 4 (.mv j0)]
def de:=R [4] [M 5 0,j8 6 K_ [5],M 7 6,U 8 7 false 1,G 9 7 false (C LA [8]),j9 10 7 k9 9,M 11 10,U 12 11 false 1,G 13 11 false (.len 1 12),w5 14 11 false .gtr 13 (V 12),j9 15 11 k9 14,M 4 15]
def LX:PF:=⟨false,
 (D dc
 (D de
 .ret)),
 [4]⟩
theorem dg:ck0 false [] LX f7=some LX:=by kernel_rfl
def dh:=R [0,1] [I 4 (.mv (.v .nilptr)),I 5 (.mv j6),I 6 (.mv j6),I 7 (.mv j0)]
def di:=R [0,1,8,9,10] [M 20 0,j8 21 Yl [20],M 19 21,X 22 19 0,X 23 19 1,X 24 19 2,M 8 22,M 9 23,M 10 24]
def dj:=R [0,1,8,9,26] [M 25 10,I 26 (.un .not 25)]
def dk:=R [4,5,6,7] [I 4 (.mv (.v .nilptr)),I 5 (.mv j6),I 6 (.mv j6),I 7 (.mv j0)]
def dm:=R [1,8,9,11] [I 27 (.bslice false 1 [] []),M 28 0,I 29 (.app 1 16 27 28),M 11 29]
def dn:=R [1,8,9,11,12] [K 12 0]
def dp:=R [1,8,9,11,12,33] [M 30 12,M 31 1,w6 32 1 31,B 33 .lss 30 32]
def dq:=R [1,8,9,11,12,13,14] [M 37 8,M 38 9,M 39 1,M 40 12,M 41 12,W 42 .add 41 1,I 43 (.slc 5 39 (some 40) (some 42)),j8 44 X5 [37,38,43],M 36 44,X 45 36 0,X 46 36 1,M 13 45,M 14 46]
def dt:=R [1,8,9,11,12,13,48] [M 47 14,I 48 (.un .not 47)]
def du:=R [4,5,6,7] [I 4 (.mv (.v .nilptr)),I 5 (.mv j6),I 6 (.mv j6),I 7 (.mv j0)]
def dw:=R [1,8,9,11,12,13,15,16] [M 50 8,M 51 13,I 52 (.ixS 7 51 (V 0)),T 53 7 52,j8 54 LC [50,53],M 49 54,X 55 49 0,X 56 49 1,M 15 55,M 16 56]
def dx:=R [1,8,9,11,12,13,15,58] [M 57 16,W 58 .neq 57 0]
def dy:=R [4,5,6,7] [I 4 (.mv (.v .nilptr)),I 5 (.mv j6),I 6 (.mv j6),I 7 (.mv j0)]
def dz:=R [1,8,9,11,12,15,16,17] [M 60 8,M 61 13,I 62 (.ixS 7 61 (V 0)),T 63 7 62,j8 64 Xm [60,63],M 59 64,X 65 59 0,X 66 59 1,X 67 59 2,I 17 (.box (.v ZR)),N 5 17 65,M 18 66,M 16 67]
def d_:=R [1,8,9,11,12,15,16,17,69] [M 68 16,W 69 .eql 68 6]
def eC:=R [1,8,9,11,12,15,17,71] [M 70 16,W 71 .neq 70 0]
def eD:=R [4,5,6,7] [I 4 (.mv (.v .nilptr)),I 5 (.mv j6),I 6 (.mv j6),I 7 (.mv j0)]
def eE:=R [1,8,9,11,12,15] [M 72 9,T 73 5 17,I 74 (.bslice false 5 [ZR] [(0,73)]),I 75 (.app 5 40 72 74),M 9 75]
def eF:=R [1,8,9,11,12] [M 76 11,M 77 15,I 78 (.bslice false 1 [(.str [])] [(0,77)]),I 79 (.app 1 16 76 78),M 11 79]
def eG:=R [1,8,9,11,12] [M 34 12,W 35 .add 34 1,M 12 35]
def eH:PC:=(D (D dp
 (E 33
 .skip
 (.exit 0)))
 (D (.block 1
 (D dq
 (D (D dt
 (E 48
 (D du
 .ret)
 .skip))
 (D dw
 (D (D dx
 (E 58
 (D dy
 .ret)
 .skip))
 (D dz
 (D (D d_
 (E 69
 (.exit 1)
 .skip))
 (D (D eC
 (E 71
 (D eD
 .ret)
 .skip))
 (D eE
 eF)))))))))
 eG))
def eI:=R [4,5,6,7] [M 80 8,M 81 9,M 82 11,M 4 80,M 5 81,M 6 82,I 7 (.mv k9)]
def Hp:PF:=⟨true,
 (D dh
 (D di
 (D (D dj
 (E 26
 (D dk
 .ret)
 .skip))
 (D dm
 (D (D dn
 (.block 0
 (.loop eH)))
 (D eI
 .ret)))))),
 [4,5,6,7]⟩
theorem eJ:ck0 true [] Hp f9=some Hp:=by kernel_rfl
def eK:=R [0,1] [K 4 0]
def eL:=R [4] [M 5 0,M 6 1,j8 7 JI [5,6],M 4 7]
def LY:PF:=⟨false,
 (D eK
 (D eL
 .ret)),
 [4]⟩
theorem eN:ck0 false [] LY f10=some LY:=by kernel_rfl
def eO:=R [5,6,7,8,9,10] [w7 5 0,w7 6 1,w7 7 2,w7 8 3,w7 9 4,I 10 (.box (.v (.agg [(.int .u64 0),j7,j7,j7,j7,.nils,.nils]))),K 11 0]
def eP:=R [10,11] [L 12 5,I 13 (.mkf (.func YO) [] [5,6,7,8,9]),T 14 5 6,I 15 (.bslice false 5 [ZR] [(0,14)]),j8 16 Ha [12,13,15],X 17 16 0,X 18 16 1,N 7 10 17,M 11 18]
def LZ:PF:=⟨false,
 (D eO
 (D eP
 .ret)),
 [.c 10 true 7,11]⟩
theorem eQ:ck0 false [] LZ f11=some LZ:=by kernel_rfl
def eR:=R [0,3,20] [w7 3 1,I 4 (.mv j6),K 5 0]
def eT:=R [0,3,6,20] [M 10 0,T 11 5 3,j8 12 Xn [10,11],M 6 12]
def eU:=R [0,3,6,14,20] [M 13 6,W 14 .neq 13 0]
def eV:=R [4,5] [M 15 6,I 4 (.mv j6),M 5 15]
def eW:=R [0,3,7,20] [I 7 (.boxnil 1)]
def eX:=R [0,3,7,8,20] [I 16 (.mkmap),I 8 (.box (.v .nilmap)),N 1 8 16]
def eY:=R [7,8,19,20] [M 17 0,T 18 5 3,j8 19 Fd [17,18]]
def ea:=R [7,8,9] [M 9 20]
def ed:=R [7,8,9,25] [L 22 8,M 23 9,I 24 (.look 0 (.bool false) false 22 23),I 25 (.un .not 24)]
def ee:=R [7,9] [L 26 8,M 27 9,J (.mupd 0 26 27 k9)]
def ef:=R [7] [L 28 7,M 29 9,I 30 (.bslice false 1 [(.int .u64 0)] [(0,29)]),I 31 (.app 1 8 28 30),N 1 7 31]
def eh:=R [4,5] [L 32 7,M 4 32,K 5 0]
def p_rope_Nodes:RF:=⟨33,
 (D eR
 (D (D eT
 (D eU
 (E 14
 (D eV
 .ret)
 .skip)))
 (D eW
 (D eX
 (D eY
 .skip))))),
 ⟨19,[20,21],
 ea,
 (.block 1
 (D ed
 (E 25
 (D ee
 ef)
 .skip)))⟩,
 (D .skip
 (D eh
 .ret)),
 [4,5]⟩
theorem ei:FW Proofs.Tryz.prog (h0R [(4,⟨[0,3,7,20],[0],[],[],[],[]⟩)] p_rope_Nodes) f14=some p_rope_Nodes:=by kernel_rfl
def ej:=R [0,1] [I 4 (.mv j0)]
def em:=R [0,1,10] [M 6 0,w6 7 1 6,M 8 1,w6 9 1 8,B 10 .neq 7 9]
def eo:=R [4] [I 4 (.mv j0)]
def ep:=R [0,1,5] [K 5 0]
def eu:=R [0,1,5,14] [M 11 5,M 12 0,w6 13 1 12,B 14 .lss 11 13]
def ew:=R [0,1,5,25] [M 17 0,M 18 5,w8 19 1 17 18,L 20 19,M 21 1,M 22 5,w8 23 1 21 22,L 24 23,B 25 .neq 20 24]
def ey:=R [4] [I 4 (.mv j0)]
def ez:=R [0,1,5] [M 15 5,W 16 .add 15 1,M 5 16]
def e_:PC:=(D (D eu
 (E 14
 .skip
 (.exit 0)))
 (D (.block 1
 (D ew
 (E 25
 (D ey
 .ret)
 .skip)))
 ez))
def fA:=R [4] [I 4 (.mv k9)]
def La:PF:=⟨false,
 (D ej
 (D (D em
 (E 10
 (D eo
 .ret)
 .skip))
 (D (D ep
 (.block 0
 (.loop e_)))
 (D fA
 .ret)))),
 [4]⟩
theorem fB:ck0 false [] La f15=some La:=by kernel_rfl
def fD:=R [0,1] [I 4 (.mv j0)]
def fE:=R [0,1,5] [K 5 0]
def fF:=R [0,1,5,9] [M 6 5,M 7 0,w6 8 1 7,B 9 .lss 6 8]
def fG:=R [0,1,5,17] [M 12 0,M 13 5,w8 14 1 12 13,L 15 14,M 16 1,B 17 .eql 15 16]
def fH:=R [4] [I 4 (.mv k9)]
def fI:=R [0,1,5] [M 10 5,W 11 .add 10 1,M 5 11]
def fJ:PC:=(D (D fF
 (E 9
 .skip
 (.exit 0)))
 (D (.block 1
 (D fG
 (E 17
 (D fH
 .ret)
 .skip)))
 fI))
def fK:=R [4] [I 4 (.mv j0)]
def Lb:PF:=⟨false,
 (D fD
 (D (D fE
 (.block 0
 (.loop fJ)))
 (D fK
 .ret))),
 [4]⟩
theorem fL:ck0 false [] Lb f16=some Lb:=by kernel_rfl
def fM:=R [] [I 0 (.mv j0)]
def fN:=R [1,2,3,4] [j8 8 YK [],M 7 8,X 9 7 0,X 10 7 1,X 11 7 2,X 12 7 3,I 2 (.box (.v ZR)),I 3 (.box (.v ZR)),M 1 9,N 5 2 10,N 5 3 11,M 4 12]
def fO:=R [1,2,3,14] [M 13 4,I 14 (.un .not 13)]
def fP:=R [0] [I 0 (.mv j0)]
def fQ:=R [5,6] [M 16 1,T 17 5 2,T 18 5 3,I 19 (.bslice false 5 [ZR,ZR] [(0,17),(1,18)]),j8 20 JO [16,19],M 15 20,X 21 15 0,X 22 15 1,M 5 21,M 6 22]
def fR:=R [0] [M 23 6,W 24 .eql 23 0,M 25 24,U 26 25 true 5,G 27 25 true (.bslice false 1 [(.int .u64 0)] [(0,(.v (.int .u64 65537)))]),G 28 25 true (C JL [26,27]),j9 29 25 28 j0,M 0 29]
def Q3:PF:=⟨false,
 (D fM
 (D fN
 (D (D fO
 (E 14
 (D fP
 .ret)
 .skip))
 (D fQ
 (D fR
 .ret))))),
 [0]⟩
theorem fS:ck0 false [] Q3 f17=some Q3:=by kernel_rfl
def fT:=R [0,1] [I 4 (.mv j6),K 5 0]
def fU:=R [6,7] [M 9 0,M 10 1,j8 11 YP [9,10],M 8 11,X 12 8 0,X 13 8 1,M 6 12,M 7 13]
def fV:=R [6,7,15] [M 14 7,W 15 .neq 14 0]
def fW:=R [4,5] [M 16 7,I 4 (.mv j6),M 5 16]
def fX:=R [4,5] [M 17 6,j8 18 Q6 [17,(V 1)],M 4 18,K 5 0]
def DM:PF:=⟨false,
 (D fT
 (D fU
 (D (D fV
 (E 15
 (D fW
 .ret)
 .skip))
 (D fX
 .ret)))),
 [4,5]⟩
theorem fY:ck0 false [] DM f19=some DM:=by kernel_rfl
def fZ:=R [0,1] [I 4 (.mv j6),K 5 0]
def fa:=R [6,7] [M 9 0,M 10 1,j8 11 YP [9,10],M 8 11,X 12 8 0,X 13 8 1,M 6 12,M 7 13]
def fb:=R [6,7,15] [M 14 7,W 15 .neq 14 0]
def fc:=R [4,5] [M 16 7,I 4 (.mv j6),M 5 16]
def fd:=R [4,5] [M 17 6,j8 18 Q6 [17,(V 2)],M 4 18,K 5 0]
def YW:PF:=⟨false,
 (D fZ
 (D fa
 (D (D fb
 (E 15
 (D fc
 .ret)
 .skip))
 (D fd
 .ret)))),
 [4,5]⟩
theorem fe:ck0 false [] YW f20=some YW:=by kernel_rfl
def ff:=R [0] [I 2 (.mv j6)]
def fg:=R [0,4] [M 3 0,I 4 (.eqs false 3 [] 3 (.v .nilptr))]
def fh:=R [2] [I 2 (.mv j6)]
def fi:=R [2] [M 5 0,I 6 (.nilck 5),F 7 1 6,L 8 7,j8 9 YQ [8],M 2 9]
def Lc:PF:=⟨false,
 (D ff
 (D (D fg
 (E 4
 (D fh
 .ret)
 .skip))
 (D fi
 .ret))),
 [2]⟩
theorem fj:ck0 false [] Lc f22=some Lc:=by kernel_rfl
def fk:=R [0,1,2,6] [I 6 (.box (.v (.agg [j7,j7,j7,j7,j7]))),K 7 0]
def fl:=R [0,6,8,9,10,11] [M 15 0,M 16 1,M 17 2,j8 18 JM [15,16,17],M 14 18,X 19 14 0,X 20 14 1,X 21 14 2,X 22 14 3,M 8 19,M 9 20,M 10 21,M 11 22]
def fm:=R [0,6,8,9,10,11,24] [M 23 11,W 24 .neq 23 0]
def fp:=R [6,7] [I 25 (.build [j7,j7,j7,j7,j7] []),M 26 11,N 5 6 25,M 7 26]
def fq:=R [6,8,9,10,12,13] [M 28 0,j8 29 X6 [28],M 27 29,X 30 27 0,X 31 27 1,M 12 30,M 13 31]
def ft:=R [6,7] [M 32 8,M 33 9,M 34 12,w6 35 1 34,M 36 13,w6 37 1 36,M 38 10,w6 39 2 38,I 40 (.build [j7,j7,j7,j7,j7] [(0,1,32),(1,1,33),(2,1,35),(3,1,37),(4,1,39)]),N 5 6 40,K 7 0]
def YD:PF:=⟨false,
 (D fk
 (D fl
 (D (D fm
 (E 24
 (D fp
 .ret)
 .skip))
 (D fq
 (D ft
 .ret))))),
 [.c 6 true 5,7]⟩
theorem fu:ck0 false [] YD f23=some YD:=by kernel_rfl
def fv:=R [0,1,2] [I 6 (.mv j6),K 7 0]
def fy:=R [10,11] [M 13 0,M 14 1,M 15 2,j8 16 JM [13,14,15],M 12 16,X 17 12 0,X 18 12 1,X 19 12 2,X 20 12 3,M 8 17,M 9 18,M 10 19,M 11 20]
def fz:=R [10,11,22] [M 21 11,W 22 .neq 21 0]
def f_:=R [6,7] [M 23 11,I 6 (.mv j6),M 7 23]
def gA:=R [6,7] [M 24 10,j8 25 Q6 [24,(V 1)],M 6 25,K 7 0]
def Jt:PF:=⟨false,
 (D fv
 (D fy
 (D (D fz
 (E 22
 (D f_
 .ret)
 .skip))
 (D gA
 .ret)))),
 [6,7]⟩
theorem gB:ck0 false [] Jt f24=some Jt:=by kernel_rfl
def gC:=R [0,2] [I 2 (.box (.v (.agg [j7,j7,j7,j7,j7,j7,j7])))]
def gD:=R [0,2,4] [M 3 0,I 4 (.eqs false 3 [] 3 (.v .nilptr))]
def gE:=R [2] [I 5 (.build [j7,j7,j7,j7,j7,j7,j7] []),N 7 2 5]
def gF:=R [2] [M 6 0,I 7 (.nilck 6),F 8 0 7,L 9 8,M 10 0,I 11 (.nilck 10),F 12 1 11,L 13 12,I 14 (.call .pure (.v (.func (.func J4) [] [])) [13]),w6 15 1 14,M 16 0,I 17 (.nilck 16),F 18 2 17,L 19 18,w6 20 2 19,M 21 0,I 22 (.nilck 21),F 23 1 22,L 24 23,I 25 (.call .pure (.v (.func (.func Q9) [] [])) [24]),w6 26 1 25,M 27 0,I 28 (.nilck 27),F 29 3 28,L 30 29,M 31 0,I 32 (.nilck 31),F 33 4 32,L 34 33,M 35 0,I 36 (.nilck 35),F 37 5 36,L 38 37,I 39 (.build [j7,j7,j7,j7,j7,j7,j7] [(0,1,9),(1,1,15),(2,1,20),(3,1,26),(4,1,30),(5,1,34),(6,1,38)]),N 7 2 39]
def Ld:PF:=⟨false,
 (D gC
 (D (D gD
 (E 4
 (D gE
 .ret)
 .skip))
 (D gF
 .ret))),
 [.c 2 true 7]⟩
theorem gG:ck0 false [(3,⟨[2],[],[(8,.pure),(19,.pure)],[],[],[]⟩)] Ld f25=some Ld:=by kernel_rfl
def gH:=R [0] [I 2 (.mv j6)]
def gI:=R [0,3] [I 3 (.onil 5)]
def gJ:=R [0,3,4] [K 4 0]
def gK:=R [0,3,4,8] [M 5 4,M 6 0,w6 7 1 6,B 8 .lss 5 7]
def gM:=R [0,3,4] [M 11 3,M 12 0,M 13 4,w8 14 5 12 13,T 15 5 14,I 16 (.bslice false 5 [ZR] [(0,15)]),I 17 (.app 5 40 11 16),M 3 17]
def gN:=R [0,3,4] [M 9 4,W 10 .add 9 1,M 4 10]
def gO:PC:=(D (D gK
 (E 8
 .skip
 (.exit 0)))
 (D (.block 1
 gM)
 gN))
def gP:=R [2] [M 18 3,M 2 18]
def Lf:PF:=⟨true,
 (D gH
 (D gI
 (D (D gJ
 (.block 0
 (.loop gO)))
 (D gP
 .ret)))),
 [2]⟩
theorem gQ:ck0 true [(1,⟨[0,3],[0],[],[],[],[]⟩)] Lf f26=some Lf:=by kernel_rfl
def gR:=R [0,1] [I 4 (.mv j6)]
def gS:=R [0,1,5] [I 5 (.onil 1)]
def gT:=R [0,1,5,6] [K 6 0]
def gU:=R [0,1,5,6,10] [M 7 6,M 8 0,w6 9 1 8,B 10 .lss 7 9]
def gW:=R [0,1,5,6,19] [M 13 1,M 14 0,M 15 6,w8 16 1 14 15,L 17 16,j8 18 J3 [13,17],I 19 (.un .not 18)]
def gY:=R [0,1,5,6] [M 20 5,M 21 0,M 22 6,w8 23 1 21 22,L 24 23,I 25 (.bslice false 1 [(.int .u64 0)] [(0,24)]),I 26 (.app 1 8 20 25),M 5 26]
def gZ:=R [0,1,5,6] [M 11 6,W 12 .add 11 1,M 6 12]
def ga:PC:=(D (D gU
 (E 10
 .skip
 (.exit 0)))
 (D (.block 1
 (D gW
 (E 19
 gY
 .skip)))
 gZ))
def gb:=R [4] [M 27 5,j8 28 LE [27],M 4 28]
def Lg:PF:=⟨false,
 (D gR
 (D gS
 (D (D gT
 (.block 0
 (.loop ga)))
 (D gb
 .ret)))),
 [4]⟩
theorem gc:ck0 false [(1,⟨[0,1,5],[0],[],[],[],[]⟩)] Lg f27=some Lg:=by kernel_rfl
def ge:=R [0,1] [K 4 0]
def gf:=R [0,1,8] [M 7 0,I 8 (.eqs false 3 [] 7 (.v .nilptr))]
def gh:=R [4] [K 4 1]
def gi:=R [0,1,6] [M 10 0,I 11 (.nilck 10),F 12 1 11,L 13 12,M 14 1,j8 15 J5 [13,14],M 9 15,X 16 9 0,X 17 9 1,M 5 16,M 6 17]
def gj:=R [0,1,6,19] [M 18 6,W 19 .neq 18 0]
def gk:=R [6] [M 20 0,I 21 (.nilck 20),F 22 5 21,L 23 22,W 24 .add 23 1,I 25 (.nilck 20),F 26 5 25,N 1 26 24]
def gm:=R [4] [M 27 6,M 4 27]
def gn:=R [0] [M 28 0,I 29 (.nilck 28),F 30 2 29,L 31 30,M 32 1,J (.mdel 0 31 32)]
def gp:=R [] [M 33 0,I 34 (.nilck 33),F 35 4 34,L 36 35,W 37 .add 36 1,I 38 (.nilck 33),F 39 4 38,N 1 39 37]
def gv:=R [4] [K 4 0]
def Lh:PF:=⟨false,
 (D ge
 (D (D gf
 (E 8
 (D gh
 .ret)
 .skip))
 (D (D gi
 (D gj
 (E 19
 (D gk
 (D gm
 .ret))
 .skip)))
 (D gn
 (D gp
 (D gv
 .ret)))))),
 [4]⟩
theorem gw:ck0 false [] Lh f28=some Lh:=by kernel_rfl
def gy:=R [0,3] [w7 3 1,I 4 (.mv (.v (.str []))),K 5 0]
def gz:=R [6,7] [M 12 0,T 13 5 3,j8 14 LG [12,13],M 11 14,X 15 11 0,X 16 11 1,M 6 15,M 7 16]
def g_:=R [6,7,18] [M 17 7,W 18 .neq 17 0]
def hJ:=R [4,5] [M 19 7,I 4 (.mv (.v (.str []))),M 5 19]
def hU:=R [6,8] [I 8 (.onil 1)]
def h_:=R [8,20,21,22] [M 20 6,w6 21 1 20,K 22 0]
def iA:=R [8,20,21,22,23] [B 23 .lss 22 21]
def iB:=R [8,10,20,21,22] [w8 24 1 20 22,L 25 24,M 10 25]
def iC:=R [8,20,21,22] [M 26 8,M 27 10,I 28 (.app 1 1 26 27),M 8 28]
def iD:=R [8,20,21,22] [W 29 .add 22 1,M 22 29]
def iE:PC:=(D iA
 (D (E 23
 .skip
 (.exit 0))
 (D (.block 1
 (D iB
 iC))
 iD)))
def iF:=R [4,5] [M 30 8,I 31 (.b2s 30),M 4 31,K 5 0]
def Hq:PF:=⟨false,
 (D gy
 (D gz
 (D (D g_
 (E 18
 (D hJ
 .ret)
 .skip))
 (D hU
 (D (D h_
 (.block 0
 (.loop iE)))
 (D iF
 .ret)))))),
 [4,5]⟩
theorem iG:ck0 false [(4,⟨[6,8],[0],[],[],[],[]⟩)] Hq f29=some Hq:=by kernel_rfl
def iH:=R [0] [I 2 (.mv j0)]
def iI:=R [0,3] [K 3 0]
def iJ:=R [0,3,4] [K 4 0]
def iK:=R [0,3,4,12] [M 5 4,M 6 0,w6 7 1 6,B 8 .lss 5 7,M 9 8,U 10 9 true 3,w5 11 9 true .leq 10 (V 900),j9 12 9 11 j0]
def iL:=R [0,3,4] [M 15 3,M 16 0,M 17 4,w8 18 1 16 17,L 19 18,w6 20 0 19,I 21 (.mnx false 20 (V 1000)),B 22 .add 15 21,M 3 22]
def iM:=R [0,3,4] [M 13 4,W 14 .add 13 1,M 4 14]
def iN:PC:=(D (D iK
 (E 12
 .skip
 (.exit 0)))
 (D (.block 1
 iL)
 iM))
def iO:=R [2] [M 23 0,w6 24 1 23,W 25 .gtr 24 4,M 26 25,U 27 26 false 3,w5 28 26 false .gtr 27 (V 900),j9 29 26 k9 28,M 2 29]
def Lk:PF:=⟨false,
 (D iH
 (D iI
 (D (D iJ
 (.block 0
 (.loop iN)))
 (D iO
 .ret)))),
 [2]⟩
theorem iP:ck0 false [] Lk f30=some Lk:=by kernel_rfl
def iQ:=R [0] [I 2 (.mv j0)]
def iR:=R [0,3] [K 3 0]
def iS:=R [0,3,11] [M 4 3,M 5 0,w6 6 1 5,B 7 .lss 4 6,M 8 7,U 9 8 true 3,w5 10 8 true .lss 9 (V 100),j9 11 8 10 j0]
def iT:=R [0,3,20] [M 14 0,M 15 3,w8 16 5 14 15,F 17 4 16,L 18 17,w6 19 0 18,W 20 .gtr 19 200]
def iU:=R [2] [I 2 (.mv k9)]
def iV:=R [0,3] [M 12 3,W 13 .add 12 1,M 3 13]
def iW:PC:=(D (D iS
 (E 11
 .skip
 (.exit 0)))
 (D (.block 1
 (D iT
 (E 20
 (D iU
 .ret)
 .skip)))
 iV))
def iX:=R [2] [M 21 0,w6 22 1 21,W 23 .gtr 22 60,M 2 23]
def Ll:PF:=⟨false,
 (D iQ
 (D (D iR
 (.block 0
 (.loop iW)))
 (D iX
 .ret))),
 [2]⟩
theorem iY:ck0 false [] Ll f31=some Ll:=by kernel_rfl
def iZ:=R [0] [I 2 (.mv (.v .nilptr)),I 3 (.mv j6),I 4 (.mv j0)]
def ia:=R [0,5,6] [j8 12 Hb [(V 1500),(.v (.int .u64 3))],M 11 12,X 13 11 0,X 14 11 1,M 5 13,M 6 14]
def ie:=R [0,5,20] [M 15 5,I 16 (.eqs false 3 [] 15 (.v .nilptr)),M 17 16,U 18 17 false 6,w5 19 17 false .neq 18 (V 0),j9 20 17 k9 19]
def ig:=R [2,3,4] [I 2 (.mv (.v .nilptr)),I 3 (.mv j6),I 4 (.mv j0)]
def ii:=R [0,5,7] [I 7 (.onil 5)]
def ij:=R [0,5,7,8] [K 8 0]
def ik:=R [0,5,7,8,24] [M 21 8,M 22 0,w6 23 1 22,B 24 .lss 21 23]
def il:=R [0,5,7,8,9,10] [M 28 5,M 29 0,M 30 8,w8 31 1 29 30,L 32 31,j8 33 Fe [28,32],M 27 33,X 34 27 0,X 35 27 1,I 9 (.box (.v ZR)),N 5 9 34,M 10 35]
def io:=R [0,5,7,8,9,37] [M 36 10,W 37 .neq 36 0]
def iq:=R [2,3,4] [I 2 (.mv (.v .nilptr)),I 3 (.mv j6),I 4 (.mv j0)]
def ir:=R [0,5,7,8] [M 38 7,T 39 5 9,I 40 (.bslice false 5 [ZR] [(0,39)]),I 41 (.app 5 40 38 40),M 7 41]
def iv:=R [0,5,7,8] [M 25 8,W 26 .add 25 1,M 8 26]
def iw:PC:=(D (D ik
 (E 24
 .skip
 (.exit 0)))
 (D (.block 1
 (D il
 (D (D io
 (E 37
 (D iq
 .ret)
 .skip))
 ir)))
 iv))
def iz:=R [2,3,4] [M 42 5,M 43 7,M 2 42,M 3 43,I 4 (.mv k9)]
def Lm:PF:=⟨true,
 (D iZ
 (D ia
 (D (D ie
 (E 20
 (D ig
 .ret)
 .skip))
 (D ii
 (D (D ij
 (.block 0
 (.loop iw)))
 (D iz
 .ret)))))),
 [2,3,4]⟩
theorem i_:ck0 true [(4,⟨[0,5,7],[0],[],[],[],[]⟩)] Lm f36=some Lm:=by kernel_rfl
def jA:=R [0,1,2] [I 6 (.mv j6),I 7 (.mv j0)]
def jD:=R [0,1,2,8] [I 8 (.onil 7)]
def jF:=R [0,1,2,8,9] [K 9 0]
def jH:=R [0,1,2,8,9,19] [M 16 9,M 17 2,w6 18 1 17,B 19 .lss 16 18]
def jI:=R [0,1,2,8,9,24] [M 22 1,w6 23 1 22,W 24 .eql 23 0]
def jJ:=R [0,1,2,8,9,10,11] [M 26 2,M 27 9,w8 28 5 26 27,F 29 4 28,L 30 29,j8 31 Ff [30],M 25 31,X 32 25 0,X 33 25 1,I 10 (.box (.v ZT)),N 7 10 32,M 11 33]
def jK:=R [0,1,2,8,9,10,35] [M 34 11,W 35 .neq 34 0]
def jN:=R [6,7] [I 6 (.mv j6),I 7 (.mv j0)]
def jO:=R [0,1,2,8,9] [M 36 8,T 37 7 10,I 38 (.bslice false 7 [ZT] [(0,37)]),I 39 (.app 7 80 36 38),M 8 39]
def jQ:=R [0,1,2,8,9,12] [M 40 1,M 41 2,M 42 9,w8 43 5 41 42,F 44 1 43,L 45 44,M 46 1,w6 47 1 46,W 48 .sub 47 1,j8 49 JI [45,48],w8 50 5 40 49,T 51 5 50,I 12 (.box (.v ZR)),N 5 12 51]
def jR:=R [0,1,2,8,9,12,13,14] [M 53 0,T 54 5 12,j8 55 Yd [53,54],M 52 55,X 56 52 0,X 57 52 1,I 13 (.box (.v ZT)),N 7 13 56,M 14 57]
def jT:=R [0,1,2,8,9,12,13,59] [M 58 14,W 59 .neq 58 0]
def jU:=R [6,7] [I 6 (.mv j6),I 7 (.mv j0)]
def jV:=R [0,1,2,8,9,12,13,15] [M 60 2,M 61 9,w8 62 5 60 61,F 63 2 62,L 64 63,F 65 2 12,F 66 0 65,L 67 66,j8 68 JI [64,67],M 15 68]
def jW:=R [0,1,2,8,9,13,14] [M 70 0,T 71 7 13,M 72 15,M 73 2,M 74 9,w8 75 5 73 74,F 76 3 75,L 77 76,F 78 2 12,F 79 0 78,L 80 79,M 81 15,B 82 .sub 80 81,I 83 (.call .pure (.v (.func (.func JI) [] [])) [77,82]),M 84 2,M 85 9,w8 86 5 84 85,F 87 4 86,L 88 87,j8 89 Hc [70,71,72,83,88],M 69 89,X 90 69 0,X 91 69 1,N 7 13 90,M 14 91]
def jX:=R [0,1,2,8,9,13,93] [M 92 14,W 93 .neq 92 0]
def jY:=R [6,7] [I 6 (.mv j6),I 7 (.mv j0)]
def jZ:=R [0,1,2,8,9] [M 94 8,T 95 7 13,I 96 (.bslice false 7 [ZT] [(0,95)]),I 97 (.app 7 80 94 96),M 8 97]
def ja:=R [0,1,2,8,9] [M 20 9,W 21 .add 20 1,M 9 21]
def jc:PC:=(D (D jH
 (E 19
 .skip
 (.exit 0)))
 (D (.block 1
 (D (D jI
 (E 24
 (D jJ
 (D (D jK
 (E 35
 (D jN
 .ret)
 .skip))
 (D jO
 (.exit 1))))
 .skip))
 (D jQ
 (D jR
 (D (D jT
 (E 59
 (D jU
 .ret)
 .skip))
 (D jV
 (D jW
 (D (D jX
 (E 93
 (D jY
 .ret)
 .skip))
 jZ))))))))
 ja))
def jd:=R [6,7] [M 98 8,M 6 98,I 7 (.mv k9)]
def Ln:PF:=⟨false,
 (D jA
 (D jD
 (D (D jF
 (.block 0
 (.loop jc)))
 (D jd
 .ret)))),
 [6,7]⟩
theorem je:ck0 false [(1,⟨[0,1,2,8],[0],[],[],[],[]⟩),(14,⟨[0,1,2,8,9,13,14],[],[(13,.pure)],[],[],[]⟩)] Ln f37=some Ln:=by kernel_rfl
def jf:=R [2,3] [w7 2 0,w7 3 1,I 4 (.mv (.v (.str []))),K 5 0]
def jg:=R [2,3,6] [L 10 2,T 11 7 3,j8 12 J6 [10,11],M 6 12]
def jh:=R [2,3,6,14] [M 13 6,W 14 .neq 13 0]
def ji:=R [4,5] [M 15 6,I 4 (.mv (.v (.str []))),M 5 15]
def jj:=R [2,3,7] [I 7 (.boxnil 1)]
def jm:=R [2,3,7,8] [I 8 (.box (.v .nilfunc))]
def jn:=R [3,7,8] [I 16 (.mkf (.func Yw) [] [2,7,8]),N 1 8 16]
def jo:=R [3,7,8,19] [T 17 7 3,j8 18 QW [17],W 19 .eql 18 1]
def jp:=R [4,5] [I 4 (.mv (.v (.str []))),K 5 0]
def jq:=R [7,9] [L 20 8,T 21 7 3,I 22 (.call .norm 20 [21]),M 9 22]
def jr:=R [7,9,24] [M 23 9,W 24 .neq 23 0]
def jt:=R [4,5] [M 25 9,I 4 (.mv (.v (.str []))),M 5 25]
def ju:=R [4,5] [L 26 7,I 27 (.b2s 26),M 4 27,K 5 0]
def Lo:PF:=⟨false,
 (D jf
 (D (D jg
 (D jh
 (E 14
 (D ji
 .ret)
 .skip)))
 (D jj
 (D jm
 (D jn
 (D (D jo
 (E 19
 (D jp
 .ret)
 .skip))
 (D (D jq
 (D jr
 (E 24
 (D jt
 .ret)
 .skip)))
 (D ju
 .ret)))))))),
 [4,5]⟩
theorem jv:ck0 false [(4,⟨[2,3,7],[0],[],[],[],[]⟩)] Lo f38=some Lo:=by kernel_rfl
def jw:=R [0,3,4,5] [w7 3 1,I 4 (.box (.v ZR)),I 5 (.onil 1),K 6 0]
def jy:=R [4,5,6,7] [M 12 0,T 13 7 3,j8 14 Xo [12,13],M 11 14,X 15 11 0,X 16 11 1,M 7 15,M 6 16]
def jz:=R [4,5,6,7,18] [M 17 6,W 18 .neq 17 0]
def j_:=R [4,5,6] [I 19 (.build [(.int .u64 0),j7,j7,j7,j7] []),M 20 6,N 5 4 19,I 5 (.onil 1),M 6 20]
def kA:=R [4,5,7,26] [M 21 7,I 22 (.nilck 21),F 23 1 22,L 24 23,w6 25 1 24,W 26 .gtr 25 0]
def kB:=R [4,5,7,8,10] [M 28 7,j8 29 Hd [28],M 27 29,X 30 27 0,X 31 27 1,X 32 27 2,M 8 30,M 9 31,M 10 32]
def kC:=R [4,5,7,8,10,34] [M 33 10,W 34 .neq 33 0]
def kD:=R [4,5,6] [I 35 (.build [(.int .u64 0),j7,j7,j7,j7] []),M 36 10,N 5 4 35,I 5 (.onil 1),M 6 36]
def kE:=R [4,5,7] [M 37 5,M 38 8,I 39 (.bslice false 1 [(.int .u64 0)] [(0,38)]),I 40 (.app 1 8 37 39),M 5 40]
def kF:PC:=(D (D kA
 (E 26
 .skip
 (.exit 0)))
 (.block 1
 (D kB
 (D (D kC
 (E 34
 (D kD
 .ret)
 .skip))
 kE))))
def kG:=R [4,5,6] [M 42 7,j8 43 LI [42],M 41 43,X 44 41 0,X 45 41 1,N 5 4 44,M 6 45]
def kH:=R [4,5,6] [T 46 5 4,M 47 5,M 48 6,N 5 4 46,M 5 47,M 6 48]
def Lp:PF:=⟨false,
 (D jw
 (D jy
 (D (D jz
 (E 18
 (D j_
 .ret)
 .skip))
 (D (.block 0
 (.loop kF))
 (D kG
 (D kH
 .ret)))))),
 [.c 4 true 5,5,6]⟩
theorem kI:ck0 false [(0,⟨[0,3,4,5],[2],[],[],[],[]⟩),(3,⟨[4,5,6],[3],[],[],[],[]⟩),(7,⟨[4,5,6],[3],[],[],[],[]⟩)] Lp f39=some Lp:=by kernel_rfl
def kJ:=R [0,1] [K 4 0]
def kK:=R [4] [M 5 0,I 6 (.cint .u64 5),M 7 1,W 8 .add 7 1,I 9 (.cint .u64 8),B 10 .rem 6 9,I 11 (.cint .i64 10),M 4 11]
def Lq:PF:=⟨false,
 (D kJ
 (D kK
 .ret)),
 [4]⟩
theorem kL:ck0 false [] Lq f40=some Lq:=by kernel_rfl
def kM:=R [0,1,2,6] [I 6 (.box (.v (.agg [(.int .u64 0),j7,j7,j7,j7,.nils,.nils]))),K 7 0]
def kN:=R [0,2,6,8,9] [M 19 1,I 20 (.call .norm 19 []),M 18 20,X 21 18 0,X 22 18 1,I 8 (.box (.v ZT)),N 7 8 21,M 9 22]
def kO:=R [0,2,6,8,9,24] [M 23 9,W 24 .neq 23 0]
def kP:=R [6,7] [I 25 (.build [(.int .u64 0),j7,j7,j7,j7,.nils,.nils] []),M 26 9,N 7 6 25,M 7 26]
def kQ:=R [0,2,6,8,10] [I 27 (.build [(.int .u64 0),j7,j7,j7,j7,.nils,.nils] []),I 10 (.box (.v (.agg [(.int .u64 0),j7,j7,j7,j7,.nils,.nils]))),N 7 10 27]
def kR:=R [0,2,6,8,10,11] [I 28 (.mkmap),M 11 28]
def kS:=R [0,6,8,10,11,29,30,31] [M 29 2,w6 30 1 29,K 31 0]
def kT:=R [0,6,8,10,11,29,30,31,32] [B 32 .lss 31 30]
def kU:=R [0,6,8,10,11,13,29,30,31] [w8 33 5 29 31,T 34 5 33,I 13 (.box (.v ZR)),N 5 13 34]
def kV:=R [0,6,8,10,11,14,15,29,30,31] [M 36 0,T 37 5 13,T 38 7 8,j8 39 LH [36,37,38],M 35 39,X 40 35 0,X 41 35 1,M 14 40,M 15 41]
def kW:=R [0,6,8,10,11,14,15,29,30,31,43] [M 42 15,W 43 .neq 42 0]
def kX:=R [6,7] [I 44 (.build [(.int .u64 0),j7,j7,j7,j7,.nils,.nils] []),M 45 15,N 7 6 44,M 7 45]
def kY:=R [0,6,8,10,11,29,30,31,46,47,48] [M 46 14,w6 47 1 46,K 48 0]
def kZ:=R [0,6,8,10,11,29,30,31,46,47,48,49] [B 49 .lss 48 47]
def ke:=R [0,6,8,10,11,17,29,30,31,46,47,48] [w8 50 1 46 48,L 51 50,M 17 51]
def kf:=R [0,6,8,10,11,17,29,30,31,46,47,48,55] [M 52 11,M 53 17,I 54 (.look 0 (.bool false) false 52 53),I 55 (.un .not 54)]
def kg:=R [0,6,8,10,11,17,29,30,31,46,47,48] [M 56 11,M 57 17,J (.mupd 0 56 57 k9)]
def kh:=R [0,6,8,10,11,29,30,31,46,47,48] [F 58 6 10,L 59 58,M 60 17,I 61 (.bslice false 1 [(.int .u64 0)] [(0,60)]),I 62 (.app 1 8 59 61),F 63 6 10,N 1 63 62]
def kj:=R [0,6,8,10,11,29,30,31,46,47,48] [W 64 .add 48 1,M 48 64]
def p_edit_change_19:PC:=(D kZ
 (D (E 49
 .skip
 (.exit 2))
 (D (.block 3
 (D ke
 (D kf
 (E 55
 (D kg
 kh)
 .skip))))
 kj)))
def km:=R [0,6,8,10,11,29,30,31] [W 65 .add 31 1,M 31 65]
def p_edit_change_21:PC:=(D kT
 (D (E 32
 .skip
 (.exit 0))
 (D (.block 1
 (D kU
 (D kV
 (D (D kW
 (E 43
 (D kX
 .ret)
 .skip))
 (D kY
 (.block 2
 (.loop p_edit_change_19)))))))
 km)))
def ko:=R [6,9,10] [M 67 0,T 68 7 8,j8 69 Xm [67,68],M 66 69,X 70 66 0,X 71 66 1,X 72 66 2,F 73 0 10,N 5 73 70,F 74 5 10,N 1 74 71,M 9 72]
def kp:=R [6,9,10,76] [M 75 9,W 76 .neq 75 0]
def kq:=R [6,7] [I 77 (.build [(.int .u64 0),j7,j7,j7,j7,.nils,.nils] []),M 78 9,N 7 6 77,M 7 78]
def kr:=R [6,7] [T 79 7 10,N 7 6 79,K 7 0]
def Lr:PF:=⟨false,
 (D kM
 (D kN
 (D (D kO
 (E 24
 (D kP
 .ret)
 .skip))
 (D kQ
 (D kR
 (D (D kS
 (.block 0
 (.loop p_edit_change_21)))
 (D (D ko
 (D kp
 (E 76
 (D kq
 .ret)
 .skip)))
 (D kr
 .ret)))))))),
 [.c 6 true 7,7]⟩
theorem ku:ck0 false [] Lr f41=some Lr:=by kernel_rfl
def kv:=R [0,1,2,3,4,5] [I 5 (.box (.v ZT)),K 6 0]
def kw:=R [5,6] [L 7 0,T 8 5 1,L 9 2,L 10 3,L 11 4,j8 12 LD [7,8,9,10,11],X 13 12 0,X 14 12 1,N 7 5 13,M 6 14]
def Ls:PF:=⟨false,
 (D kv
 (D kw
 .ret)),
 [.c 5 true 7,6]⟩
theorem kz:ck0 false [] Ls f42=some Ls:=by kernel_rfl
def k_:=R [0,2,3,4,6,10] [w7 6 1,I 10 (.box (.v ZT)),K 11 0]
def lA:=R [0,2,3,4,10,12,13] [M 15 0,T 16 5 6,j8 17 Yd [15,16],M 14 17,X 18 14 0,X 19 14 1,I 12 (.box (.v ZT)),N 7 12 18,M 13 19]
def lB:=R [0,2,3,4,10,12,13,21] [M 20 13,W 21 .neq 20 0]
def lD:=R [10,11] [I 22 (.build [(.int .u64 0),j7,j7,j7,j7,(.str []),.nils] []),M 23 13,N 7 10 22,M 11 23]
def lF:=R [10,11] [M 24 0,T 25 7 12,M 26 2,M 27 3,M 28 4,j8 29 Hc [24,25,26,27,28],X 30 29 0,X 31 29 1,N 7 10 30,M 11 31]
def Lu:PF:=⟨false,
 (D k_
 (D lA
 (D (D lB
 (E 21
 (D lD
 .ret)
 .skip))
 (D lF
 .ret)))),
 [.c 10 true 7,11]⟩
theorem lG:ck0 false [] Lu f43=some Lu:=by kernel_rfl
def lH:=R [0,3,23] [w7 3 1,K 4 0]
def lI:=R [0,3,6,23] [M 11 0,T 12 5 3,j8 13 Yd [11,12],M 10 13,X 14 10 0,X 15 10 1,I 5 (.box (.v ZT)),N 7 5 14,M 6 15]
def lJ:=R [0,3,6,17,23] [M 16 6,W 17 .neq 16 0]
def lK:=R [4] [M 18 6,M 4 18]
def lM:=R [0,3,7,23] [I 7 (.box (V 0)),J (.st 1 7 (V 0))]
def lO:=R [7,21,23] [M 19 0,T 20 5 3,j8 21 Fd [19,20]]
def lP:=R [7,9] [I 9 (.box (.v (.agg [j7,(.str []),.nils,j7]))),N 4 9 23]
def lQ:=R [7,9,26] [F 24 3 9,L 25 24,W 26 .neq 25 0]
def lR:=R [7] [F 27 3 9,L 28 27,N 1 7 28]
def lS:=R [4] [L 29 7,M 4 29]
def p_rope_Check:RF:=⟨30,
 (D lH
 (D (D lI
 (D lJ
 (E 17
 (D lK
 .ret)
 .skip)))
 (D lM
 (D .skip
 (D lO
 .skip))))),
 ⟨21,[22,23],
 lP,
 (.block 1
 (D lQ
 (E 26
 (D lR
 (.exit 0))
 .skip)))⟩,
 (D .skip
 (D lS
 .ret)),
 [4]⟩
theorem lT:FW Proofs.Tryz.prog (h0R [] p_rope_Check) f46=some p_rope_Check:=by kernel_rfl
def lU:=R [2,3] [w7 2 0,w7 3 1,I 4 (.mv (.v .nilfunc))]
def lV:=R [4] [I 5 (.mkf (.func Qe) [] [2,3]),M 4 5]
def Lw:PF:=⟨true,
 (D lU
 (D lV
 .ret)),
 [4]⟩
theorem lW:ck0 true [] Lw f47=some Lw:=by kernel_rfl
def lX:=R [1,2] [I 0 (.mv (.v .nilptr)),I 1 (.box (.v ZR)),I 2 (.box (.v ZR)),I 3 (.mv j0)]
def lZ:=R [1,2,4,5] [j8 10 Hb [(V 8),(.v (.int .u64 4))],M 9 10,X 11 9 0,X 12 9 1,M 4 11,M 5 12]
def lc:=R [1,2,4,18] [M 13 4,I 14 (.eqs false 3 [] 13 (.v .nilptr)),M 15 14,U 16 15 false 5,w5 17 15 false .neq 16 (V 0),j9 18 15 k9 17]
def lf:=R [0,1,2,3] [I 19 (.build [(.int .u64 0),j7,j7,j7,j7] []),I 20 (.build [(.int .u64 0),j7,j7,j7,j7] []),I 0 (.mv (.v .nilptr)),N 5 1 19,N 5 2 20,I 3 (.mv j0)]
def lg:=R [1,2,4,5,6] [M 22 4,I 23 (C Fe [22,(.v (.str [97,98,99,100,101,102,103,104,105,106,107,108,109,110,111,112,113]))]),M 21 23,X 24 21 0,X 25 21 1,I 6 (.box (.v ZR)),N 5 6 24,M 5 25]
def li:=R [1,2,4,5,6,7,8] [M 27 4,T 28 5 6,I 29 (C X9 [27,28,(V 9),(.v (.str [120,121,122]))]),M 26 29,X 30 26 0,X 31 26 1,I 7 (.box (.v (.agg [(.int .u64 0),j7,j7,j7,j7,.nils,.nils]))),N 7 7 30,M 8 31]
def lj:=R [0,1,2,3] [M 32 4,T 33 5 6,F 34 0 7,I 35 (.w (.hide [1]) (.ld true 5 34)),M 36 5,W 37 .eql 36 0,M 38 37,U 39 38 true 8,w5 40 38 true .eql 39 (V 0),j9 41 38 40 j0,M 42 41,G 43 42 true (.fadr 0 6),G 44 42 true (.ld false 1 43),G 45 42 true (.bin .eql 44 (.v (.int .u64 65538))),j9 46 42 45 j0,M 47 46,G 48 47 true (.fadr 0 7),G 49 47 true (.fadr 0 48),G 50 47 true (.w (.hide [1,2]) (.ld false 1 49)),G 51 47 true (.bin .eql 50 (.v (.int .u64 65540))),j9 52 47 51 j0,M 0 32,J (.w (.plain 1) (.st 5 1 33)),J (.w (.plain 2) (.st 5 2 35)),M 3 52]
def Lx:PF:=⟨true,
 (D lX
 (D lZ
 (D (D lc
 (E 18
 (D lf
 .ret)
 .skip))
 (D lg
 (D li
 (D lj
 .ret)))))),
 [0,.c 1 true 5,.c 2 true 5,3]⟩
theorem lp:ck0 true [(6,⟨[0,1,2,3],[],[],[],[(18,(.hide [1,2])),(23,(.plain 2)),(22,(.plain 1)),(3,(.hide [1]))],[]⟩)] Lx f48=some Lx:=by kernel_rfl
def lq:=R [0,1] [I 4 (.mv (.v .nilmap)),K 5 0]
def lu:=R [0,1,17] [M 16 0,I 17 (.eqs false 3 [] 16 (.v .nilptr))]
def lw:=R [4,5] [I 4 (.mv (.v .nilmap)),K 5 1]
def lx:=R [0,1,18,19,20] [M 18 1,w6 19 1 18,K 20 0]
def ly:=R [0,1,18,19,20,21] [B 21 .lss 20 19]
def lz:=R [0,1,7,18,19,20] [w8 22 5 18 20,T 23 5 22,I 7 (.box (.v ZR)),N 5 7 23]
def l_:=R [0,1,8,18,19,20] [M 24 0,T 25 5 7,j8 26 Xn [24,25],M 8 26]
def mA:=R [0,1,8,18,19,20,28] [M 27 8,W 28 .neq 27 0]
def mB:=R [4,5] [M 29 8,I 4 (.mv (.v .nilmap)),M 5 29]
def mC:=R [0,1,18,19,20] [W 30 .add 20 1,M 20 30]
def mD:PC:=(D ly
 (D (E 21
 .skip
 (.exit 0))
 (D (.block 1
 (D lz
 (D l_
 (D mA
 (E 28
 (D mB
 .ret)
 .skip)))))
 mC)))
def mE:=R [0,1,9] [I 31 (.mkmap),M 9 31]
def mF:=R [0,9,32,33,34] [M 32 1,w6 33 1 32,K 34 0]
def mG:=R [0,9,32,33,34,35] [B 35 .lss 34 33]
def mH:=R [0,9,11,32,33,34] [w8 36 5 32 34,T 37 5 36,I 11 (.box (.v ZR)),N 5 11 37]
def mI:=R [0,9,12,13,32,33,34] [M 39 0,T 40 5 11,j8 41 HY [39,40],M 38 41,X 42 38 0,X 43 38 1,M 12 42,M 13 43]
def mJ:=R [0,9,12,13,32,33,34,45] [M 44 13,W 45 .neq 44 0]
def mK:=R [4,5] [M 46 13,I 4 (.mv (.v .nilmap)),M 5 46]
def mL:=R [0,9,32,33,34,47,48,49] [M 47 12,w6 48 1 47,K 49 0]
def mM:=R [0,9,32,33,34,47,48,49,50] [B 50 .lss 49 48]
def mN:=R [0,9,15,32,33,34,47,48,49] [w8 51 1 47 49,L 52 51,M 15 52]
def mO:=R [0,9,32,33,34,47,48,49] [M 53 9,M 54 15,I 55 (.look 0 j7 false 53 54),W 56 .add 55 1,J (.mupd 0 53 54 56)]
def mP:=R [0,9,32,33,34,47,48,49] [W 57 .add 49 1,M 49 57]
def mQ:PC:=(D mM
 (D (E 50
 .skip
 (.exit 4))
 (D (.block 5
 (D mN
 mO))
 mP)))
def mR:=R [0,9,32,33,34] [W 58 .add 34 1,M 34 58]
def mS:PC:=(D mG
 (D (E 35
 .skip
 (.exit 2))
 (D (.block 3
 (D mH
 (D mI
 (D (D mJ
 (E 45
 (D mK
 .ret)
 .skip))
 (D mL
 (.block 4
 (.loop mQ)))))))
 mR)))
def mT:=R [4,5] [M 59 9,M 4 59,K 5 0]
def Ly:PF:=⟨true,
 (D lq
 (D (D lu
 (E 17
 (D lw
 .ret)
 .skip))
 (D (D lx
 (.block 0
 (.loop mD)))
 (D mE
 (D (D mF
 (.block 2
 (.loop mS)))
 (D mT
 .ret)))))),
 [4,5]⟩
theorem mU:ck0 true [] Ly f49=some Ly:=by kernel_rfl
def mV:=R [0] [I 2 (.mv j6)]
def mW:=R [0,3] [I 3 (.onil 1)]
def mX:=R [0,3,9,10,11] [M 8 0,j8 9 Jv [8,(.v (.int .u8 1))],w6 10 1 9,K 11 0]
def mY:=R [0,3,9,10,11,12] [B 12 .lss 11 10]
def mZ:=R [0,3,5,9,10,11] [w8 13 1 9 11,L 14 13,M 5 14]
def ma:=R [0,3,6,9,10,11] [M 16 5,M 17 0,I 18 (.nilck 17),F 19 2 18,L 20 19,M 21 5,w8 22 1 20 21,L 23 22,j8 24 He [16,23],M 15 24,X 25 15 0,X 26 15 1,M 6 25,M 7 26]
def mc:=R [0,3,9,10,11] [M 27 3,M 28 6,I 29 (.bslice false 1 [(.int .u64 0)] [(0,28)]),I 30 (.app 1 8 27 29),M 3 30]
def md:=R [0,3,9,10,11] [W 31 .add 11 1,M 11 31]
def me:PC:=(D mY
 (D (E 12
 .skip
 (.exit 0))
 (D (.block 1
 (D mZ
 (D ma
 mc)))
 md)))
def mf:=R [2] [M 32 3,M 2 32]
def Lz:PF:=⟨false,
 (D mV
 (D mW
 (D (D mX
 (.block 0
 (.loop me)))
 (D mf
 .ret)))),
 [2]⟩
theorem mh:ck0 false [(1,⟨[0,3],[0],[],[],[],[]⟩)] Lz f51=some Lz:=by kernel_rfl
def mi:=R [0] [I 2 (.mv j6),I 3 (.mv j6)]
def mj:=R [0,5] [M 4 0,I 5 (.eqs false 3 [] 4 (.v .nilptr))]
def mm:=R [2,3] [I 2 (.mv j6),I 3 (.mv j6)]
def mn:=R [2,3] [M 6 0,I 7 (.nilck 6),F 8 1 7,L 9 8,I 10 (.call .pure (.v (.func (.func J4) [] [])) [9]),M 11 0,I 12 (.nilck 11),F 13 1 12,L 14 13,j8 15 Q9 [14],M 2 10,M 3 15]
def L5:PF:=⟨false,
 (D mi
 (D (D mj
 (E 5
 (D mm
 .ret)
 .skip))
 (D mn
 .ret))),
 [2,3]⟩
theorem mo:ck0 false [(3,⟨[2,3],[],[(4,.pure)],[],[],[]⟩)] L5 f53=some L5:=by kernel_rfl
def mp:=R [0] [I 2 (.mv j6)]
def mq:=R [0,7] [M 6 0,I 7 (.eqs false 3 [] 6 (.v .nilptr))]
def mu:=R [2] [I 2 (.mv j6)]
def mz:=R [0,3] [M 8 0,I 9 (.nilck 8),F 10 0 9,L 11 10,w6 12 1 11,I 13 (.mkslice 1 8 j7 12 12),M 3 13]
def m_:=R [3] [M 14 3,M 15 0,I 16 (.nilck 15),F 17 0 16,L 18 17,I 19 (.cpy 1 14 18)]
def nA:=R [3,4,5] [M 20 3,w6 21 1 20,W 22 .sub 21 1,K 4 0,M 5 22]
def nB:=R [3,4,5,25] [M 23 4,M 24 5,B 25 .lss 23 24]
def nC:=R [3,4,5] [M 30 3,M 31 4,M 32 3,M 33 5,M 34 3,M 35 5,w8 36 1 34 35,L 37 36,M 38 3,M 39 4,w8 40 1 38 39,L 41 40,w8 42 1 30 31,N 1 42 37,w8 43 1 32 33,N 1 43 41]
def nD:=R [3,4,5] [M 26 4,W 27 .add 26 1,M 28 5,W 29 .sub 28 1,M 4 27,M 5 29]
def nE:PC:=(D (D nB
 (E 25
 .skip
 (.exit 0)))
 (D (.block 1
 nC)
 nD))
def nF:=R [2] [M 44 3,M 2 44]
def L6:PF:=⟨false,
 (D mp
 (D (D mq
 (E 7
 (D mu
 .ret)
 .skip))
 (D mz
 (D m_
 (D (D nA
 (.block 0
 (.loop nE)))
 (D nF
 .ret)))))),
 [2]⟩
theorem nG:ck0 false [] L6 f54=some L6:=by kernel_rfl
def nH:=R [0] [I 2 (.mv j6)]
def nI:=R [2] [M 3 0,j8 4 Jv [3,(.v (.int .u8 2))],M 2 4]
def Xv:PF:=⟨false,
 (D nH
 (D nI
 .ret)),
 [2]⟩
theorem nJ:ck0 false [] Xv f55=some Xv:=by kernel_rfl
def nK:=R [0] [I 2 (.mv j6)]
def nL:=R [0,3] [I 3 (.onil 1)]
def nM:=R [0,3,4] [K 4 0]
def nN:=R [0,3,4,8] [M 5 4,M 6 0,w6 7 1 6,B 8 .lss 5 7]
def nO:=R [0,3,4,17] [M 11 3,M 12 0,M 13 4,w8 14 1 12 13,L 15 14,j8 16 J3 [11,15],I 17 (.un .not 16)]
def nP:=R [0,3,4] [M 18 3,M 19 0,M 20 4,w8 21 1 19 20,L 22 21,I 23 (.bslice false 1 [(.int .u64 0)] [(0,22)]),I 24 (.app 1 8 18 23),M 3 24]
def nQ:=R [0,3,4] [M 9 4,W 10 .add 9 1,M 4 10]
def nR:PC:=(D (D nN
 (E 8
 .skip
 (.exit 0)))
 (D (.block 1
 (D nO
 (E 17
 nP
 .skip)))
 nQ))
def nS:=R [2] [M 25 3,M 2 25]
def L7:PF:=⟨false,
 (D nK
 (D nL
 (D (D nM
 (.block 0
 (.loop nR)))
 (D nS
 .ret)))),
 [2]⟩
theorem nT:ck0 false [(1,⟨[0,3],[0],[],[],[],[]⟩)] L7 f56=some L7:=by kernel_rfl
def nU:=R [0,1] [I 4 (.mv j0),K 5 0]
def nV:=R [0,1,9] [M 8 0,I 9 (.eqs false 3 [] 8 (.v .nilptr))]
def nW:=R [4,5] [I 4 (.mv j0),K 5 1]
def nX:=R [0,6,7] [M 11 0,M 12 1,j8 13 J7 [11,12],M 10 13,X 14 10 0,X 15 10 1,M 6 14,M 7 15]
def nY:=R [0,6,17] [M 16 7,I 17 (.un .not 16)]
def nZ:=R [4,5] [I 4 (.mv j0),K 5 10]
def nf:=R [0,6,29] [M 18 0,I 19 (.nilck 18),F 20 2 19,L 21 20,M 22 6,w8 23 1 21 22,L 24 23,M 25 0,I 26 (.nilck 25),F 27 3 26,L 28 27,B 29 .eql 24 28]
def ng:=R [] [M 30 0,I 31 (.nilck 30),F 32 1 31,L 33 32,M 34 6,w8 35 1 33 34,J (.st 1 35 (.v (.int .u8 2)))]
def nh:=R [4,5] [I 4 (.mv k9),K 5 0]
def ni:=R [0,6] [M 36 0,I 37 (.nilck 36),F 38 2 37,L 39 38,M 40 6,w8 41 1 39 40,L 42 41,I 43 (.bin .add 42 (.v (.int .u64 1))),w8 44 1 39 40,N 1 44 43]
def nj:=R [0,6] [M 45 0,I 46 (.nilck 45),F 47 1 46,L 48 47,M 49 6,w8 50 1 48 49,J (.st 1 50 (.v (.int .u8 0)))]
def nm:=R [] [M 51 0,M 52 0,I 53 (.nilck 52),F 54 0 53,L 55 54,M 56 6,I 57 (.bslice false 1 [j7] [(0,56)]),I 58 (.app 1 8 55 57),I 59 (.nilck 51),F 60 0 59,N 1 60 58]
def no:=R [4,5] [I 4 (.mv j0),K 5 0]
def L8:PF:=⟨false,
 (D nU
 (D (D nV
 (E 9
 (D nW
 .ret)
 .skip))
 (D nX
 (D (D nY
 (E 17
 (D nZ
 .ret)
 .skip))
 (D (D nf
 (E 29
 (D ng
 (D nh
 .ret))
 .skip))
 (D ni
 (D nj
 (D nm
 (D no
 .ret))))))))),
 [4,5]⟩
theorem np:ck0 false [] L8 f57=some L8:=by kernel_rfl
def nq:=R [0,3,20] [w7 3 1,I 4 (.mv j6),K 5 0]
def nr:=R [0,3,6,20] [M 10 0,T 11 5 3,j8 12 Xn [10,11],M 6 12]
def nu:=R [0,3,6,14,20] [M 13 6,W 14 .neq 13 0]
def nv:=R [4,5] [M 15 6,I 4 (.mv j6),M 5 15]
def ny:=R [0,3,7,20] [I 7 (.boxnil 1)]
def n_:=R [7,18,20] [M 16 0,T 17 5 3,j8 18 Fd [16,17]]
def oA:=R [7,9] [I 9 (.box (.v (.agg [j7,(.str []),.nils,j7]))),N 4 9 20]
def oC:=R [7,9,24] [F 21 0 9,F 22 0 21,L 23 22,W 24 .eql 23 0]
def oD:=R [7] [L 25 7,F 26 0 9,F 27 1 26,L 28 27,I 29 (.bslice false 1 [(.str [])] [(0,28)]),I 30 (.app 1 16 25 29),N 1 7 30]
def oE:=R [4,5] [L 31 7,M 4 31,K 5 0]
def p_rope_Leaves:RF:=⟨32,
 (D nq
 (D (D nr
 (D nu
 (E 14
 (D nv
 .ret)
 .skip)))
 (D ny
 (D n_
 .skip)))),
 ⟨18,[19,20],
 oA,
 (.block 1
 (D oC
 (E 24
 oD
 .skip)))⟩,
 (D .skip
 (D oE
 .ret)),
 [4,5]⟩
theorem oF:FW Proofs.Tryz.prog (h0R [(4,⟨[0,3,7,20],[0],[],[],[],[]⟩)] p_rope_Leaves) f58=some p_rope_Leaves:=by kernel_rfl
def oG:=R [0,1] [I 4 (.mv (.v .nilptr)),K 5 0]
def oH:=R [0,6,7] [M 9 0,M 10 1,j8 11 LJ [9,10],M 8 11,X 12 8 0,X 13 8 1,M 6 12,M 7 13]
def oI:=R [0,6,7,15] [M 14 7,W 15 .neq 14 0]
def oK:=R [4,5] [M 16 7,I 4 (.mv (.v .nilptr)),M 5 16]
def oL:=R [4,5] [M 17 0,M 18 6,I 19 (.mkmap),I 20 (.build [j7,.nilptr,.nilmap,j7,j7,j7] [(0,1,17),(1,1,18),(2,1,19)]),w7 21 20,M 4 21,K 5 0]
def L9:PF:=⟨true,
 (D oG
 (D oH
 (D (D oI
 (E 15
 (D oK
 .ret)
 .skip))
 (D oL
 .ret)))),
 [4,5]⟩
theorem oN:ck0 true [] L9 f59=some L9:=by kernel_rfl
def oO:=R [0,1,4] [I 4 (.box (.v ZR)),K 5 0]
def oP:=R [0,1,4,11] [M 10 0,I 11 (.eqs false 3 [] 10 (.v .nilptr))]
def oQ:=R [4,5] [I 12 (.build [(.int .u64 0),j7,j7,j7,j7] []),N 5 4 12,K 5 1]
def oR:=R [0,4,6,7] [M 14 1,j8 15 Ff [14],M 13 15,X 16 13 0,X 17 13 1,I 6 (.box (.v ZT)),N 7 6 16,M 7 17]
def oT:=R [0,4,6,7,19] [M 18 7,W 19 .neq 18 0]
def oU:=R [4,5] [I 20 (.build [(.int .u64 0),j7,j7,j7,j7] []),M 21 7,N 5 4 20,M 5 21]
def oW:=R [4,7,8] [M 23 0,T 24 7 6,j8 25 Xm [23,24],M 22 25,X 26 22 0,X 27 22 1,X 28 22 2,I 8 (.box (.v ZR)),N 5 8 26,M 9 27,M 7 28]
def oX:=R [4,5] [T 29 5 8,M 30 7,N 5 4 29,M 5 30]
def L_:PF:=⟨false,
 (D oO
 (D (D oP
 (E 11
 (D oQ
 .ret)
 .skip))
 (D oR
 (D (D oT
 (E 19
 (D oU
 .ret)
 .skip))
 (D oW
 (D oX
 .ret)))))),
 [.c 4 true 5,5]⟩
theorem oZ:ck0 false [] L_ f60=some L_:=by kernel_rfl
def oa:=R [0,3,4] [w7 3 1,I 4 (.box (.v ZT)),K 5 0]
def oe:=R [0,3,4,8] [M 7 0,I 8 (.eqs false 3 [] 7 (.v .nilptr))]
def og:=R [4,5] [I 9 (.build [(.int .u64 0),j7,j7,j7,j7,(.str []),.nils] []),N 7 4 9,K 5 1]
def oh:=R [0,3,4,12] [T 10 5 3,I 11 (.build [(.int .u64 0),j7,j7,j7,j7] []),I 12 (.eqs false 0 [(0,0),(1,0),(2,0),(3,0),(4,0)] 10 11)]
def oi:=R [4,5] [I 13 (.build [(.int .u64 0),j7,j7,j7,j7,(.str []),.nils] []),N 7 4 13,K 5 0]
def ol:=R [0,3,4,16] [F 14 0 3,L 15 14,I 16 (.bin .eql 15 (.v (.int .u64 0)))]
def om:=R [4,5] [I 17 (.build [(.int .u64 0),j7,j7,j7,j7,(.str []),.nils] []),N 7 4 17,K 5 2]
def oq:=R [3,4,6] [M 18 0,F 19 0 3,L 20 19,F 21 1 3,L 22 21,F 23 2 3,T 24 3 23,j8 25 Hf [18,20,22,24],M 6 25]
def ot:=R [3,4,6,27] [M 26 6,W 27 .neq 26 0]
def ou:=R [4,5] [I 28 (.build [(.int .u64 0),j7,j7,j7,j7,(.str []),.nils] []),M 29 6,N 7 4 28,M 5 29]
def ow:=R [4,5] [F 30 0 3,L 31 30,F 32 1 3,L 33 32,F 34 2 3,T 35 3 34,I 36 (.build [(.int .u64 0),j7,j7,j7,j7,(.str []),.nils] [(0,1,31),(1,1,33),(2,3,35)]),N 7 4 36,K 5 0]
def MA:PF:=⟨false,
 (D oa
 (D (D oe
 (E 8
 (D og
 .ret)
 .skip))
 (D (D oh
 (E 12
 (D oi
 .ret)
 .skip))
 (D (D ol
 (E 16
 (D om
 .ret)
 .skip))
 (D (D oq
 (D ot
 (E 27
 (D ou
 .ret)
 .skip)))
 (D ow
 .ret)))))),
 [.c 4 true 7,5]⟩
theorem oz:ck0 false [] MA f61=some MA:=by kernel_rfl
def o_:=R [0,4,5] [w7 4 1,w7 5 2,I 6 (.mv j6),K 7 0]
def pA:=R [0,4,5,9] [M 18 0,T 19 5 4,j8 20 Yd [18,19],M 17 20,X 21 17 0,X 22 17 1,I 8 (.box (.v ZT)),N 7 8 21,M 9 22]
def pB:=R [0,4,5,9,24] [M 23 9,W 24 .neq 23 0]
def pC:=R [6,7] [M 25 9,I 6 (.mv j6),M 7 25]
def pD:=R [0,4,5,10] [M 26 0,T 27 7 5,j8 28 J6 [26,27],M 10 28]
def pE:=R [0,4,5,10,30] [M 29 10,W 30 .neq 29 0]
def pF:=R [6,7] [M 31 10,I 6 (.mv j6),M 7 31]
def pG:=R [0,4,5,11] [I 32 (.mkmap),I 11 (.box (.v .nilmap)),N 1 11 32]
def pH:=R [0,4,11,34,35,36] [T 33 7 5,j8 34 LK [33],w6 35 1 34,K 36 0]
def pI:=R [0,4,11,34,35,36,37] [B 37 .lss 36 35]
def pJ:=R [0,4,11,13,34,35,36] [w8 38 1 34 36,L 39 38,M 13 39]
def pK:=R [0,4,11,14,34,35,36] [M 40 0,M 41 13,L 42 11,I 43 (C JN [40,41,42,(.v (.func (.func YT) [] []))]),M 14 43]
def pL:=R [0,4,11,14,34,35,36,45] [M 44 14,W 45 .neq 44 0]
def pM:=R [6,7] [M 46 14,I 6 (.mv j6),M 7 46]
def pN:=R [0,4,11,34,35,36] [W 47 .add 36 1,M 36 47]
def pO:PC:=(D pI
 (D (E 37
 .skip
 (.exit 0))
 (D (.block 1
 (D pJ
 (D pK
 (D pL
 (E 45
 (D pM
 .ret)
 .skip)))))
 pN)))
def pP:=R [0,4,11,15] [I 15 (.boxnil 1)]
def pQ:=R [0,4,11,15,50] [F 48 0 4,L 49 48,I 50 (.bin .eql 49 (.v (.int .u64 0)))]
def pR:=R [6,7] [I 6 (.mv j6),K 7 0]
def pS:=R [15,16] [M 51 0,F 52 0 4,L 53 52,I 54 (.mkmap),I 55 (.mkf (.func YU) [] [11,15]),j8 56 JN [51,53,54,55],M 16 56]
def pT:=R [15,16,58] [M 57 16,W 58 .neq 57 0]
def pU:=R [6,7] [M 59 16,I 6 (.mv j6),M 7 59]
def pV:=R [6,7] [L 60 15,M 6 60,K 7 0]
def MB:PF:=⟨false,
 (D o_
 (D (D pA
 (D pB
 (E 24
 (D pC
 .ret)
 .skip)))
 (D (D pD
 (D pE
 (E 30
 (D pF
 .ret)
 .skip)))
 (D pG
 (D (D pH
 (.block 0
 (.loop pO)))
 (D pP
 (D (D pQ
 (E 50
 (D pR
 .ret)
 .skip))
 (D pS
 (D (D pT
 (E 58
 (D pU
 .ret)
 .skip))
 (D pV
 .ret)))))))))),
 [6,7]⟩
theorem pW:ck0 false [(15,⟨[0,4,11,15],[0],[],[],[],[]⟩)] MB f64=some MB:=by kernel_rfl
def pX:=R [0,2] [I 2 (.box (.v ZT)),K 3 0]
def pY:=R [0,2,14] [M 12 0,w6 13 0 12,W 14 .gtr 13 65536]
def pZ:=R [2,3] [I 15 (.build [(.int .u64 0),j7,j7,j7,j7,(.str []),.nils] []),N 7 2 15,K 3 5]
def pd:=R [0,2,4] [I 4 (.onil 7)]
def pe:=R [2,4,17,18,19] [M 16 0,j8 17 LL [16],w6 18 1 17,K 19 0]
def pg:=R [2,4,17,18,19,20] [B 20 .lss 19 18]
def ph:=R [2,4,6,17,18,19] [w8 21 1 17 19,L 22 21,M 6 22]
def pj:=R [2,4,17,18,19] [M 23 4,M 24 6,I 25 (.build [(.int .u64 0),j7,j7,j7,j7,(.str []),.nils] [(5,1,24)]),I 26 (.bslice false 7 [ZT] [(0,25)]),I 27 (.app 7 80 23 26),M 4 27]
def pk:=R [2,4,17,18,19] [W 28 .add 19 1,M 19 28]
def pq:PC:=(D pg
 (D (E 20
 .skip
 (.exit 0))
 (D (.block 1
 (D ph
 pj))
 pk)))
def pr:=R [2,4,31] [M 29 4,w6 30 1 29,W 31 .gtr 30 1]
def pt:=R [2,4,7,8] [M 33 4,w6 34 1 33,j8 35 LM [34,(V 4)],M 32 35,X 36 32 0,X 37 32 1,M 7 36,M 8 37]
def pu:=R [2,4,7,8,39] [M 38 8,W 39 .neq 38 0]
def pw:=R [2,3] [I 40 (.build [(.int .u64 0),j7,j7,j7,j7,(.str []),.nils] []),M 41 8,N 7 2 40,M 3 41]
def pz:=R [2,4,7,9] [I 9 (.onil 7)]
def p_:=R [2,4,9,42,43,44] [M 42 7,w6 43 1 42,K 44 0]
def qA:=R [2,4,9,42,43,44,45] [B 45 .lss 44 43]
def qB:=R [2,4,9,11,42,43,44] [w8 46 1 42 44,L 47 46,M 11 47]
def qC:=R [2,4,9,11,42,43,44] [M 48 9,M 49 4,M 50 11,I 51 (.slc 7 49 none (some 50)),j8 52 QC [51],I 53 (.bslice false 7 [ZT] [(0,52)]),I 54 (.app 7 80 48 53),M 9 54]
def qD:=R [2,4,9,42,43,44] [M 55 4,M 56 11,I 57 (.slc 7 55 (some 56) none),M 4 57]
def qE:=R [2,4,9,42,43,44] [W 58 .add 44 1,M 44 58]
def qF:PC:=(D qA
 (D (E 45
 .skip
 (.exit 4))
 (D (.block 5
 (D qB
 (D qC
 qD)))
 qE)))
def qG:=R [2,4] [M 59 9,M 4 59]
def Sn:PC:=(D (D pr
 (E 31
 .skip
 (.exit 2)))
 (.block 3
 (D pt
 (D (D pu
 (E 39
 (D pw
 .ret)
 .skip))
 (D pz
 (D (D p_
 (.block 4
 (.loop qF)))
 qG))))))
def So:=R [2,3] [M 60 4,j8 61 QC [60],N 7 2 61,K 3 0]
def MC:PF:=⟨false,
 (D pX
 (D (D pY
 (E 14
 (D pZ
 .ret)
 .skip))
 (D pd
 (D (D pe
 (.block 0
 (.loop pq)))
 (D (.block 2
 (.loop Sn))
 (D So
 .ret)))))),
 [.c 2 true 7,3]⟩
theorem qH:ck0 false [(3,⟨[0,2,4],[0],[],[],[],[]⟩),(13,⟨[2,4,7,9],[0],[],[],[],[]⟩)] MC f65=some MC:=by kernel_rfl
def qI:=R [0,2,3,4,6,10] [w7 6 1,I 10 (.box (.v ZT)),K 11 0]
def qJ:=R [0,2,3,4,6,10,12] [M 20 0,T 21 7 6,j8 22 J6 [20,21],M 12 22]
def qK:=R [0,2,3,4,6,10,12,24] [M 23 12,W 24 .neq 23 0]
def qL:=R [10,11] [I 25 (.build [(.int .u64 0),j7,j7,j7,j7,(.str []),.nils] []),M 26 12,N 7 10 25,M 11 26]
def qM:=R [0,2,3,4,6,10,13] [T 27 7 6,j8 28 Qj [27],M 13 28]
def qN:=R [0,2,3,4,6,10,13,46] [M 29 2,W 30 .lss 29 0,M 31 30,U 32 31 false 2,U 33 31 false 13,w5 34 31 false .gtr 32 33,j9 35 31 k9 34,M 36 35,U 37 36 false 3,w5 38 36 false .lss 37 (V 0),j9 39 36 k9 38,M 40 39,U 41 40 false 3,U 42 40 false 13,U 43 40 false 2,w5 44 40 false .sub 42 43,w5 45 40 false .gtr 41 44,j9 46 40 k9 45]
def qO:=R [10,11] [I 47 (.build [(.int .u64 0),j7,j7,j7,j7,(.str []),.nils] []),N 7 10 47,K 11 3]
def qP:=R [0,2,3,4,6,10,60] [M 48 13,M 49 3,B 50 .sub 48 49,M 51 4,w6 52 0 51,I 53 (.mnx false 52 (V 65536)),I 54 (.bin .sub (V 65536) 53),B 55 .gtr 50 54,M 56 55,U 57 56 false 4,G 58 56 false (.len 0 57),w5 59 56 false .gtr 58 (V 65536),j9 60 56 k9 59]
def qQ:=R [10,11] [I 61 (.build [(.int .u64 0),j7,j7,j7,j7,(.str []),.nils] []),N 7 10 61,K 11 5]
def qR:=R [0,2,3,4,6,10,67] [M 62 3,W 63 .eql 62 0,M 64 63,U 65 64 true 4,G 66 64 true (.bin .eql 65 (.v (.str []))),j9 67 64 66 j0]
def qS:=R [10,11] [T 68 7 6,j8 69 Fg [68],N 7 10 69,K 11 0]
def qT:=R [0,3,4,10,14,15,16] [M 71 0,T 72 7 6,M 73 2,j8 74 EU [71,72,73],M 70 74,X 75 70 0,X 76 70 1,X 77 70 2,I 14 (.box (.v ZT)),I 15 (.box (.v ZT)),N 7 14 75,N 7 15 76,M 16 77]
def qU:=R [0,3,4,10,14,15,16,79] [M 78 16,W 79 .neq 78 0]
def qV:=R [10,11] [I 80 (.build [(.int .u64 0),j7,j7,j7,j7,(.str []),.nils] []),M 81 16,N 7 10 80,M 11 81]
def qW:=R [0,4,10,14,16,18] [M 83 0,T 84 7 15,M 85 3,j8 86 EU [83,84,85],M 82 86,X 87 82 0,X 88 82 1,X 89 82 2,I 17 (.box (.v ZT)),I 18 (.box (.v ZT)),N 7 17 87,N 7 18 88,M 16 89]
def qX:=R [0,4,10,14,16,18,91] [M 90 16,W 91 .neq 90 0]
def qY:=R [10,11] [I 92 (.build [(.int .u64 0),j7,j7,j7,j7,(.str []),.nils] []),M 93 16,N 7 10 92,M 11 93]
def qZ:=R [0,10,14,16,18,19] [M 95 4,j8 96 Ff [95],M 94 96,X 97 94 0,X 98 94 1,I 19 (.box (.v ZT)),N 7 19 97,M 16 98]
def qa:=R [0,10,14,16,18,19,100] [M 99 16,W 100 .neq 99 0]
def qb:=R [10,11] [I 101 (.build [(.int .u64 0),j7,j7,j7,j7,(.str []),.nils] []),M 102 16,N 7 10 101,M 11 102]
def qc:=R [0,10,14,16,18] [M 104 0,T 105 7 14,T 106 7 19,j8 107 Yx [104,105,106],M 103 107,X 108 103 0,X 109 103 1,N 7 14 108,M 16 109]
def qd:=R [0,10,14,16,18,111] [M 110 16,W 111 .neq 110 0]
def qe:=R [10,11] [I 112 (.build [(.int .u64 0),j7,j7,j7,j7,(.str []),.nils] []),M 113 16,N 7 10 112,M 11 113]
def qf:=R [10,14,16] [M 115 0,T 116 7 14,T 117 7 18,j8 118 Yx [115,116,117],M 114 118,X 119 114 0,X 120 114 1,N 7 14 119,M 16 120]
def qg:=R [10,11] [T 121 7 14,j8 122 Fg [121],M 123 16,N 7 10 122,M 11 123]
def MD:PF:=⟨false,
 (D qI
 (D (D qJ
 (D qK
 (E 24
 (D qL
 .ret)
 .skip)))
 (D qM
 (D (D qN
 (E 46
 (D qO
 .ret)
 .skip))
 (D (D qP
 (E 60
 (D qQ
 .ret)
 .skip))
 (D (D qR
 (E 67
 (D qS
 .ret)
 .skip))
 (D qT
 (D (D qU
 (E 79
 (D qV
 .ret)
 .skip))
 (D qW
 (D (D qX
 (E 91
 (D qY
 .ret)
 .skip))
 (D qZ
 (D (D qa
 (E 100
 (D qb
 .ret)
 .skip))
 (D (D qc
 (D qd
 (E 111
 (D qe
 .ret)
 .skip)))
 (D qf
 (D qg
 .ret))))))))))))))),
 [.c 10 true 7,11]⟩
theorem qh:ck0 false [] MD f66=some MD:=by kernel_rfl
def qi:=R [0,3] [w7 3 1,K 4 0]
def qj:=R [0,3,7] [M 6 0,I 7 (.eqs false 3 [] 6 (.v .nilptr))]
def ql:=R [4] [K 4 1]
def qm:=R [0,3,10] [T 8 7 3,j8 9 QW [8],W 10 .eql 9 1]
def qn:=R [4] [K 4 0]
def qo:=R [3,5] [M 11 0,T 12 7 3,j8 13 Hg [11,12,j0,(V 0)],M 5 13]
def qp:=R [3,5,15] [M 14 5,W 15 .neq 14 0]
def qq:=R [4] [M 16 5,M 4 16]
def qt:=R [19] [T 17 7 3,j8 18 Qj [17],W 19 .gtr 18 65536]
def qu:=R [4] [K 4 5]
def qv:=R [4] [K 4 0]
def ME:PF:=⟨false,
 (D qi
 (D (D qj
 (E 7
 (D ql
 .ret)
 .skip))
 (D (D qm
 (E 10
 (D qn
 .ret)
 .skip))
 (D (D qo
 (D qp
 (E 15
 (D qq
 .ret)
 .skip)))
 (D (D qt
 (E 19
 (D qu
 .ret)
 .skip))
 (D qv
 .ret)))))),
 [4]⟩
theorem qw:ck0 false [] ME f67=some ME:=by kernel_rfl
def qx:=R [1,2,3,4] [w7 4 0,K 5 0]
def qy:=R [1,2,3,4,15] [F 13 1 4,L 14 13,W 15 .eql 14 0]
def qz:=R [2,6,7] [L 17 1,T 18 7 4,j8 19 ET [17,18],M 16 19,X 20 16 0,X 21 16 1,M 6 20,M 7 21]
def q_:=R [7] [L 22 2,M 23 6,I 24 (.app 1 1 22 23),N 1 2 24]
def rA:=R [5] [M 25 7,M 5 25]
def rB:=R [3,8,9] [L 27 1,T 28 7 4,j8 29 Jz [27,28],M 26 29,X 30 26 0,X 31 26 1,M 8 30,M 9 31]
def rC:=R [3,8,9,33] [M 32 9,W 33 .neq 32 0]
def rD:=R [5] [M 34 9,M 5 34]
def rE:=R [3,35,36,37] [M 35 8,w6 36 1 35,K 37 0]
def rF:=R [3,35,36,37,38] [B 38 .lss 37 36]
def rG:=R [3,11,35,36,37] [w8 39 7 35 37,T 40 7 39,I 11 (.box (.v ZT)),N 7 11 40]
def rH:=R [3,12,35,36,37] [L 41 3,T 42 7 11,I 43 (.call .norm 41 [42]),M 12 43]
def rI:=R [3,12,35,36,37,45] [M 44 12,W 45 .neq 44 0]
def rJ:=R [5] [M 46 12,M 5 46]
def rK:=R [3,35,36,37] [W 47 .add 37 1,M 37 47]
def rL:PC:=(D rF
 (D (E 38
 .skip
 (.exit 0))
 (D (.block 1
 (D rG
 (D rH
 (D rI
 (E 45
 (D rJ
 .ret)
 .skip)))))
 rK)))
def rM:=R [5] [K 5 0]
def MF:PF:=⟨false,
 (D qx
 (D (D qy
 (E 15
 (D qz
 (D q_
 (D rA
 .ret)))
 .skip))
 (D rB
 (D (D rC
 (E 33
 (D rD
 .ret)
 .skip))
 (D (D rE
 (.block 0
 (.loop rL)))
 (D rM
 .ret)))))),
 [5]⟩
theorem rN:ck0 false [] MF f68=some MF:=by kernel_rfl
def rO:=R [0,3] [w7 3 1,I 4 (.mv (.v (.str []))),K 5 0]
def rP:=R [0,3,10] [F 8 0 3,L 9 8,I 10 (.bin .eql 9 (.v (.int .u64 0)))]
def rQ:=R [4,5] [F 11 5 3,L 12 11,M 4 12,K 5 0]
def rR:=R [6,7] [M 14 0,F 15 0 3,L 16 15,j8 17 QX [14,16],M 13 17,X 18 13 0,X 19 13 1,I 6 (.box (.v ZN)),N 3 6 18,M 7 19]
def rS:=R [4,5] [F 20 1 6,L 21 20,M 22 7,M 4 21,M 5 22]
def MG:PF:=⟨false,
 (D rO
 (D (D rP
 (E 10
 (D rQ
 .ret)
 .skip))
 (D rR
 (D rS
 .ret)))),
 [4,5]⟩
theorem rT:ck0 false [] MG f69=some MG:=by kernel_rfl
def rU:=R [0,3] [w7 3 1,I 4 (.mv j6),K 5 0]
def rV:=R [0,3,13] [F 11 0 3,L 12 11,I 13 (.bin .eql 12 (.v (.int .u64 0)))]
def rW:=R [4,5] [F 14 6 3,L 15 14,M 4 15,K 5 0]
def rX:=R [6,7] [M 17 0,F 18 0 3,L 19 18,j8 20 QX [17,19],M 16 20,X 21 16 0,X 22 16 1,I 6 (.box (.v ZN)),N 3 6 21,M 7 22]
def rY:=R [6,7,24] [M 23 7,W 24 .neq 23 0]
def rZ:=R [4,5] [M 25 7,I 4 (.mv j6),M 5 25]
def ri:=R [6,8] [I 8 (.onil 7)]
def rl:=R [6,8,27,28,29] [F 26 2 6,L 27 26,w6 28 1 27,K 29 0]
def rn:=R [6,8,27,28,29,30] [B 30 .lss 29 28]
def rq:=R [6,8,10,27,28,29] [w8 31 4 27 29,T 32 4 31,I 10 (.box (.v ZK)),N 4 10 32]
def ru:=R [6,8,27,28,29] [M 33 8,F 34 0 10,L 35 34,F 36 0 6,L 37 36,W 38 .sub 37 1,F 39 1 10,T 40 3 39,I 41 (.build [(.int .u64 0),j7,j7,j7,j7,(.str []),.nils] [(0,1,35),(1,1,38),(2,3,40)]),I 42 (.bslice false 7 [ZT] [(0,41)]),I 43 (.app 7 80 33 42),M 8 43]
def ry:=R [6,8,27,28,29] [W 44 .add 29 1,M 29 44]
def Sq:PC:=(D rn
 (D (E 30
 .skip
 (.exit 0))
 (D (.block 1
 (D rq
 ru))
 ry)))
def rz:=R [8,47] [M 45 8,w6 46 1 45,W 47 .eql 46 0]
def r_:=R [4,5] [I 4 (.mv j6),K 5 23]
def sA:=R [4,5] [M 48 8,M 4 48,K 5 0]
def MH:PF:=⟨false,
 (D rU
 (D (D rV
 (E 13
 (D rW
 .ret)
 .skip))
 (D rX
 (D (D rY
 (E 24
 (D rZ
 .ret)
 .skip))
 (D ri
 (D (D rl
 (.block 0
 (.loop Sq)))
 (D (D rz
 (E 47
 (D r_
 .ret)
 .skip))
 (D sA
 .ret)))))))),
 [4,5]⟩
theorem sB:ck0 false [(6,⟨[6,8],[0],[],[],[],[]⟩)] MH f70=some MH:=by kernel_rfl
def sC:=R [1] [w7 1 0,K 2 0]
def sD:=R [1,3] [F 4 2 1,T 5 3 4,I 6 (.build [j7,j7,j7] []),I 7 (.eqs false 0 [(0,0),(1,0),(2,0)] 5 6),M 8 7,G 9 8 true (.fadr 0 1),G 10 8 true (.ld false 1 9),G 11 8 true (.bin .eql 10 (.v (.int .u64 0))),j9 12 8 11 j0,M 3 12]
def sE:=R [1,3,13] [M 14 3,M 15 14,G 16 15 true (.fadr 1 1),G 17 15 true (.ld false 1 16),w5 18 15 true .eql 17 (V 0),j9 19 15 18 j0,M 20 19,G 21 20 true (.fadr 5 1),G 22 20 true (.ld false 1 21),G 23 20 true (.bin .eql 22 (.v (.str []))),j9 24 20 23 j0,M 25 24,G 26 25 true (.fadr 6 1),G 27 25 true (.ld false 1 26),G 28 25 true (.len 1 27),w5 29 25 true .eql 28 (V 0),j9 30 25 29 j0,M 13 30]
def sF:=R [2] [K 2 1]
def sG:=R [1,3,31] [F 32 0 1,L 33 32,I 34 (.bin .neq 33 (.v (.int .u64 0))),M 35 34,G 36 35 true (.fadr 5 1),G 37 35 true (.ld false 1 36),G 38 35 true (.bin .eql 37 (.v (.str []))),j9 39 35 38 j0,M 40 39,G 41 40 true (.fadr 6 1),G 42 40 true (.ld false 1 41),G 43 40 true (.len 1 42),w5 44 40 true .eql 43 (V 0),j9 45 40 44 j0,M 31 45]
def sH:=R [2] [K 2 2]
def sI:=R [1,3,46] [M 47 3,M 48 47,G 49 48 true (.fadr 1 1),G 50 48 true (.ld false 1 49),w5 51 48 true .eql 50 (V 0),j9 52 48 51 j0,M 53 52,G 54 53 true (.fadr 6 1),G 55 53 true (.ld false 1 54),G 56 53 true (.len 1 55),w5 57 53 true .eql 56 (V 0),j9 58 53 57 j0,M 59 58,G 60 59 true (.fadr 5 1),G 61 59 true (.ld false 1 60),G 62 59 true (.len 0 61),w5 63 59 true .leq 62 (V 16),j9 64 59 63 j0,M 46 64]
def sJ:=R [2] [K 2 3]
def sK:=R [65] [M 66 3,M 67 66,G 68 67 true (.fadr 5 1),G 69 67 true (.ld false 1 68),G 70 67 true (.bin .eql 69 (.v (.str []))),j9 71 67 70 j0,M 72 71,G 73 72 true (.fadr 1 1),G 74 72 true (.ld false 1 73),w5 75 72 true .geq 74 (V 1),j9 76 72 75 j0,M 77 76,G 78 77 true (.fadr 1 1),G 79 77 true (.ld false 1 78),w5 80 77 true .leq 79 (V 16),j9 81 77 80 j0,M 82 81,G 83 82 true (.fadr 6 1),G 84 82 true (.ld false 1 83),G 85 82 true (.len 1 84),w5 86 82 true .geq 85 (V 2),j9 87 82 86 j0,M 88 87,G 89 88 true (.fadr 6 1),G 90 88 true (.ld false 1 89),G 91 88 true (.len 1 90),w5 92 88 true .leq 91 (V 4),j9 93 88 92 j0,M 65 93]
def sL:=R [2] [K 2 4]
def sM:=R [2] [K 2 0]
def MI:PF:=⟨false,
 (D sC
 (D sD
 (D (.block 0
 (D sE
 (E 13
 (D sF
 .ret)
 (D sG
 (E 31
 (D sH
 .ret)
 (D sI
 (E 46
 (D sJ
 .ret)
 (D sK
 (E 65
 (D sL
 .ret)
 .skip)))))))))
 (D sM
 .ret)))),
 [2]⟩
theorem sN:ck0 false [] MI f71=some MI:=by kernel_rfl
def sO:=R [0,3] [w7 3 1,I 4 (.mv (.v .nilptr)),K 5 0]
def sP:=R [0,3,6] [M 8 0,T 9 7 3,j8 10 J6 [8,9],M 6 10]
def sQ:=R [0,3,6,12] [M 11 6,W 12 .neq 11 0]
def sS:=R [4,5] [M 13 6,I 4 (.mv (.v .nilptr)),M 5 13]
def sT:=R [0,3,19] [T 14 7 3,j8 15 EV [14],M 16 0,j8 17 YJ [16],I 18 (.fld false 1 1 17),B 19 .gtr 15 18]
def sU:=R [4,5] [I 4 (.mv (.v .nilptr)),K 5 6]
def sV:=R [3,7] [M 20 0,I 21 (.build [.nilptr,.nils,.nilptr] [(0,1,20)]),w7 22 21,M 7 22]
def sW:=R [7] [M 23 7,M 24 7,T 25 7 3,j8 26 Qf [24,25],I 27 (.nilck 23),F 28 2 27,N 1 28 26]
def sX:=R [4,5] [M 29 7,M 4 29,K 5 0]
def MJ:PF:=⟨true,
 (D sO
 (D (D sP
 (D sQ
 (E 12
 (D sS
 .ret)
 .skip)))
 (D (D sT
 (E 19
 (D sU
 .ret)
 .skip))
 (D sV
 (D sW
 (D sX
 .ret)))))),
 [4,5]⟩
theorem sY:ck0 true [] MJ f72=some MJ:=by kernel_rfl
def sZ:=R [0] [I 2 (.mv (.v (.int .u64 0))),I 3 (.mv j0),K 4 0]
def sa:=R [0,6] [M 5 0,I 6 (.eqs false 3 [] 5 (.v .nilptr))]
def sb:=R [2,3,4] [I 2 (.mv (.v (.int .u64 0))),I 3 (.mv j0),K 4 1]
def sc:=R [0,12] [M 7 0,I 8 (.nilck 7),F 9 1 8,L 10 9,w6 11 1 10,W 12 .eql 11 0]
def sd:=R [2,3,4] [I 2 (.mv (.v (.int .u64 0))),I 3 (.mv k9),K 4 0]
def se:=R [0,2,4] [M 14 0,I 15 (.nilck 14),F 16 1 15,L 17 16,I 18 (.ixS 1 17 (V 0)),L 19 18,I 20 (.call .norm 19 []),M 13 20,X 21 13 0,X 22 13 1,M 2 21,M 4 22]
def sf:=R [0,2,4,24] [M 23 4,W 24 .neq 23 0]
def sg:=R [2,3,4] [M 25 4,I 2 (.mv (.v (.int .u64 0))),I 3 (.mv j0),M 4 25]
def si:=R [0,2] [M 26 0,M 27 0,I 28 (.nilck 27),F 29 1 28,L 30 29,I 31 (.slc 1 30 (some (V 1)) none),I 32 (.nilck 26),F 33 1 32,N 1 33 31]
def sj:=R [2,3,4] [M 34 2,M 35 0,I 36 (.nilck 35),F 37 1 36,L 38 37,w6 39 1 38,W 40 .eql 39 0,M 2 34,M 3 40,K 4 0]
def MK:PF:=⟨false,
 (D sZ
 (D (D sa
 (E 6
 (D sb
 .ret)
 .skip))
 (D (D sc
 (E 12
 (D sd
 .ret)
 .skip))
 (D se
 (D (D sf
 (E 24
 (D sg
 .ret)
 .skip))
 (D si
 (D sj
 .ret))))))),
 [2,3,4]⟩
theorem sk:ck0 false [] MK f73=some MK:=by kernel_rfl
def sm:=R [0,2] [I 2 (.box (.v ZR)),K 3 0]
def sn:=R [0,2,5] [M 4 0,I 5 (.eqs false 3 [] 4 (.v .nilptr))]
def so:=R [2,3] [I 6 (.build [(.int .u64 0),j7,j7,j7,j7] []),N 5 2 6,K 3 1]
def sp:=R [0,2,12] [M 7 0,I 8 (.nilck 7),F 9 1 8,L 10 9,w6 11 1 10,W 12 .gtr 11 0]
def sq:=R [2,3] [I 13 (.build [(.int .u64 0),j7,j7,j7,j7] []),N 5 2 13,K 3 8]
def sr:=R [2,3] [M 14 0,I 15 (.nilck 14),F 16 2 15,L 17 16,I 18 (.nilck 17),T 19 5 18,N 5 2 19,K 3 0]
def ML:PF:=⟨false,
 (D sm
 (D (D sn
 (E 5
 (D so
 .ret)
 .skip))
 (D (D sp
 (E 12
 (D sq
 .ret)
 .skip))
 (D sr
 .ret)))),
 [.c 2 true 5,3]⟩
theorem su:ck0 false [] ML f74=some ML:=by kernel_rfl
def sv:=R [1,2,3] [w7 3 0]
def sw:=R [1,2,3,4] [I 4 (.box (.v .nilfunc))]
def sx:=R [2,4] [I 5 (.mkf (.func YS) [] [1,3,4]),N 1 4 5]
def sy:=R [2,4,8] [F 6 0 2,L 7 6,I 8 (.bin .neq 7 (.v (.int .u64 0)))]
def s_:=R [] [L 9 4,F 10 0 2,L 11 10,I 12 (.call .norm 9 [11])]
def MM:PF:=⟨false,
 (D sv
 (D sw
 (D sx
 (D sy
 (E 8
 s_
 .skip))))),
 []⟩
theorem tA:ck0 false [] MM f79=some MM:=by kernel_rfl
def tB:=R [0,1,2,3] [I 5 (.mv j0)]
def tC:=R [0,2,3,6,7] [L 11 1,M 12 0,j8 13 QX [11,12],M 10 13,X 14 10 0,X 15 10 1,I 6 (.box (.v ZN)),N 3 6 14,M 7 15]
def tD:=R [3,6,26] [L 16 2,M 17 0,T 18 3 6,M 19 7,I 20 (.build [j7,(.str []),.nils,j7] [(0,3,18),(3,1,19)]),I 21 (.call .norm 16 [17,20]),I 22 (.un .not 21),M 23 22,U 24 23 false 7,w5 25 23 false .neq 24 (V 0),j9 26 23 k9 25]
def tE:=R [5] [I 5 (.mv j0)]
def tF:=R [3,28,29,30] [F 27 2 6,L 28 27,w6 29 1 28,K 30 0]
def tG:=R [3,28,29,30,31] [B 31 .lss 30 29]
def tH:=R [3,9,28,29,30] [w8 32 4 28 30,T 33 4 32,I 9 (.box (.v ZK)),N 4 9 33]
def tI:=R [3,28,29,30,38] [L 34 3,F 35 0 9,L 36 35,I 37 (.call .norm 34 [36]),I 38 (.un .not 37)]
def tJ:=R [5] [I 5 (.mv j0)]
def tK:=R [3,28,29,30] [W 39 .add 30 1,M 30 39]
def tL:PC:=(D tG
 (D (E 31
 .skip
 (.exit 0))
 (D (.block 1
 (D tH
 (D tI
 (E 38
 (D tJ
 .ret)
 .skip))))
 tK)))
def tM:=R [5] [I 5 (.mv k9)]
def MN:PF:=⟨false,
 (D tB
 (D tC
 (D (D tD
 (E 26
 (D tE
 .ret)
 .skip))
 (D (D tF
 (.block 0
 (.loop tL)))
 (D tM
 .ret))))),
 [5]⟩
theorem tN:ck0 false [] MN f80=some MN:=by kernel_rfl
def tO:=R [0,1,4] [I 4 (.box (.v ZN)),K 5 0]
def tP:=R [0,1,4,9] [M 8 0,I 9 (.eqs false 3 [] 8 (.v .nilptr))]
def tQ:=R [4,5] [I 10 (.build [j7,(.str []),.nils] []),N 3 4 10,K 5 1]
def tR:=R [0,4,6,7] [M 12 0,I 13 (.nilck 12),F 14 2 13,L 15 14,M 16 1,I 17 (.look 0 ZN true 15 16),M 11 17,X 18 11 0,X 19 11 1,I 6 (.box (.v ZN)),N 3 6 18,M 7 19]
def tS:=R [0,4,6,21] [M 20 7,I 21 (.un .not 20)]
def tT:=R [4] [M 22 0,I 23 (.nilck 22),F 24 5 23,L 25 24,W 26 .add 25 1,I 27 (.nilck 22),F 28 5 27,N 1 28 26]
def tU:=R [4,5] [I 29 (.build [j7,(.str []),.nils] []),N 3 4 29,K 5 10]
def tV:=R [4,6] [F 30 2 6,L 31 30,j8 32 Zp [31],F 33 2 6,N 1 33 32]
def tW:=R [4,5] [T 34 3 6,N 3 4 34,K 5 0]
def MO:PF:=⟨false,
 (D tO
 (D (D tP
 (E 9
 (D tQ
 .ret)
 .skip))
 (D tR
 (D (D tS
 (E 21
 (D tT
 (D tU
 .ret))
 .skip))
 (D tV
 (D tW
 .ret)))))),
 [.c 4 true 3,5]⟩
theorem tX:ck0 false [] MO f81=some MO:=by kernel_rfl
def tY:=R [0,2,3,5,8] [w7 5 1,I 8 (.box (.v (.agg [(.int .u64 0),j7,j7,j7,j7,.nils,.nils]))),K 9 0]
def tZ:=R [8,9] [M 10 0,T 11 5 5,M 12 2,M 13 3,j8 14 XY [10,11,12,(V 0),13],X 15 14 0,X 16 14 1,N 7 8 15,M 9 16]
def MP:PF:=⟨false,
 (D tY
 (D tZ
 .ret)),
 [.c 8 true 7,9]⟩
theorem ta:ck0 false [] MP f82=some MP:=by kernel_rfl
def tc:=R [0,1] [I 4 (.mv j6)]
def te:=R [0,1,5] [I 5 (.onil 1)]
def tf:=R [0,1,5,9] [M 8 0,I 9 (.eqs false 3 [] 8 (.v .nilptr))]
def tg:=R [4] [M 10 5,M 4 10]
def ti:=R [1,5,14,15,16] [M 11 0,I 12 (.nilck 11),F 13 1 12,L 14 13,w6 15 1 14,K 16 0]
def tj:=R [1,5,14,15,16,17] [B 17 .lss 16 15]
def tn:=R [1,5,6,7,14,15,16] [M 18 16,w8 19 1 14 16,L 20 19,M 6 18,M 7 20]
def tp:=R [1,5,6,14,15,16,23] [M 21 7,M 22 1,B 23 .eql 21 22]
def tq:=R [1,5,14,15,16] [M 24 5,M 25 6,I 26 (.bslice false 1 [j7] [(0,25)]),I 27 (.app 1 8 24 26),M 5 27]
def tt:=R [1,5,14,15,16] [W 28 .add 16 1,M 16 28]
def tu:PC:=(D tj
 (D (E 17
 .skip
 (.exit 0))
 (D (.block 1
 (D tn
 (D tp
 (E 23
 tq
 .skip))))
 tt)))
def t_:=R [4] [M 29 5,M 4 29]
def MQ:PF:=⟨false,
 (D tc
 (D te
 (D (D tf
 (E 9
 (D tg
 .ret)
 .skip))
 (D (D ti
 (.block 0
 (.loop tu)))
 (D t_
 .ret))))),
 [4]⟩
theorem uA:ck0 false [(1,⟨[0,1,5],[0],[],[],[],[]⟩)] MQ f83=some MQ:=by kernel_rfl
def uB:=R [0,1] [I 4 (.mv (.v (.int .u64 0))),K 5 0]
def uC:=R [0,1,19] [M 6 0,W 7 .lss 6 0,M 8 7,U 9 8 false 0,w5 10 8 false .geq 9 (V 16384),j9 11 8 k9 10,M 12 11,U 13 12 false 1,G 14 12 false (.bin .lss 13 (.v (.int .u64 1))),j9 15 12 k9 14,M 16 15,U 17 16 false 1,G 18 16 false (.bin .gtr 17 (.v (.int .u64 4294967295))),j9 19 16 k9 18]
def uD:=R [4,5] [I 4 (.mv (.v (.int .u64 0))),K 5 3]
def uE:=R [4,5] [M 20 1,I 21 (.bin .shl 20 (.v (.int .u64 16))),M 22 0,I 23 (.cint .u64 22),B 24 .or 21 23,M 4 24,K 5 0]
def MR:PF:=⟨false,
 (D uB
 (D (D uC
 (E 19
 (D uD
 .ret)
 .skip))
 (D uE
 .ret))),
 [4,5]⟩
theorem uF:ck0 false [] MR f84=some MR:=by kernel_rfl
def uG:=R [0,1] [I 4 (.mv j0)]
def uH:=R [0,1,6] [M 5 0,I 6 (.eqs false 3 [] 5 (.v .nilptr))]
def uI:=R [4] [I 4 (.mv j0)]
def uJ:=R [4] [M 7 0,I 8 (.nilck 7),F 9 1 8,L 10 9,M 11 1,j8 12 Xa [10,11],M 4 12]
def MS:PF:=⟨false,
 (D uG
 (D (D uH
 (E 6
 (D uI
 .ret)
 .skip))
 (D uJ
 .ret))),
 [4]⟩
theorem uK:ck0 false [] MS f85=some MS:=by kernel_rfl
def uL:=R [0,1] [K 4 0,I 5 (.mv j0)]
def uM:=R [0,1,6,7] [M 10 1,j8 11 Hh [10],M 9 11,X 12 9 0,X 13 9 1,M 6 12,M 7 13]
def uN:=R [0,1,6,34] [M 14 7,W 15 .neq 14 0,M 16 15,U 17 16 false 6,U 18 16 false 0,G 19 16 false (.nilck 18),G 20 16 false (.fadr 1 19),G 21 16 false (.ld false 1 20),G 22 16 false (.len 1 21),w5 23 16 false .geq 17 22,j9 24 16 k9 23,M 25 24,U 26 25 false 0,G 27 25 false (.nilck 26),G 28 25 false (.fadr 1 27),G 29 25 false (.ld false 1 28),U 30 25 false 6,G 31 25 false (.ixS 1 29 30),G 32 25 false (.ld false 1 31),G 33 25 false (.bin .neq 32 (.v (.int .u8 1))),j9 34 25 k9 33]
def uO:=R [4,5] [K 4 0,I 5 (.mv j0)]
def uP:=R [0,6,7,8] [M 36 1,j8 37 LN [36],M 35 37,X 38 35 0,X 39 35 1,M 8 38,M 7 39]
def uQ:=R [4,5] [M 40 6,M 41 7,W 42 .eql 41 0,M 43 42,U 44 43 true 8,U 45 43 true 0,G 46 43 true (.nilck 45),G 47 43 true (.fadr 2 46),G 48 43 true (.ld false 1 47),U 49 43 true 6,G 50 43 true (.ixS 1 48 49),G 51 43 true (.ld false 1 50),w5 52 43 true .eql 44 51,j9 53 43 52 j0,M 4 40,M 5 53]
def MT:PF:=⟨false,
 (D uL
 (D uM
 (D (D uN
 (E 34
 (D uO
 .ret)
 .skip))
 (D uP
 (D uQ
 .ret))))),
 [4,5]⟩
theorem uR:ck0 false [] MT f86=some MT:=by kernel_rfl
def uS:=R [0,1] [I 4 (.mv (.v .nilptr)),K 5 0]
def uT:=R [0,1,21] [M 8 0,W 9 .lss 8 1,M 10 9,U 11 10 false 0,w5 12 10 false .gtr 11 (V 16384),j9 13 10 k9 12,M 14 13,U 15 14 false 1,G 16 14 false (.bin .lss 15 (.v (.int .u64 1))),j9 17 14 k9 16,M 18 17,U 19 18 false 1,G 20 18 false (.bin .gtr 19 (.v (.int .u64 4294967295))),j9 21 18 k9 20]
def uU:=R [4,5] [I 4 (.mv (.v .nilptr)),K 5 3]
def uV:PC:=(.regH [3,1,5] [0,6] [M 22 0,I 23 (.w (.here 1) (.mkslice 1 8 j7 22 22)),M 24 0,I 25 (.w (.here 3) (.mkslice 1 1 (.int .u8 0) 24 24)),M 26 0,I 27 (.w (.here 5) (.mkslice 1 8 (.int .u64 0) 26 26)),M 28 1,I 29 (.build [.nils,.nils,.nils,(.int .u64 0)] [(0,1,23),(1,1,25),(2,1,27),(3,1,28)]),w7 30 29,M 6 30])
def uW:=R [0,6,31,32] [M 31 0,K 32 0]
def uX:=R [0,6,31,32,33] [B 33 .lss 32 31]
def uY:=R [0,6,7,31,32] [M 34 32,M 7 34]
def uZ:=R [0,6,7,31,32] [M 35 6,I 36 (.nilck 35),F 37 0 36,L 38 37,M 39 7,M 40 0,W 41 .sub 40 1,M 42 7,B 43 .sub 41 42,w8 44 1 38 39,N 1 44 43]
def ua:=R [0,6,31,32] [M 45 6,I 46 (.nilck 45),F 47 2 46,L 48 47,M 49 7,w8 50 1 48 49,J (.st 1 50 (.v (.int .u64 1)))]
def ub:=R [0,6,31,32] [W 51 .add 32 1,M 32 51]
def ue:PC:=(D uX
 (D (E 33
 .skip
 (.exit 0))
 (D (.block 1
 (D uY
 (D uZ
 ua)))
 ub)))
def uf:=R [4,5] [M 52 6,M 4 52,K 5 0]
def MU:PF:=⟨true,
 (D uS
 (D (D uT
 (E 21
 (D uU
 .ret)
 .skip))
 (D uV
 (D (D uW
 (.block 0
 (.loop ue)))
 (D uf
 .ret))))),
 [4,5]⟩
theorem ug:ck0 true [(3,⟨[0,6],[],[],[],[(1,(.here 1)),(5,(.here 5)),(3,(.here 3))],[3,1,5]⟩)] MU f87=some MU:=by kernel_rfl
def uh:=R [0,1,2,7] [w7 7 3,K 8 0]
def ui:=R [2,7,9,10] [M 13 0,M 14 1,j8 15 QX [13,14],M 12 15,X 16 12 0,X 17 12 1,I 9 (.box (.v ZN)),N 3 9 16,M 10 17]
def uj:=R [2,7,9,10,19] [M 18 10,W 19 .neq 18 0]
def uk:=R [8] [M 20 10,M 8 20]
def um:=R [2,7,9,10,11] [T 22 3 9,j8 23 Xb [22],M 21 23,X 24 21 0,X 25 21 1,I 11 (.box (.v ZM)),N 3 11 24,M 10 25]
def uo:=R [38] [M 26 10,W 27 .neq 26 0,M 28 27,G 29 28 false (.fadr 0 9),G 30 28 false (.ld false 1 29),U 31 28 false 2,w5 32 28 false .neq 30 31,j9 33 28 k9 32,M 34 33,G 35 34 false (.ld true 3 11),G 36 34 false (.ld true 3 7),G 37 34 false (.eqs true 0 [(0,0),(1,0),(2,0)] 35 36),j9 38 34 k9 37]
def uq:=R [8] [K 8 23]
def ur:=R [8] [K 8 0]
def MV:PF:=⟨false,
 (D uh
 (D ui
 (D (D uj
 (E 19
 (D uk
 .ret)
 .skip))
 (D um
 (D (D uo
 (E 38
 (D uq
 .ret)
 .skip))
 (D ur
 .ret)))))),
 [8]⟩
theorem ut:ck0 false [] MV f88=some MV:=by kernel_rfl
def uu:=R [1] [w7 1 0,I 2 (.mv j6)]
def uv:=R [1,3] [I 3 (.boxnil 1)]
def uw:=R [1,3,4] [I 6 (.mkmap),I 4 (.box (.v .nilmap)),N 1 4 6]
def uy:=R [1,3,4,5] [I 5 (.box (.v .nilfunc))]
def uz:=R [1,3,5] [I 7 (.mkf (.func Yy) [] [4,3,5]),N 1 5 7]
def u_:=R [3] [L 8 5,T 9 7 1,I 10 (.call .norm 8 [9])]
def vA:=R [2] [L 11 3,M 2 11]
def MX:PF:=⟨false,
 (D uu
 (D uv
 (D uw
 (D uy
 (D uz
 (D u_
 (D vA
 .ret))))))),
 [2]⟩
theorem vB:ck0 false [(1,⟨[1,3],[0],[],[],[],[]⟩)] MX f93=some MX:=by kernel_rfl
def vC:=R [0,1,2,3] [K 8 0]
def vD:=R [0,1,2,3,16] [M 14 2,M 15 1,I 16 (.look 0 (.bool false) false 14 15)]
def vE:=R [8] [K 8 0]
def vF:=R [0,1,2,3] [M 17 2,M 18 1,J (.mupd 0 17 18 k9)]
def vG:=R [0,1,2,3,9,10] [M 20 0,M 21 1,j8 22 QX [20,21],M 19 22,X 23 19 0,X 24 19 1,I 9 (.box (.v ZN)),N 3 9 23,M 10 24]
def vH:=R [0,1,2,3,9,10,26] [M 25 10,W 26 .neq 25 0]
def vI:=R [8] [M 27 10,M 8 27]
def vJ:=R [0,2,3,9] [M 28 3,M 29 1,I 30 (.call .norm 28 [29])]
def vK:=R [0,2,3,32,33,34] [F 31 2 9,L 32 31,w6 33 1 32,K 34 0]
def vL:=R [0,2,3,32,33,34,35] [B 35 .lss 34 33]
def vM:=R [0,2,3,12,32,33,34] [w8 36 4 32 34,T 37 4 36,I 12 (.box (.v ZK)),N 4 12 37]
def vN:=R [0,2,3,13,32,33,34] [M 38 0,F 39 0 12,L 40 39,M 41 2,M 42 3,j8 43 JN [38,40,41,42],M 13 43]
def vO:=R [0,2,3,13,32,33,34,45] [M 44 13,W 45 .neq 44 0]
def vP:=R [8] [M 46 13,M 8 46]
def vQ:=R [0,2,3,32,33,34] [W 47 .add 34 1,M 34 47]
def vR:PC:=(D vL
 (D (E 35
 .skip
 (.exit 0))
 (D (.block 1
 (D vM
 (D vN
 (D vO
 (E 45
 (D vP
 .ret)
 .skip)))))
 vQ)))
def vS:=R [8] [K 8 0]
def MY:PF:=⟨false,
 (D vC
 (D (D vD
 (E 16
 (D vE
 .ret)
 .skip))
 (D vF
 (D vG
 (D (D vH
 (E 26
 (D vI
 .ret)
 .skip))
 (D vJ
 (D (D vK
 (.block 0
 (.loop vR)))
 (D vS
 .ret)))))))),
 [8]⟩
theorem vT:ck0 false [] MY f94=some MY:=by kernel_rfl
def MZ:PF:=⟨false,
 .skip,
 []⟩
theorem vU:ck0 false [] MZ f95=some MZ:=by kernel_rfl
def vV:=R [0,2,7] [L 4 1,M 5 0,I 6 (.look 0 (.bool false) false 4 5),I 7 (.un .not 6)]
def vW:=R [] [L 8 2,M 9 0,I 10 (.bslice false 1 [(.int .u64 0)] [(0,9)]),I 11 (.app 1 8 8 10),N 1 2 11]
def Ma:PF:=⟨false,
 (D vV
 (E 7
 vW
 .skip)),
 []⟩
theorem vX:ck0 false [] Ma f96=some Ma:=by kernel_rfl
def vY:=R [0] [I 2 (.mv j6)]
def vZ:=R [0,3] [I 3 (.onil 1)]
def vd:=R [0,3,8,9,10] [M 6 0,w6 7 0 6,j8 8 Hi [7,(V 16)],w6 9 1 8,K 10 0]
def vh:=R [0,3,8,9,10,11] [B 11 .lss 10 9]
def vi:=R [0,3,5,8,9,10] [w8 12 1 8 10,L 13 12,M 5 13]
def vk:=R [0,3,5,8,9,10] [M 14 3,M 15 0,M 16 5,I 17 (.slcS 15 none (some 16)),I 18 (.bslice false 1 [(.str [])] [(0,17)]),I 19 (.app 1 16 14 18),M 3 19]
def vn:=R [0,3,8,9,10] [M 20 0,M 21 5,I 22 (.slcS 20 (some 21) none),M 0 22]
def vq:=R [0,3,8,9,10] [W 23 .add 10 1,M 10 23]
def vu:PC:=(D vh
 (D (E 11
 .skip
 (.exit 0))
 (D (.block 1
 (D vi
 (D vk
 vn)))
 vq)))
def vv:=R [2] [M 24 3,M 2 24]
def Mb:PF:=⟨false,
 (D vY
 (D vZ
 (D (D vd
 (.block 0
 (.loop vu)))
 (D vv
 .ret)))),
 [2]⟩
theorem vw:ck0 false [(1,⟨[0,3],[0],[],[],[],[]⟩)] Mb f97=some Mb:=by kernel_rfl
def vz:=R [0,1] [I 4 (.mv j6),K 5 0]
def v_:=R [0,1,11] [M 6 0,W 7 .lss 6 0,M 8 7,U 9 8 false 1,w5 10 8 false .lss 9 (V 1),j9 11 8 k9 10]
def wA:=R [4,5] [I 4 (.mv j6),K 5 2]
def wB:=R [0,1,13] [M 12 0,W 13 .gtr 12 65536]
def wC:=R [4,5] [I 4 (.mv j6),K 5 5]
def wD:=R [4,5] [M 14 0,M 15 1,j8 16 Hi [14,15],M 4 16,K 5 0]
def Mc:PF:=⟨false,
 (D vz
 (D (D v_
 (E 11
 (D wA
 .ret)
 .skip))
 (D (D wB
 (E 13
 (D wC
 .ret)
 .skip))
 (D wD
 .ret)))),
 [4,5]⟩
theorem wE:ck0 false [] Mc f98=some Mc:=by kernel_rfl
def wF:=R [0,2] [I 2 (.box (.v ZT))]
def wG:=R [0,2,3] [M 4 0,w6 5 1 4,W 6 .eql 5 0,M 3 6]
def wH:=R [2] [I 7 (.build [(.int .u64 0),j7,j7,j7,j7,(.str []),.nils] []),N 7 2 7]
def wI:=R [0,2,8] [M 9 0,w6 10 1 9,W 11 .eql 10 1,M 8 11]
def wJ:=R [2] [M 12 0,I 13 (.ixS 7 12 (V 0)),T 14 7 13,N 7 2 14]
def wK:=R [2] [M 15 0,I 16 (.ixS 7 15 (V 0)),F 17 1 16,L 18 17,W 19 .add 18 1,I 20 (.w .imm (.bslice false 7 [] [])),M 21 0,I 22 (.w .app0 (.app 7 80 20 21)),I 23 (.build [(.int .u64 0),j7,j7,j7,j7,(.str []),.nils] [(1,1,19),(6,1,22)]),N 7 2 23]
def Md:PF:=⟨false,
 (D wF
 (D (.block 0
 (D wG
 (E 3
 (D wH
 .ret)
 (D wI
 (E 8
 (D wJ
 .ret)
 .skip)))))
 (D wK
 .ret))),
 [.c 2 true 7]⟩
theorem wL:ck0 false [(5,⟨[2],[],[],[],[(7,.app0),(5,.imm)],[]⟩)] Md f99=some Md:=by kernel_rfl
def wM:=R [1] [w7 1 0,K 2 0]
def wN:=R [1,3] [F 6 2 1,F 7 0 6,L 8 7,F 9 5 1,L 10 9,w6 11 0 10,B 12 .add 8 11,M 3 12]
def wO:=R [3,14,15,16] [F 13 6 1,L 14 13,w6 15 1 14,K 16 0]
def wP:=R [3,14,15,16,17] [B 17 .lss 16 15]
def wQ:=R [3,5,14,15,16] [w8 18 7 14 16,T 19 7 18,I 5 (.box (.v ZT)),N 7 5 19]
def wS:=R [3,14,15,16] [M 20 3,T 21 7 5,j8 22 Qj [21],B 23 .add 20 22,M 3 23]
def wT:=R [3,14,15,16] [W 24 .add 16 1,M 16 24]
def wU:PC:=(D wP
 (D (E 17
 .skip
 (.exit 0))
 (D (.block 1
 (D wQ
 wS))
 wT)))
def wV:=R [2] [M 25 3,M 2 25]
def Me:PF:=⟨false,
 (D wM
 (D wN
 (D (D wO
 (.block 0
 (.loop wU)))
 (D wV
 .ret)))),
 [2]⟩
theorem wW:ck0 false [] Me f100=some Me:=by kernel_rfl
def wX:=R [1,2] [w7 1 0,I 2 (.box (.v ZT))]
def wY:=R [1,2,9] [F 6 6 1,L 7 6,w6 8 1 7,W 9 .eql 8 0]
def wZ:=R [1,2] [F 10 6 1,J (.st 1 10 j6)]
def wa:=R [2] [T 11 7 1,N 7 2 11]
def wd:=R [1,2,3] [F 12 6 1,L 13 12,w6 14 1 13,I 15 (.mkslice 7 80 ZT 14 14),M 3 15]
def we:=R [1,2,3,17,18,19] [F 16 6 1,L 17 16,w6 18 1 17,K 19 0]
def wg:=R [1,2,3,17,18,19,20] [B 20 .lss 19 18]
def wh:=R [1,2,3,4,5,17,18,19] [M 21 19,w8 22 7 17 19,T 23 7 22,I 5 (.box (.v ZT)),M 4 21,N 7 5 23]
def wi:=R [1,2,3,17,18,19] [M 24 3,M 25 4,T 26 7 5,j8 27 Fg [26],w8 28 7 24 25,N 7 28 27]
def wj:=R [1,2,3,17,18,19] [W 29 .add 19 1,M 19 29]
def wm:PC:=(D wg
 (D (E 20
 .skip
 (.exit 0))
 (D (.block 1
 (D wh
 wi))
 wj)))
def wo:=R [1,2] [M 30 3,F 31 6 1,N 1 31 30]
def wp:=R [2] [T 32 7 1,N 7 2 32]
def Mf:PF:=⟨false,
 (D wX
 (D (D wY
 (E 9
 (D wZ
 (D wa
 .ret))
 .skip))
 (D wd
 (D (D we
 (.block 0
 (.loop wm)))
 (D wo
 (D wp
 .ret)))))),
 [.c 2 true 7]⟩
theorem wq:ck0 false [] Mf f101=some Mf:=by kernel_rfl
def wt:=R [0,2,4,6,7] [w7 4 1,I 6 (.box (.v ZT)),I 7 (.box (.v ZT)),K 8 0]
def wu:=R [0,2,4,6,7,18] [M 17 2,W 18 .eql 17 0]
def ww:=R [6,7,8] [I 19 (.build [(.int .u64 0),j7,j7,j7,j7,(.str []),.nils] []),I 20 (.w (.hide [6]) (.ld true 7 4)),J (.w (.plain 6) (.st 7 6 19)),N 7 7 20,K 8 0]
def wx:=R [0,2,4,6,7,24] [M 21 2,T 22 7 4,j8 23 Qj [22],B 24 .eql 21 23]
def wy:=R [6,7,8] [T 25 7 4,I 26 (.build [(.int .u64 0),j7,j7,j7,j7,(.str []),.nils] []),N 7 6 25,N 7 7 26,K 8 0]
def wz:=R [0,2,4,6,7,29] [F 27 1 4,L 28 27,W 29 .eql 28 0]
def w_:=R [2,6,7,9,10] [M 31 0,T 32 7 4,j8 33 ET [31,32],M 30 33,X 34 30 0,X 35 30 1,M 9 34,M 10 35]
def xA:=R [2,6,7,9,10,37] [M 36 10,W 37 .neq 36 0]
def xB:=R [6,7,8] [I 38 (.build [(.int .u64 0),j7,j7,j7,j7,(.str []),.nils] []),I 39 (.build [(.int .u64 0),j7,j7,j7,j7,(.str []),.nils] []),M 40 10,N 7 6 38,N 7 7 39,M 8 40]
def xC:=R [6,7,10,11,12] [M 42 9,M 43 2,j8 44 LP [42,43],M 41 44,X 45 41 0,X 46 41 1,X 47 41 2,M 11 45,M 12 46,M 10 47]
def xD:=R [6,7,8] [M 48 11,I 49 (.build [(.int .u64 0),j7,j7,j7,j7,(.str []),.nils] [(5,1,48)]),M 50 12,I 51 (.build [(.int .u64 0),j7,j7,j7,j7,(.str []),.nils] [(5,1,50)]),M 52 10,N 7 6 49,N 7 7 51,M 8 52]
def xE:=R [0,2,6,7,8,13] [M 54 0,T 55 7 4,j8 56 Jz [54,55],M 53 56,X 57 53 0,X 58 53 1,M 13 57,M 8 58]
def xF:=R [0,2,6,7,8,13,60] [M 59 8,W 60 .neq 59 0]
def xG:=R [6,7,8] [I 61 (.build [(.int .u64 0),j7,j7,j7,j7,(.str []),.nils] []),I 62 (.build [(.int .u64 0),j7,j7,j7,j7,(.str []),.nils] []),M 63 8,N 7 6 61,N 7 7 62,M 8 63]
def xH:=R [0,2,6,7,13,14] [K 14 0]
def xI:=R [0,2,6,7,13,14,77] [M 64 14,W 65 .add 64 1,M 66 13,w6 67 1 66,B 68 .lss 65 67,M 69 68,U 70 69 true 2,U 71 69 true 13,U 72 69 true 14,G 73 69 true (.ixS 7 71 72),G 74 69 true (.ld true 7 73),G 75 69 true (C Qj [74]),w5 76 69 true .geq 70 75,j9 77 69 76 j0]
def xJ:=R [0,2,6,7,13,14] [M 78 2,M 79 13,M 80 14,w8 81 7 79 80,T 82 7 81,j8 83 Qj [82],B 84 .sub 78 83,M 2 84]
def xK:=R [0,2,6,7,13,14] [M 85 14,W 86 .add 85 1,M 14 86]
def Sr:PC:=(D (D xI
 (E 77
 .skip
 (.exit 0)))
 (.block 1
 (D xJ
 xK)))
def xL:=R [0,2,6,7,13,14,88] [M 87 2,W 88 .eql 87 0]
def xM:=R [6,7,8] [M 89 13,M 90 14,I 91 (.slc 7 89 none (some 90)),I 92 (.call .pure (.v (.func (.func QC) [] [])) [91]),M 93 13,M 94 14,I 95 (.slc 7 93 (some 94) none),j8 96 QC [95],N 7 6 92,N 7 7 96,K 8 0]
def xN:=R [0,6,7,8,13,14,15,16] [M 98 0,M 99 13,M 100 14,w8 101 7 99 100,T 102 7 101,M 103 2,j8 104 EU [98,102,103],M 97 104,X 105 97 0,X 106 97 1,X 107 97 2,I 15 (.box (.v ZT)),I 16 (.box (.v ZT)),N 7 15 105,N 7 16 106,M 8 107]
def xO:=R [0,6,7,8,13,14,15,16,109] [M 108 8,W 109 .neq 108 0]
def xP:=R [6,7,8] [I 110 (.build [(.int .u64 0),j7,j7,j7,j7,(.str []),.nils] []),I 111 (.build [(.int .u64 0),j7,j7,j7,j7,(.str []),.nils] []),M 112 8,N 7 6 110,N 7 7 111,M 8 112]
def xQ:=R [0,6,7,8,13,14,16] [M 114 0,M 115 13,M 116 14,I 117 (.slc 7 115 none (some 116)),I 118 (.call .pure (.v (.func (.func QC) [] [])) [117]),T 119 7 15,j8 120 Yx [114,118,119],M 113 120,X 121 113 0,X 122 113 1,N 7 6 121,M 8 122]
def xR:=R [0,6,7,8,13,14,16,124] [M 123 8,W 124 .neq 123 0]
def xS:=R [6,7,8] [I 125 (.build [(.int .u64 0),j7,j7,j7,j7,(.str []),.nils] []),I 126 (.build [(.int .u64 0),j7,j7,j7,j7,(.str []),.nils] []),M 127 8,N 7 6 125,N 7 7 126,M 8 127]
def xT:=R [6,7,8] [M 129 0,T 130 7 16,M 131 13,M 132 14,W 133 .add 132 1,I 134 (.slc 7 131 (some 133) none),I 135 (.call .pure (.v (.func (.func QC) [] [])) [134]),j8 136 Yx [129,130,135],M 128 136,X 137 128 0,X 138 128 1,N 7 7 137,M 8 138]
def xU:=R [6,7,8,140] [M 139 8,W 140 .neq 139 0]
def xV:=R [6,7,8] [I 141 (.build [(.int .u64 0),j7,j7,j7,j7,(.str []),.nils] []),I 142 (.build [(.int .u64 0),j7,j7,j7,j7,(.str []),.nils] []),M 143 8,N 7 6 141,N 7 7 142,M 8 143]
def xW:=R [6,7,8] [T 144 7 6,I 145 (.w (.hide [6]) (.ld true 7 7)),J (.w (.plain 6) (.st 7 6 144)),N 7 7 145,K 8 0]
def Mg:PF:=⟨false,
 (D wt
 (D (D wu
 (E 18
 (D ww
 .ret)
 .skip))
 (D (D wx
 (E 24
 (D wy
 .ret)
 .skip))
 (D (D wz
 (E 29
 (D w_
 (D (D xA
 (E 37
 (D xB
 .ret)
 .skip))
 (D xC
 (D xD
 .ret))))
 .skip))
 (D xE
 (D (D xF
 (E 60
 (D xG
 .ret)
 .skip))
 (D xH
 (D (.block 0
 (.loop Sr))
 (D (D xL
 (E 88
 (D xM
 .ret)
 .skip))
 (D xN
 (D (D xO
 (E 109
 (D xP
 .ret)
 .skip))
 (D (D xQ
 (D xR
 (E 124
 (D xS
 .ret)
 .skip)))
 (D (D xT
 (D xU
 (E 140
 (D xV
 .ret)
 .skip)))
 (D xW
 .ret)))))))))))))),
 [.c 6 true 7,.c 7 true 7,8]⟩
theorem xX:ck0 false [(2,⟨[6,7,8],[],[],[],[(1,(.hide [6])),(2,(.plain 6))],[]⟩),(19,⟨[6,7,8],[],[(3,.pure)],[],[],[]⟩),(23,⟨[0,6,7,8,13,14,16],[],[(4,.pure)],[],[],[]⟩),(26,⟨[6,7,8],[],[(6,.pure)],[],[],[]⟩),(29,⟨[6,7,8],[],[],[],[(1,(.hide [6])),(2,(.plain 6))],[]⟩)] Mg f102=some Mg:=by kernel_rfl
def xY:=R [0,4,5,6] [w7 4 1,w7 5 2,I 6 (.box (.v ZT)),K 7 0]
def xZ:=R [0,4,5,6,12] [T 10 7 4,j8 11 QW [10],W 12 .eql 11 1]
def xa:=R [6,7] [T 13 7 5,N 7 6 13,K 7 0]
def xc:=R [0,4,5,6,16] [T 14 7 5,j8 15 QW [14],W 16 .eql 15 1]
def xd:=R [6,7] [T 17 7 4,N 7 6 17,K 7 0]
def xe:=R [6,8,9] [M 19 0,T 20 7 4,T 21 7 5,j8 22 Fh [19,20,21],M 18 22,X 23 18 0,X 24 18 1,M 8 23,M 9 24]
def xf:=R [6,8,9,26] [M 25 9,W 26 .neq 25 0]
def xg:=R [6,7] [I 27 (.build [(.int .u64 0),j7,j7,j7,j7,(.str []),.nils] []),M 28 9,N 7 6 27,M 7 28]
def xi:=R [6,7] [M 29 8,j8 30 QC [29],N 7 6 30,K 7 0]
def Mh:PF:=⟨false,
 (D xY
 (D (D xZ
 (E 12
 (D xa
 .ret)
 .skip))
 (D (D xc
 (E 16
 (D xd
 .ret)
 .skip))
 (D xe
 (D (D xf
 (E 26
 (D xg
 .ret)
 .skip))
 (D xi
 .ret)))))),
 [.c 6 true 7,7]⟩
theorem xj:ck0 false [] Mh f103=some Mh:=by kernel_rfl
def xl:=R [0,2,3,5] [w7 5 1,K 8 0]
def xm:=R [0,2,3,5,9] [T 14 7 5,j8 15 QW [14],M 9 15]
def xn:=R [0,2,5,9,30] [M 16 9,W 17 .eql 16 0,M 18 17,U 19 18 false 9,w5 20 18 false .eql 19 (V 1),j9 21 18 k9 20,M 22 21,U 23 22 false 2,U 24 22 false 23,G 25 24 true (.fadr 1 5),G 26 24 true (.ld false 1 25),U 27 24 true 3,w5 28 24 true .neq 26 27,G 29 22 false (.pick 24 28 j0),j9 30 22 k9 29]
def xo:=R [8] [K 8 23]
def xp:=R [0,2,5,32] [M 31 9,W 32 .eql 31 2]
def xq:=R [0,2,5,10] [M 33 0,F 34 0 5,L 35 34,F 36 1 5,L 37 36,F 38 2 5,T 39 3 38,j8 40 Hf [33,35,37,39],M 10 40]
def xr:=R [0,2,5,10,42] [M 41 10,W 42 .neq 41 0]
def xu:=R [8] [M 43 10,M 8 43]
def xw:=R [0,5,54] [M 44 2,M 45 44,G 46 45 true (.fadr 1 5),G 47 45 true (.ld false 1 46),w5 48 45 true .eql 47 (V 0),j9 49 45 48 j0,M 50 49,G 51 50 true (.ld true 7 5),G 52 50 true (C Qj [51]),w5 53 50 true .lss 52 (V 8),j9 54 50 53 j0]
def xy:=R [8] [K 8 23]
def xz:=R [0,5,56,57,58] [F 55 6 5,L 56 55,w6 57 1 56,K 58 0]
def x_:=R [0,5,56,57,58,59] [B 59 .lss 58 57]
def yA:=R [0,5,12,56,57,58] [w8 60 7 56 58,T 61 7 60,I 12 (.box (.v ZT)),N 7 12 61]
def yC:=R [0,5,13,56,57,58] [M 62 0,T 63 7 12,F 64 1 5,L 65 64,W 66 .sub 65 1,j8 67 Hg [62,63,k9,66],M 13 67]
def yD:=R [0,5,13,56,57,58,69] [M 68 13,W 69 .neq 68 0]
def yE:=R [8] [M 70 13,M 8 70]
def yF:=R [0,5,56,57,58] [W 71 .add 58 1,M 58 71]
def Ss:PC:=(D x_
 (D (E 59
 .skip
 (.exit 0))
 (D (.block 1
 (D yA
 (D yC
 (D yD
 (E 69
 (D yE
 .ret)
 .skip)))))
 yF)))
def yG:=R [8] [K 8 0]
def Mi:PF:=⟨false,
 (D xl
 (D xm
 (D (D xn
 (E 30
 (D xo
 .ret)
 .skip))
 (D (D xp
 (E 32
 (D xq
 (D xr
 (E 42
 (D xu
 .ret)
 .skip)))
 .skip))
 (D (D xw
 (E 54
 (D xy
 .ret)
 .skip))
 (D (D xz
 (.block 0
 (.loop Ss)))
 (D yG
 .ret))))))),
 [8]⟩
theorem yH:ck0 false [] Mi f104=some Mi:=by kernel_rfl
def yI:=R [1] [w7 1 0,K 2 0]
def yJ:=R [1,3] [K 3 0]
def yK:=R [1,3,4] [T 7 7 1,j8 8 QW [7],M 4 8]
def yL:=R [1,3,14] [M 9 4,W 10 .eql 9 3,M 11 10,U 12 11 false 4,w5 13 11 false .eql 12 (V 4),j9 14 11 k9 13]
def yM:=R [1,3] [K 3 1]
def yN:=R [3,16,17,18] [F 15 6 1,L 16 15,w6 17 1 16,K 18 0]
def yO:=R [3,16,17,18,19] [B 19 .lss 18 17]
def yP:=R [3,6,16,17,18] [w8 20 7 16 18,T 21 7 20,I 6 (.box (.v ZT)),N 7 6 21]
def yQ:=R [3,16,17,18] [M 22 3,T 23 7 6,j8 24 EV [23],B 25 .add 22 24,M 3 25]
def yR:=R [3,16,17,18] [W 26 .add 18 1,M 18 26]
def yS:PC:=(D yO
 (D (E 19
 .skip
 (.exit 0))
 (D (.block 1
 (D yP
 yQ))
 yR)))
def yT:=R [2] [M 27 3,M 2 27]
def Mj:PF:=⟨false,
 (D yI
 (D yJ
 (D (D yK
 (D yL
 (E 14
 yM
 .skip)))
 (D (D yN
 (.block 0
 (.loop yS)))
 (D yT
 .ret))))),
 [2]⟩
theorem yU:ck0 false [] Mj f105=some Mj:=by kernel_rfl
def yV:=R [0,3] [w7 3 1,I 4 (.mv (.v .nilptr))]
def yW:=R [0,3,5] [F 11 1 3,L 12 11,F 13 2 3,T 14 3 13,F 15 0 3,L 16 15,I 17 (.build [(.int .u64 0),j7,j7,j7,j7] [(1,1,12),(2,3,14),(0,1,16)]),w7 18 17,M 5 18]
def yX:=R [0,3,5,80] [F 81 0 3,L 82 81,I 83 (.bin .neq 82 (.v (.int .u64 0))),M 84 83,G 85 84 false (.fadr 5 3),G 86 84 false (.ld false 1 85),G 87 84 false (.bin .eql 86 (.v (.str []))),U 88 84 false 87,G 89 88 true (.fadr 6 3),G 90 88 true (.ld false 1 89),G 91 88 true (.len 1 90),w5 92 88 true .eql 91 (V 0),G 93 84 false (.pick 88 92 j0),j9 94 84 k9 93,M 80 94]
def yY:=R [0,3,5,95] [F 96 1 3,L 97 96,W 98 .eql 97 0,M 95 98]
def yZ:=R [0,5,6] [F 99 5 3,L 100 99,I 101 (.build [j7,(.str []),.nils] [(1,1,100)]),I 6 (.box (.v ZN)),N 3 6 101]
def ya:=R [0,5,6] [M 103 5,T 104 3 6,j8 105 Xb [104],M 102 105,X 106 102 0,X 107 102 1,I 108 (.nilck 103),F 109 2 108,N 3 109 106]
def yc:=R [5] [M 110 0,M 111 5,I 112 (.mkf (.func Jn) [] [6]),j8 113 Hj [110,111,112]]
def yd:=R [0,3,5,7] [I 7 (.boxnil 1)]
def ye:=R [0,3,5,7,20,21,22] [F 19 6 3,L 20 19,w6 21 1 20,K 22 0]
def yf:=R [0,3,5,7,20,21,22,23] [B 23 .lss 22 21]
def yg:=R [0,3,5,7,9,20,21,22] [w8 24 7 20 22,T 25 7 24,I 9 (.box (.v ZT)),N 7 9 25]
def yi:=R [0,3,5,7,10,20,21,22] [M 26 0,T 27 7 9,j8 28 Qf [26,27],M 10 28]
def yj:=R [0,3,5,7,10,20,21,22] [L 29 7,M 30 10,I 31 (.bslice true 1 [.nilptr] [(0,30)]),I 32 (.app 1 8 29 31),N 1 7 32]
def Su:=R [0,3,5,7,10,20,21,22] [M 33 5,I 34 (.nilck 33),F 35 2 34,F 36 0 35,L 37 36,M 38 10,I 39 (.nilck 38),F 40 2 39,F 41 0 40,L 42 41,B 43 .add 37 42,I 44 (.nilck 33),F 45 2 44,F 46 0 45,N 1 46 43]
def Sv:=R [0,3,5,7,10,20,21,22] [M 47 5,I 48 (.nilck 47),F 49 2 48,F 50 1 49,L 51 50,M 52 10,I 53 (.nilck 52),F 54 2 53,F 55 1 54,L 56 55,B 57 .add 51 56,I 58 (.nilck 47),F 59 2 58,F 60 1 59,N 1 60 57]
def Sw:=R [0,3,5,7,20,21,22] [M 61 5,I 62 (.nilck 61),F 63 2 62,F 64 2 63,L 65 64,M 66 10,I 67 (.nilck 66),F 68 2 67,F 69 2 68,L 70 69,B 71 .add 65 70,I 72 (.nilck 61),F 73 2 72,F 74 2 73,N 1 74 71]
def ym:=R [0,3,5,7,20,21,22] [W 75 .add 22 1,M 22 75]
def yn:PC:=(D yf
 (D (E 23
 .skip
 (.exit 1))
 (D (.block 2
 (D yg
 (D yi
 (D yj
 (D Su
 (D Sv
 Sw))))))
 ym)))
def yo:=R [5] [M 76 0,M 77 5,I 78 (.mkf (.func JJ) [] [3,7]),j8 79 Hj [76,77,78]]
def yp:=R [4] [M 114 5,M 4 114]
def Mk:PF:=⟨true,
 (D yV
 (D yW
 (D (.block 0
 (D yX
 (E 80
 .skip
 (D yY
 (E 95
 (D yZ
 (D ya
 yc))
 (D yd
 (D (D ye
 (.block 1
 (.loop yn)))
 yo)))))))
 (D yp
 .ret)))),
 [4]⟩
theorem yq:ck0 true [(7,⟨[0,3,5,7],[0],[],[],[],[]⟩),(12,⟨[0,3,5,7,10,20,21,22],[2],[],[],[],[]⟩)] Mk f106=some Mk:=by kernel_rfl
def yr:=R [0,1] [I 4 (.mv j0)]
def yu:=R [0,1,8] [M 7 0,I 8 (.eqs false 3 [] 7 (.v .nilptr))]
def yw:=R [4] [I 4 (.mv j0)]
def yx:=R [6] [M 10 0,M 11 1,j8 12 J7 [10,11],M 9 12,X 13 9 0,X 14 9 1,M 5 13,M 6 14]
def yy:=R [4] [M 15 6,M 4 15]
def Ml:PF:=⟨false,
 (D yr
 (D (D yu
 (E 8
 (D yw
 .ret)
 .skip))
 (D yx
 (D yy
 .ret)))),
 [4]⟩
theorem yz:ck0 false [] Ml f110=some Ml:=by kernel_rfl
def y_:=R [0] [K 2 0,K 3 0]
def zA:=R [0,4] [M 7 0,j8 8 YV [7],M 4 8]
def zB:=R [0,4,10] [M 9 4,W 10 .neq 9 0]
def zC:=R [2,3] [M 11 4,K 2 0,M 3 11]
def zD:=R [5] [M 13 0,j8 14 Xc [13],M 12 14,X 15 12 0,X 16 12 1,M 5 15,M 6 16]
def zE:=R [2,3] [M 17 5,M 2 17,K 3 0]
def Mm:PF:=⟨false,
 (D y_
 (D (D zA
 (D zB
 (E 10
 (D zC
 .ret)
 .skip)))
 (D zD
 (D zE
 .ret)))),
 [2,3]⟩
theorem zF:ck0 false [] Mm f111=some Mm:=by kernel_rfl
def zG:=R [0] [I 2 (.mv (.v (.int .u64 0))),K 3 0]
def zH:=R [0,4] [M 7 0,j8 8 YV [7],M 4 8]
def zI:=R [0,4,10] [M 9 4,W 10 .neq 9 0]
def zJ:=R [2,3] [M 11 4,I 2 (.mv (.v (.int .u64 0))),M 3 11]
def zK:=R [6] [M 13 0,j8 14 Xc [13],M 12 14,X 15 12 0,X 16 12 1,M 5 15,M 6 16]
def zL:=R [2,3] [M 17 6,M 2 17,K 3 0]
def Mn:PF:=⟨false,
 (D zG
 (D (D zH
 (D zI
 (E 10
 (D zJ
 .ret)
 .skip)))
 (D zK
 (D zL
 .ret)))),
 [2,3]⟩
theorem zM:ck0 false [] Mn f112=some Mn:=by kernel_rfl
def zN:=R [1,2] [w7 1 0,I 2 (.box (.v ZM)),K 3 0]
def zO:=R [1,2,4] [T 5 3 1,j8 6 Hk [5],M 4 6]
def zP:=R [1,2,4,8] [M 7 4,W 8 .neq 7 0]
def zQ:=R [2,3] [I 9 (.build [j7,j7,j7] []),M 10 4,N 3 2 9,M 3 10]
def zR:=R [2,3] [T 11 3 1,j8 12 Fi [11],N 3 2 12,K 3 0]
def Mo:PF:=⟨false,
 (D zN
 (D (D zO
 (D zP
 (E 8
 (D zQ
 .ret)
 .skip)))
 (D zR
 .ret))),
 [.c 2 true 3,3]⟩
theorem zS:ck0 false [] Mo f113=some Mo:=by kernel_rfl
def zT:=R [1,2,3,4] [w7 4 0]
def zU:=R [1,2,3,4,16] [F 7 0 4,L 8 7,I 9 (.bin .neq 8 (.v (.int .u64 0))),M 10 9,G 11 10 true (.ld false 1 1),G 12 10 true (.fadr 0 4),G 13 10 true (.ld false 1 12),G 14 10 true (.look 0 (.bool false) false 11 13),G 15 10 true (.un .not 14),j9 16 10 15 j0]
def zV:=R [2,3,4] [L 17 1,F 18 0 4,L 19 18,J (.mupd 0 17 19 k9)]
def zW:=R [3,4] [L 20 2,F 21 0 4,L 22 21,I 23 (.bslice false 1 [(.int .u64 0)] [(0,22)]),I 24 (.app 1 8 20 23),N 1 2 24]
def Sx:=R [3,26,27,28] [F 25 6 4,L 26 25,w6 27 1 26,K 28 0]
def zX:=R [3,26,27,28,29] [B 29 .lss 28 27]
def zY:=R [3,6,26,27,28] [w8 30 7 26 28,T 31 7 30,I 6 (.box (.v ZT)),N 7 6 31]
def zZ:=R [3,26,27,28] [L 32 3,T 33 7 6,I 34 (.call .norm 32 [33])]
def za:=R [3,26,27,28] [W 35 .add 28 1,M 28 35]
def Mp:PC:=(D zX
 (D (E 29
 .skip
 (.exit 0))
 (D (.block 1
 (D zY
 zZ))
 za)))
def Mq:PF:=⟨false,
 (D zT
 (D (D zU
 (E 16
 (D zV
 zW)
 .skip))
 (D Sx
 (.block 0
 (.loop Mp))))),
 []⟩
theorem zc:ck0 false [] Mq f115=some Mq:=by kernel_rfl
def zd:=R [1,2] [w7 2 0,I 4 (.mv j6)]
def ze:=R [1,2,10] [L 9 2,W 10 .eql 9 0]
def zf:=R [4] [I 4 (.mv j6)]
def zg:=R [1,2,5] [L 11 2,M 12 1,B 13 .quo 11 12,I 5 (.box (V 0)),N 1 5 13]
def zh:=R [2,5,17] [L 14 2,M 15 1,B 16 .rem 14 15,W 17 .gtr 16 0]
def zi:=R [2,5] [L 18 5,W 19 .add 18 1,N 1 5 19]
def zj:=R [5,6] [I 20 (.mkf (.func J0) [] [2,5]),M 6 20]
def zk:=R [5,6,7] [L 21 5,I 22 (.mkslice 1 8 j7 21 21),M 7 22]
def zm:=R [6,7,23,24] [L 23 5,K 24 0]
def zp:=R [6,7,23,24,25] [B 25 .lss 24 23]
def zq:=R [6,7,8,23,24] [M 26 24,M 8 26]
def zt:=R [6,7,23,24] [M 27 7,M 28 8,M 29 6,M 30 8,I 31 (.call .norm 29 [30]),w8 32 1 27 28,N 1 32 31]
def zu:=R [6,7,23,24] [W 33 .add 24 1,M 24 33]
def Sy:PC:=(D zp
 (D (E 25
 .skip
 (.exit 0))
 (D (.block 1
 (D zq
 zt))
 zu)))
def zw:=R [4] [M 34 7,M 4 34]
def Mr:PF:=⟨false,
 (D zd
 (D (D ze
 (E 10
 (D zf
 .ret)
 .skip))
 (D zg
 (D (D zh
 (E 17
 zi
 .skip))
 (D zj
 (D zk
 (D (D zm
 (.block 0
 (.loop Sy)))
 (D zw
 .ret)))))))),
 [4]⟩
theorem zx:ck0 false [] Mr f116=some Mr:=by kernel_rfl
def zy:=R [0,1] [I 4 (.mv (.v (.str []))),I 5 (.mv (.v (.str []))),K 6 0]
def zz:=R [0,1,9] [M 7 0,j8 8 Fj [7],I 9 (.un .not 8)]
def z_:=R [4,5,6] [I 4 (.mv (.v (.str []))),I 5 (.mv (.v (.str []))),K 6 2]
def ZeV:=R [0,1,17] [M 10 1,W 11 .lss 10 0,M 12 11,U 13 12 false 1,U 14 12 false 0,G 15 12 false (.len 0 14),w5 16 12 false .gtr 13 15,j9 17 12 k9 16]
def ZeW:=R [4,5,6] [I 4 (.mv (.v (.str []))),I 5 (.mv (.v (.str []))),K 6 3]
def ZeX:=R [4,5,6] [M 18 0,M 19 1,I 20 (.slcS 18 none (some 19)),M 21 0,M 22 1,I 23 (.slcS 21 (some 22) none),M 4 20,M 5 23,K 6 0]
def Ms:PF:=⟨false,
 (D zy
 (D (D zz
 (E 9
 (D z_
 .ret)
 .skip))
 (D (D ZeV
 (E 17
 (D ZeW
 .ret)
 .skip))
 (D ZeX
 .ret)))),
 [4,5,6]⟩
theorem ZjI:ck0 false [] Ms f117=some Ms:=by kernel_rfl
def Zas:=R [0,4,5] [w7 4 1,w7 5 2,I 6 (.mv j6),K 7 0]
def Zat:=R [0,4,5,22] [F 15 1 4,L 16 15,W 17 .eql 16 0,M 18 17,G 19 18 true (.fadr 1 5),G 20 18 true (.ld false 1 19),w5 21 18 true .eql 20 (V 0),j9 22 18 21 j0]
def Zau:=R [6,7] [M 23 0,T 24 7 4,T 25 7 5,j8 26 LQ [23,24,25],X 27 26 0,X 28 26 1,M 6 27,M 7 28]
def Zav:=R [0,4,5,8,9] [I 8 (.mv j6),I 9 (.mv j6)]
def Zaw:=R [0,4,5,8,9] [K 10 0]
def Zax:=R [0,4,5,8,9,33] [F 29 1 4,L 30 29,F 31 1 5,L 32 31,B 33 .geq 30 32]
def Zay:=R [0,4,5,8,9,10] [M 35 0,T 36 7 4,j8 37 Jz [35,36],M 34 37,X 38 34 0,X 39 34 1,M 8 38,M 10 39]
def Zaz:=R [0,4,5,8,9,10,41] [M 40 10,W 41 .neq 40 0]
def Za0:=R [6,7] [M 42 10,I 6 (.mv j6),M 7 42]
def Za1:=R [0,4,5,8,9,47] [F 43 1 5,L 44 43,F 45 1 4,L 46 45,B 47 .geq 44 46]
def ZWO:=R [0,4,5,8,9,10] [M 49 0,T 50 7 5,j8 51 Jz [49,50],M 48 51,X 52 48 0,X 53 48 1,M 9 52,M 10 53]
def ZWP:=R [0,4,5,8,9,10,55] [M 54 10,W 55 .neq 54 0]
def ZWQ:=R [6,7] [M 56 10,I 6 (.mv j6),M 7 56]
def ZWR:=R [0,4,5,8,9,57] [F 58 1 4,L 59 58,F 60 1 5,L 61 60,B 62 .eql 59 61,M 63 62,U 64 63 true 8,G 65 63 true (.len 1 64),U 66 63 true 9,G 67 63 true (.len 1 66),w5 68 63 true .add 65 67,w5 69 63 true .leq 68 (V 4),j9 70 63 69 j0,M 57 70]
def ZWS:=R [6,7] [I 71 (.bslice false 7 [] []),M 72 8,I 73 (.app 7 80 71 72),M 74 9,I 75 (.app 7 80 73 74),j8 76 QC [75],I 77 (.bslice false 7 [ZT] [(0,76)]),M 6 77,K 7 0]
def ZWT:=R [0,4,5,8,9,78] [F 79 1 4,L 80 79,F 81 1 5,L 82 81,B 83 .eql 80 82,M 78 83]
def ZWU:=R [6,7] [T 84 7 4,T 85 7 5,I 86 (.bslice false 7 [ZT,ZT] [(0,84),(1,85)]),M 6 86,K 7 0]
def ZWV:=R [0,4,5,8,9,87] [F 88 1 4,L 89 88,F 90 1 5,L 91 90,B 92 .gtr 89 91,M 87 92]
def ZWW:=R [0,5,8,11] [M 93 8,w6 94 1 93,W 95 .sub 94 1,M 11 95]
def ZWX:=R [8,11,12,13] [M 97 0,M 98 8,M 99 11,w8 100 7 98 99,T 101 7 100,T 102 7 5,j8 103 Fh [97,101,102],M 96 103,X 104 96 0,X 105 96 1,M 12 104,M 13 105]
def ZWY:=R [8,11,12,13,107] [M 106 13,W 107 .neq 106 0]
def ZWZ:=R [6,7] [M 108 13,I 6 (.mv j6),M 7 108]
def ZWa:=R [6,7] [I 109 (.bslice false 7 [] []),M 110 8,M 111 11,I 112 (.slc 7 110 none (some 111)),I 113 (.app 7 80 109 112),M 114 12,I 115 (.app 7 80 113 114),j8 116 Hl [115],M 6 116,K 7 0]
def ZWb:=R [9,10,14] [M 118 0,T 119 7 4,M 120 9,I 121 (.ixS 7 120 (V 0)),T 122 7 121,j8 123 Fh [118,119,122],M 117 123,X 124 117 0,X 125 117 1,M 14 124,M 10 125]
def ZWc:=R [9,10,14,127] [M 126 10,W 127 .neq 126 0]
def ZWd:=R [6,7] [M 128 10,I 6 (.mv j6),M 7 128]
def ZWe:=R [6,7] [I 129 (.w .imm (.bslice false 7 [] [])),M 130 14,I 131 (.w .app0 (.app 7 80 129 130)),M 132 9,I 133 (.w .blind (.slc 7 132 (some (V 1)) none)),I 134 (.app 7 80 131 133),j8 135 Hl [134],M 6 135,K 7 0]
def Mt:PF:=⟨false,
 (D Zas
 (D (D Zat
 (E 22
 (D Zau
 .ret)
 .skip))
 (D Zav
 (D Zaw
 (D (D Zax
 (E 33
 (D Zay
 (D Zaz
 (E 41
 (D Za0
 .ret)
 .skip)))
 .skip))
 (D (D Za1
 (E 47
 (D ZWO
 (D ZWP
 (E 55
 (D ZWQ
 .ret)
 .skip)))
 .skip))
 (D (.block 0
 (D ZWR
 (E 57
 (D ZWS
 .ret)
 (D ZWT
 (E 78
 (D ZWU
 .ret)
 (D ZWV
 (E 87
 (D ZWW
 (D ZWX
 (D (D ZWY
 (E 107
 (D ZWZ
 .ret)
 .skip))
 (D ZWa
 .ret))))
 .skip)))))))
 (D ZWb
 (D (D ZWc
 (E 127
 (D ZWd
 .ret)
 .skip))
 (D ZWe
 .ret)))))))))),
 [6,7]⟩
theorem ZhT:ck0 false [(26,⟨[6,7],[],[],[],[(4,.blind),(2,.app0),(0,.imm)],[]⟩)] Mt f118=some Mt:=by kernel_rfl
def ZS0:=R [3,4,5] [w7 3 0,w7 4 1,w7 5 2]
def ZS1:=R [] [I 6 (.w (.only 3) (.ld false 1 3)),L 7 3,I 8 (.nilck 7),F 9 1 8,L 10 9,I 11 (.mkf (.func Xp) [] [3,5,4]),I 12 (.bslice true 1 [.nilfunc] [(0,11)]),I 13 (.w (.grow 3) (.app 1 8 10 12)),I 14 (.nilck 6),F 15 1 14,N 1 15 13]
def Mu:PF:=⟨true,
 (D ZS0
 ZS1),
 []⟩
theorem Za3:ck0 true [(1,⟨[],[6],[],[],[(0,(.only 3)),(7,(.grow 3))],[]⟩)] Mu f119=some Mu:=by kernel_rfl
def ZNN:=R [0,1] [I 1 (.box (.v ZN))]
def ZNO:=R [1] [T 2 3 0,N 3 1 2]
def Mv:PF:=⟨false,
 (D ZNN
 (D ZNO
 .ret)),
 [.c 1 true 3]⟩
theorem ZS3:ck0 false [] Mv f120=some Mv:=by kernel_rfl
def ZNP:=R [0,1,2] [I 2 (.box (.v ZN))]
def ZNQ:=R [1,2,3] [F 6 1 0,L 7 6,I 8 (.build [j7,(.str []),.nils] [(0,1,7)]),I 3 (.box (.v ZN)),N 3 3 8]
def ZNR:=R [2,3,9,10,11] [L 9 1,w6 10 1 9,K 11 0]
def ZNS:=R [2,3,9,10,11,12] [B 12 .lss 11 10]
def ZNT:=R [2,3,5,9,10,11] [w8 13 1 9 11,L 14 13,M 5 14]
def ZNU:=R [2,3,9,10,11] [F 15 2 3,L 16 15,M 17 5,I 18 (.nilck 17),F 19 0 18,L 20 19,M 21 5,I 22 (.nilck 21),F 23 2 22,T 24 3 23,I 25 (.build [(.int .u64 0),j7,j7,j7] [(0,1,20),(1,3,24)]),I 26 (.w .imm (.bslice false 4 [ZK] [(0,25)])),I 27 (.app 4 32 16 26),F 28 2 3,N 1 28 27]
def ZNV:=R [2,3,9,10,11] [W 29 .add 11 1,M 11 29]
def ZNW:PC:=(D ZNS
 (D (E 12
 .skip
 (.exit 0))
 (D (.block 1
 (D ZNT
 ZNU))
 ZNV)))
def ZNX:=R [2] [T 30 3 3,N 3 2 30]
def Mw:PF:=⟨false,
 (D ZNP
 (D ZNQ
 (D (D ZNR
 (.block 0
 (.loop ZNW)))
 (D ZNX
 .ret)))),
 [.c 2 true 3]⟩
theorem ZS5:ck0 false [(5,⟨[2,3,9,10,11],[],[],[],[(11,.imm)],[]⟩)] Mw f121=some Mw:=by kernel_rfl
def ZS6:=R [0] [K 2 0]
def ZS7:=R [3,4] [M 6 0,j8 7 Xc [6],M 5 7,X 8 5 0,X 9 5 1,M 3 8,M 4 9]
def ZS8:=R [19] [M 10 3,W 11 .geq 10 16384,M 12 11,U 13 12 false 4,G 14 12 false (.bin .lss 13 (.v (.int .u64 1))),j9 15 12 k9 14,M 16 15,U 17 16 false 4,G 18 16 false (.bin .gtr 17 (.v (.int .u64 4294967295))),j9 19 16 k9 18]
def ZS9:=R [2] [K 2 2]
def ZTA:=R [2] [K 2 0]
def Mx:PF:=⟨false,
 (D ZS6
 (D (D ZS7
 (D ZS8
 (E 19
 (D ZS9
 .ret)
 .skip)))
 (D ZTA
 .ret))),
 [2]⟩
theorem Za5:ck0 false [] Mx f132=some Mx:=by kernel_rfl
def ZTB:=R [0] [K 2 0,I 3 (.mv (.v (.int .u64 0)))]
def ZTC:=R [2,3] [M 4 0,I 5 (.bin .and 4 (.v (.int .u64 65535))),I 6 (.cint .i64 5),M 7 0,I 8 (.bin .shr 7 (.v (.int .u64 16))),M 2 6,M 3 8]
def My:PF:=⟨false,
 (D ZTB
 (D ZTC
 .ret)),
 [2,3]⟩
theorem Za7:ck0 false [] My f133=some My:=by kernel_rfl
def Za8:=R [1] [w7 1 0,K 2 0]
def Za9:=R [1,5] [T 3 3 1,j8 4 Hm [3],I 5 (.un .not 4)]
def ZbA:=R [2] [K 2 23]
def ZbB:=R [9] [T 6 3 1,j8 7 Fi [6],I 8 (.fld false 0 1 7),W 9 .gtr 8 65536]
def ZbC:=R [2] [K 2 5]
def ZbD:=R [2] [K 2 0]
def Mz:PF:=⟨false,
 (D Za8
 (D (D Za9
 (E 5
 (D ZbA
 .ret)
 .skip))
 (D (D ZbB
 (E 9
 (D ZbC
 .ret)
 .skip))
 (D ZbD
 .ret)))),
 [2]⟩
theorem ZhV:ck0 false [] Mz f134=some Mz:=by kernel_rfl
def ZhW:=R [1,2] [w7 1 0,I 2 (.box (.v ZM))]
def ZhX:=R [1,2,8] [F 6 0 1,L 7 6,W 8 .eql 7 0]
def ZhY:=R [2] [F 9 1 1,L 10 9,j8 11 LR [10],N 3 2 11]
def ZhZ:=R [1,2,3] [I 3 (.onil 3)]
def Zha:=R [2,3,13,14,15] [F 12 2 1,L 13 12,w6 14 1 13,K 15 0]
def Zhb:=R [2,3,13,14,15,16] [B 16 .lss 15 14]
def Zhc:=R [2,3,5,13,14,15] [w8 17 4 13 15,T 18 4 17,I 5 (.box (.v ZK)),N 4 5 18]
def Zhd:=R [2,3,13,14,15] [M 19 3,F 20 1 5,T 21 3 20,I 22 (.bslice false 3 [ZM] [(0,21)]),I 23 (.app 3 24 19 22),M 3 23]
def Zhe:=R [2,3,13,14,15] [W 24 .add 15 1,M 15 24]
def Zhf:PC:=(D Zhb
 (D (E 16
 .skip
 (.exit 0))
 (D (.block 1
 (D Zhc
 Zhd))
 Zhe)))
def ZeY:=R [2] [M 25 3,j8 26 LS [25],N 3 2 26]
def M0:PF:=⟨false,
 (D ZhW
 (D (D ZhX
 (E 8
 (D ZhY
 .ret)
 .skip))
 (D ZhZ
 (D (D Zha
 (.block 0
 (.loop Zhf)))
 (D ZeY
 .ret))))),
 [.c 2 true 3]⟩
theorem Zk2:ck0 false [(3,⟨[1,2,3],[0],[],[],[],[]⟩)] M0 f135=some M0:=by kernel_rfl
def ZPs:=R [0,1,2] [K 4 0]
def ZPt:=R [1,2,9] [M 5 0,L 6 1,L 7 2,B 8 .rem 6 7,B 9 .lss 5 8]
def ZPu:=R [4] [L 10 1,L 11 2,B 12 .quo 10 11,W 13 .add 12 1,M 4 13]
def ZPv:=R [4] [L 14 1,L 15 2,B 16 .quo 14 15,M 4 16]
def M_:PF:=⟨false,
 (D ZPs
 (D (D ZPt
 (E 9
 (D ZPu
 .ret)
 .skip))
 (D ZPv
 .ret))),
 [4]⟩
theorem ZWg:ck0 false [] M_ f136=some M_:=by kernel_rfl
def ZbF:=R [0] [I 2 (.mv j0)]
def ZbG:=R [2] [M 3 0,w6 4 0 3,W 5 .geq 4 1,M 6 5,U 7 6 true 0,G 8 6 true (.len 0 7),w5 9 6 true .leq 8 (V 16),j9 10 6 9 j0,M 2 10]
def NA:PF:=⟨false,
 (D ZbF
 (D ZbG
 .ret)),
 [2]⟩
theorem Zhh:ck0 false [] NA f137=some NA:=by kernel_rfl
def ZWh:=R [0,4,5] [w7 4 1,w7 5 2,I 6 (.mv j6),K 7 0]
def ZWi:=R [0,4,5,8,9] [T 17 7 4,I 18 (.call .pure (.v (.func (.func Qj) [] [])) [17]),T 19 7 5,j8 20 Qj [19],M 8 18,M 9 20]
def ZWj:=R [0,4,5,32] [M 21 8,M 22 9,B 23 .add 21 22,W 24 .gtr 23 16,M 25 24,U 26 25 true 8,w5 27 25 true .geq 26 (V 8),j9 28 25 27 j0,M 29 28,U 30 29 true 9,w5 31 29 true .geq 30 (V 8),j9 32 29 31 j0]
def ZWk:=R [6,7] [T 33 7 4,T 34 7 5,I 35 (.bslice false 7 [ZT,ZT] [(0,33),(1,34)]),M 6 35,K 7 0]
def ZWl:=R [0,5,10,11] [M 37 0,T 38 7 4,j8 39 ET [37,38],M 36 39,X 40 36 0,X 41 36 1,M 10 40,M 11 41]
def ZWm:=R [0,5,10,11,43] [M 42 11,W 43 .neq 42 0]
def ZWn:=R [6,7] [M 44 11,I 6 (.mv j6),M 7 44]
def ZWo:=R [10,11,12] [M 46 0,T 47 7 5,j8 48 ET [46,47],M 45 48,X 49 45 0,X 50 45 1,M 12 49,M 11 50]
def ZWp:=R [10,11,12,52] [M 51 11,W 52 .neq 51 0]
def ZWq:=R [6,7] [M 53 11,I 6 (.mv j6),M 7 53]
def ZTD:=R [11,13] [M 55 10,M 56 12,j8 57 LT [55,56],M 54 57,X 58 54 0,X 59 54 1,M 13 58,M 11 59]
def ZTE:=R [11,13,61] [M 60 11,W 61 .neq 60 0]
def ZTF:=R [6,7] [M 62 11,I 6 (.mv j6),M 7 62]
def ZTG:=R [13,14] [I 14 (.onil 7)]
def ZTH:=R [14,63,64,65] [M 63 13,w6 64 1 63,K 65 0]
def ZTI:=R [14,63,64,65,66] [B 66 .lss 65 64]
def ZTJ:=R [14,16,63,64,65] [w8 67 1 63 65,L 68 67,M 16 68]
def ZTK:=R [14,63,64,65] [M 69 14,M 70 16,I 71 (.build [(.int .u64 0),j7,j7,j7,j7,(.str []),.nils] [(5,1,70)]),I 72 (.bslice false 7 [ZT] [(0,71)]),I 73 (.app 7 80 69 72),M 14 73]
def ZTL:=R [14,63,64,65] [W 74 .add 65 1,M 65 74]
def Sz:PC:=(D ZTI
 (D (E 66
 .skip
 (.exit 0))
 (D (.block 1
 (D ZTJ
 ZTK))
 ZTL)))
def ZTM:=R [6,7] [M 75 14,M 6 75,K 7 0]
def NB:PF:=⟨false,
 (D ZWh
 (D ZWi
 (D (D ZWj
 (E 32
 (D ZWk
 .ret)
 .skip))
 (D ZWl
 (D (D ZWm
 (E 43
 (D ZWn
 .ret)
 .skip))
 (D ZWo
 (D (D ZWp
 (E 52
 (D ZWq
 .ret)
 .skip))
 (D ZTD
 (D (D ZTE
 (E 61
 (D ZTF
 .ret)
 .skip))
 (D ZTG
 (D (D ZTH
 (.block 0
 (.loop Sz)))
 (D ZTM
 .ret)))))))))))),
 [6,7]⟩
theorem Zea:ck0 false [(1,⟨[0,4,5,8,9],[],[(1,.pure)],[],[],[]⟩),(13,⟨[13,14],[0],[],[],[],[]⟩)] NB f138=some NB:=by kernel_rfl
def Zeb:=R [0] [I 2 (.mv j6)]
def Zec:=R [0,6] [M 4 0,w6 5 1 4,W 6 .leq 5 4]
def Zed:=R [2] [M 7 0,j8 8 QC [7],I 9 (.bslice false 7 [ZT] [(0,8)]),M 2 9]
def Zee:=R [0,3] [M 10 0,w6 11 1 10,W 12 .add 11 1,W 13 .quo 12 2,M 3 13]
def Zef:=R [2] [M 14 0,M 15 3,I 16 (.slc 7 14 none (some 15)),I 17 (.call .pure (.v (.func (.func QC) [] [])) [16]),M 18 0,M 19 3,I 20 (.slc 7 18 (some 19) none),j8 21 QC [20],I 22 (.bslice false 7 [ZT,ZT] [(0,17),(1,21)]),M 2 22]
def NC:PF:=⟨false,
 (D Zeb
 (D (D Zec
 (E 6
 (D Zed
 .ret)
 .skip))
 (D Zee
 (D Zef
 .ret)))),
 [2]⟩
theorem ZjK:ck0 false [(4,⟨[2],[],[(3,.pure)],[],[],[]⟩)] NC f139=some NC:=by kernel_rfl
def ZNY:=R [0,1,2] [I 3 (.mv (.v (.int .u64 0))),K 4 0]
def ZNZ:=R [2,5,6] [L 8 0,I 9 (.nilck 8),F 10 0 9,L 11 10,L 12 1,I 13 (.call .pure 12 []),j8 14 Ja [11,13],M 7 14,X 15 7 0,X 16 7 1,M 5 15,M 6 16]
def ZNa:=R [2,5,6,18] [M 17 6,W 18 .eql 17 0]
def ZNb:=R [5,6] [L 19 2,M 20 5,I 21 (.nilck 19),F 22 0 21,N 1 22 20]
def ZNc:=R [3,4] [M 23 5,M 24 6,M 3 23,M 4 24]
def ND:PF:=⟨false,
 (D ZNY
 (D ZNZ
 (D (D ZNa
 (E 18
 ZNb
 .skip))
 (D ZNc
 .ret)))),
 [3,4]⟩
theorem ZTO:ck0 false [(1,⟨[2,5,6],[],[(5,.pure)],[],[],[]⟩)] ND f140=some ND:=by kernel_rfl
def ZIh:=R [0,3] [w7 3 1,I 4 (.mv (.v (.int .u64 0))),K 5 0]
def ZIi:=R [0,3,16] [M 15 0,I 16 (.eqs false 3 [] 15 (.v .nilptr))]
def ZIj:=R [4,5] [I 4 (.mv (.v (.int .u64 0))),K 5 1]
def ZIk:=R [0,3,6] [T 17 3 3,j8 18 Hk [17],M 6 18]
def ZIl:=R [0,3,6,20] [M 19 6,W 20 .neq 19 0]
def ZIm:=R [4,5] [M 21 6,I 4 (.mv (.v (.int .u64 0))),M 5 21]
def ZIn:=R [0,3,23,24,25] [F 22 2 3,L 23 22,w6 24 1 23,K 25 0]
def ZIo:=R [0,3,23,24,25,26] [B 26 .lss 25 24]
def ZIp:=R [0,3,8,23,24,25] [w8 27 4 23 25,T 28 4 27,I 8 (.box (.v ZK)),N 4 8 28]
def ZIq:=R [0,3,8,9,10,23,24,25] [M 30 0,I 31 (.nilck 30),F 32 2 31,L 33 32,F 34 0 8,L 35 34,I 36 (.look 0 ZN true 33 35),M 29 36,X 37 29 0,X 38 29 1,I 9 (.box (.v ZN)),N 3 9 37,M 10 38]
def ZGr:=R [0,3,8,9,23,24,25,40] [M 39 10,I 40 (.un .not 39)]
def ZGs:=R [4,5] [I 4 (.mv (.v (.int .u64 0))),K 5 10]
def ZGt:=R [0,3,8,9,11,12,23,24,25] [T 42 3 9,j8 43 Xb [42],M 41 43,X 44 41 0,X 45 41 1,I 11 (.box (.v ZM)),N 3 11 44,M 12 45]
def ZGu:=R [0,3,23,24,25,61] [M 46 12,W 47 .neq 46 0,M 48 47,G 49 48 false (.fadr 0 9),G 50 48 false (.ld false 1 49),G 51 48 false (.fadr 0 3),G 52 48 false (.ld false 1 51),w5 53 48 false .sub 52 (V 1),w5 54 48 false .neq 50 53,j9 55 48 k9 54,M 56 55,G 57 56 false (.ld true 3 11),G 58 56 false (.fadr 1 8),G 59 56 false (.ld true 3 58),G 60 56 false (.eqs true 0 [(0,0),(1,0),(2,0)] 57 59),j9 61 56 k9 60]
def ZGv:=R [4,5] [I 4 (.mv (.v (.int .u64 0))),K 5 23]
def ZGw:=R [0,3,23,24,25] [W 62 .add 25 1,M 25 62]
def ZGx:PC:=(D ZIo
 (D (E 26
 .skip
 (.exit 0))
 (D (.block 1
 (D ZIp
 (D ZIq
 (D (D ZGr
 (E 40
 (D ZGs
 .ret)
 .skip))
 (D ZGt
 (D ZGu
 (E 61
 (D ZGv
 .ret)
 .skip)))))))
 ZGw)))
def ZGy:=R [0,3,13,14] [M 64 0,I 65 (.nilck 64),F 66 1 65,L 67 66,j8 68 Xd [67],M 63 68,X 69 63 0,X 70 63 1,M 13 69,M 14 70]
def ZGz:=R [0,3,13,14,72] [M 71 14,W 72 .neq 71 0]
def ZG0:=R [4,5] [M 73 14,I 4 (.mv (.v (.int .u64 0))),M 5 73]
def S0:=R [0,3,13] [F 74 2 3,L 75 74,j8 76 Zp [75],F 77 2 3,N 1 77 76]
def S3:=R [0,13] [M 78 0,I 79 (.nilck 78),F 80 2 79,L 81 80,M 82 13,T 83 3 3,J (.mupd 0 81 82 83)]
def S7:=R [13] [M 84 0,I 85 (.nilck 84),F 86 3 85,L 87 86,W 88 .add 87 1,I 89 (.nilck 84),F 90 3 89,N 1 90 88]
def S8:=R [4,5] [M 91 13,M 4 91,K 5 0]
def NE:PF:=⟨false,
 (D ZIh
 (D (D ZIi
 (E 16
 (D ZIj
 .ret)
 .skip))
 (D (D ZIk
 (D ZIl
 (E 20
 (D ZIm
 .ret)
 .skip)))
 (D (D ZIn
 (.block 0
 (.loop ZGx)))
 (D ZGy
 (D (D ZGz
 (E 72
 (D ZG0
 .ret)
 .skip))
 (D S0
 (D S3
 (D S7
 (D S8
 .ret)))))))))),
 [4,5]⟩
theorem ZL8:ck0 false [] NE f141=some NE:=by kernel_rfl
def ZWr:=R [1] [w7 1 0,I 2 (.mv j0)]
def ZWs:=R [1,9] [F 7 0 1,L 8 7,W 9 .eql 8 0]
def ZWt:=R [2] [F 10 1 1,L 11 10,w6 12 0 11,W 13 .geq 12 1,M 14 13,G 15 14 true (.fadr 1 1),G 16 14 true (.ld false 1 15),G 17 14 true (.len 0 16),w5 18 14 true .leq 17 (V 16),j9 19 14 18 j0,M 20 19,G 21 20 true (.fadr 2 1),G 22 20 true (.ld false 1 21),G 23 20 true (.len 1 22),w5 24 20 true .eql 23 (V 0),j9 25 20 24 j0,M 2 25]
def ZWu:=R [1,50] [F 26 0 1,L 27 26,W 28 .lss 27 1,M 29 28,G 30 29 false (.fadr 0 1),G 31 29 false (.ld false 1 30),w5 32 29 false .gtr 31 (V 16),j9 33 29 k9 32,M 34 33,G 35 34 false (.fadr 1 1),G 36 34 false (.ld false 1 35),G 37 34 false (.bin .neq 36 (.v (.str []))),j9 38 34 k9 37,M 39 38,G 40 39 false (.fadr 2 1),G 41 39 false (.ld false 1 40),G 42 39 false (.len 1 41),w5 43 39 false .lss 42 (V 2),j9 44 39 k9 43,M 45 44,G 46 45 false (.fadr 2 1),G 47 45 false (.ld false 1 46),G 48 45 false (.len 1 47),w5 49 45 false .gtr 48 (V 4),j9 50 45 k9 49]
def ZWv:=R [2] [I 2 (.mv j0)]
def ZWw:=R [1,3,4] [F 52 0 1,L 53 52,W 54 .sub 53 1,j8 55 LU [54],M 51 55,X 56 51 0,X 57 51 1,M 3 56,M 4 57]
def ZWx:=R [3,4,59,60,61] [F 58 2 1,L 59 58,w6 60 1 59,K 61 0]
def ZWy:=R [3,4,59,60,61,62] [B 62 .lss 61 60]
def ZWz:=R [3,4,6,59,60,61] [w8 63 4 59 61,T 64 4 63,I 6 (.box (.v ZK)),N 4 6 64]
def ZW0:=R [3,4,59,60,61,112] [F 65 0 6,L 66 65,j8 67 YV [66],W 68 .neq 67 0,M 69 68,G 70 69 false (.fadr 1 6),G 71 69 false (.fadr 0 70),G 72 69 false (.ld false 1 71),U 73 69 false 3,w5 74 69 false .lss 72 73,j9 75 69 k9 74,M 76 75,G 77 76 false (.fadr 1 6),G 78 76 false (.fadr 0 77),G 79 76 false (.ld false 1 78),U 80 76 false 4,w5 81 76 false .gtr 79 80,j9 82 76 k9 81,M 83 82,G 84 83 false (.fadr 1 6),G 85 83 false (.fadr 1 84),G 86 83 false (.ld false 1 85),w5 87 83 false .lss 86 (V 0),j9 88 83 k9 87,M 89 88,G 90 89 false (.fadr 1 6),G 91 89 false (.fadr 1 90),G 92 89 false (.ld false 1 91),G 93 89 false (.fadr 1 6),G 94 89 false (.fadr 0 93),G 95 89 false (.ld false 1 94),w5 96 89 false .gtr 92 95,j9 97 89 k9 96,M 98 97,G 99 98 false (.fadr 1 6),G 100 98 false (.fadr 2 99),G 101 98 false (.ld false 1 100),w5 102 98 false .lss 101 (V 0),j9 103 98 k9 102,M 104 103,G 105 104 false (.fadr 1 6),G 106 104 false (.fadr 2 105),G 107 104 false (.ld false 1 106),G 108 104 false (.fadr 1 6),G 109 104 false (.fadr 1 108),G 110 104 false (.ld false 1 109),w5 111 104 false .gtr 107 110,j9 112 104 k9 111]
def ZTP:=R [2] [I 2 (.mv j0)]
def ZTQ:=R [3,4,59,60,61] [W 113 .add 61 1,M 61 113]
def ZTR:PC:=(D ZWy
 (D (E 62
 .skip
 (.exit 0))
 (D (.block 1
 (D ZWz
 (D ZW0
 (E 112
 (D ZTP
 .ret)
 .skip))))
 ZTQ)))
def ZTS:=R [2] [I 2 (.mv k9)]
def NF:PF:=⟨false,
 (D ZWr
 (D (D ZWs
 (E 9
 (D ZWt
 .ret)
 .skip))
 (D (D ZWu
 (E 50
 (D ZWv
 .ret)
 .skip))
 (D ZWw
 (D (D ZWx
 (.block 0
 (.loop ZTR)))
 (D ZTS
 .ret)))))),
 [2]⟩
theorem Zeh:ck0 false [] NF f147=some NF:=by kernel_rfl
def ZbH:=R [0,2] [I 2 (.box (.v ZM))]
def ZbI:=R [0,2,3] [I 3 (.box (.v ZM))]
def ZbJ:=R [0,2,3,6,7] [I 6 (.build [.nilfunc,.nilfunc,.nilfunc] [(0,1,(.v (.func (.func Hn) [] []))),(1,1,(.v (.func (.func Xq) [] []))),(2,1,(.v (.func (.func Ho) [] [])))]),K 7 0]
def ZbK:=R [0,2,3,6,7,8] [W 8 .lss 7 3]
def ZbL:=R [0,2,3,4,5,6,7] [M 9 7,I 10 (.ixArr false 3 1 6 7),M 4 9,M 5 10]
def ZbM:=R [0,2,3,6,7] [M 11 4,M 12 0,M 13 5,j8 14 LW [12,13],I 15 (.ixA 3 1 3 11),N 1 15 14]
def ZbN:=R [0,2,3,6,7] [W 16 .add 7 1,M 7 16]
def ZbO:PC:=(D ZbK
 (D (E 8
 .skip
 (.exit 0))
 (D (.block 1
 (D ZbL
 ZbM))
 ZbN)))
def ZbP:=R [2] [T 17 3 3,j8 18 Yn [17],N 3 2 18]
def NG:PF:=⟨false,
 (D ZbH
 (D ZbI
 (D (D ZbJ
 (.block 0
 (.loop ZbO)))
 (D ZbP
 .ret)))),
 [.c 2 true 3]⟩
theorem Zhj:ck0 false [] NG f148=some NG:=by kernel_rfl
def ZW1:=R [0,2] [I 2 (.box (.v ZM))]
def ZW2:=R [0,2,3] [I 3 (.box (.v ZM))]
def ZW3:=R [2,3,8,9,10] [M 8 0,w6 9 1 8,K 10 0]
def ZW4:=R [2,3,8,9,10,11] [B 11 .lss 10 9]
def ZW5:=R [2,3,5,8,9,10] [w8 12 3 8 10,T 13 3 12,I 5 (.box (.v ZM)),N 3 5 13]
def ZW6:=R [2,3,8,9,10,20,21] [F 14 0 5,L 15 14,F 16 1 5,L 17 16,F 18 2 5,L 19 18,I 20 (.build [j7,j7,j7] [(0,1,15),(1,1,17),(2,1,19)]),K 21 0]
def ZW7:=R [2,3,8,9,10,20,21,22] [W 22 .lss 21 3]
def ZW8:=R [2,3,6,7,8,9,10,20,21] [M 23 21,I 24 (.ixArr false 3 1 20 21),M 6 23,M 7 24]
def ZW9:=R [2,3,8,9,10,20,21] [M 25 6,I 26 (.ixA 3 1 3 25),L 27 26,M 28 7,B 29 .add 27 28,I 30 (.ixA 3 1 3 25),N 1 30 29]
def ZXA:=R [2,3,8,9,10,20,21] [W 31 .add 21 1,M 21 31]
def ZTT:PC:=(D ZW7
 (D (E 22
 .skip
 (.exit 2))
 (D (.block 3
 (D ZW8
 ZW9))
 ZXA)))
def ZTU:=R [2,3,8,9,10] [W 32 .add 10 1,M 10 32]
def ZTV:PC:=(D ZW4
 (D (E 11
 .skip
 (.exit 0))
 (D (.block 1
 (D ZW5
 (D ZW6
 (.block 2
 (.loop ZTT)))))
 ZTU)))
def ZTW:=R [2] [T 33 3 3,j8 34 Yn [33],N 3 2 34]
def NH:PF:=⟨false,
 (D ZW1
 (D ZW2
 (D (D ZW3
 (.block 0
 (.loop ZTV)))
 (D ZTW
 .ret)))),
 [.c 2 true 3]⟩
theorem Zej:ck0 false [] NH f149=some NH:=by kernel_rfl
def ZbQ:=R [0,1] [I 4 (.mv j6),K 5 0]
def ZbR:=R [0,1,15] [M 8 0,j8 9 Fj [8],I 10 (.un .not 9),M 11 10,U 12 11 false 1,G 13 11 false (C Fj [12]),G 14 11 false (.un .not 13),j9 15 11 k9 14]
def ZbS:=R [4,5] [I 4 (.mv j6),K 5 2]
def ZbT:=R [0,1,6] [M 16 0,M 17 1,B 18 .add 16 17,M 6 18]
def ZbU:=R [0,1,6,21] [M 19 6,w6 20 0 19,W 21 .leq 20 16]
def ZbV:=R [4,5] [M 22 6,I 23 (.bslice false 1 [(.str [])] [(0,22)]),M 4 23,K 5 0]
def ZbW:=R [0,1,6,31] [M 24 0,w6 25 0 24,W 26 .geq 25 8,M 27 26,U 28 27 true 1,G 29 27 true (.len 0 28),w5 30 27 true .geq 29 (V 8),j9 31 27 30 j0]
def ZbX:=R [4,5] [M 32 0,M 33 1,I 34 (.bslice false 1 [(.str []),(.str [])] [(0,32),(1,33)]),M 4 34,K 5 0]
def ZbY:=R [6,7] [M 35 6,w6 36 0 35,W 37 .add 36 1,W 38 .quo 37 2,M 7 38]
def ZbZ:=R [4,5] [M 39 6,M 40 7,I 41 (.slcS 39 none (some 40)),M 42 6,M 43 7,I 44 (.slcS 42 (some 43) none),I 45 (.bslice false 1 [(.str []),(.str [])] [(0,41),(1,44)]),M 4 45,K 5 0]
def NI:PF:=⟨false,
 (D ZbQ
 (D (D ZbR
 (E 15
 (D ZbS
 .ret)
 .skip))
 (D ZbT
 (D (D ZbU
 (E 21
 (D ZbV
 .ret)
 .skip))
 (D (D ZbW
 (E 31
 (D ZbX
 .ret)
 .skip))
 (D ZbY
 (D ZbZ
 .ret))))))),
 [4,5]⟩
theorem Zhl:ck0 false [] NI f150=some NI:=by kernel_rfl
def ZG1:=R [0] [I 2 (.mv (.v (.int .u64 0))),K 3 0]
def ZG2:=R [0,6] [M 5 0,I 6 (.eqs false 3 [] 5 (.v .nilptr))]
def ZG3:=R [2,3] [I 2 (.mv (.v (.int .u64 0))),K 3 1]
def ZG4:=R [0,12] [M 7 0,I 8 (.nilck 7),F 9 0 8,L 10 9,w6 11 1 10,W 12 .eql 11 0]
def ZG5:=R [2,3] [I 2 (.mv (.v (.int .u64 0))),K 3 6]
def ZG6:=R [0,4] [M 13 0,I 14 (.nilck 13),F 15 0 14,L 16 15,M 17 0,I 18 (.nilck 17),F 19 0 18,L 20 19,w6 21 1 20,W 22 .sub 21 1,w8 23 1 16 22,L 24 23,M 4 24]
def ZG7:=R [0,4] [M 25 0,M 26 0,I 27 (.nilck 26),F 28 0 27,L 29 28,M 30 0,I 31 (.nilck 30),F 32 0 31,L 33 32,w6 34 1 33,W 35 .sub 34 1,I 36 (.slc 1 29 none (some 35)),I 37 (.nilck 25),F 38 0 37,N 1 38 36]
def ZG8:=R [0,4] [M 39 0,I 40 (.nilck 39),F 41 1 40,L 42 41,M 43 4,w8 44 1 42 43,J (.st 1 44 (.v (.int .u8 1)))]
def ZG9:=R [2,3] [M 45 4,M 46 0,I 47 (.nilck 46),F 48 2 47,L 49 48,M 50 4,w8 51 1 49 50,L 52 51,j8 53 He [45,52],X 54 53 0,X 55 53 1,M 2 54,M 3 55]
def NJ:PF:=⟨false,
 (D ZG1
 (D (D ZG2
 (E 6
 (D ZG3
 .ret)
 .skip))
 (D (D ZG4
 (E 12
 (D ZG5
 .ret)
 .skip))
 (D ZG6
 (D ZG7
 (D ZG8
 (D ZG9
 .ret))))))),
 [2,3]⟩
theorem ZKa:ck0 false [] NJ f151=some NJ:=by kernel_rfl
def ZXB:=R [0] [K 2 0,K 3 0]
def ZXC:=R [0,2,3] [K 2 8,K 3 16]
def ZXD:=R [2,3,4,5] [M 4 0,K 5 0]
def ZXE:=R [2,3,4,5,6] [B 6 .lss 5 4]
def ZXF:=R [2,3,4,5] [M 7 2,W 8 .mul 7 2,M 2 8]
def ZXG:=R [2,3,4,5] [M 9 3,W 10 .mul 9 4,I 11 (.mnx false 10 (V 65536)),M 3 11]
def ZXH:=R [2,3,4,5] [W 12 .add 5 1,M 5 12]
def ZXI:PC:=(D ZXE
 (D (E 6
 .skip
 (.exit 0))
 (D (.block 1
 (D ZXF
 ZXG))
 ZXH)))
def ZXJ:=R [2,3] [M 13 2,M 14 3,I 15 (.mnx false 14 (V 65536)),M 2 13,M 3 15]
def NK:PF:=⟨false,
 (D ZXB
 (D ZXC
 (D (D ZXD
 (.block 0
 (.loop ZXI)))
 (D ZXJ
 .ret)))),
 [2,3]⟩
theorem Zel:ck0 false [] NK f153=some NK:=by kernel_rfl
def ZPz:=R [] [I 2 (.mv j0)]
def ZP0:=R [2] [I 2 (.mv k9)]
def NL:PF:=⟨false,
 (D ZPz
 (D ZP0
 .ret)),
 [2]⟩
theorem ZXL:ck0 false [] NL f154=some NL:=by kernel_rfl
def ZNd:=R [0] [I 2 (.mv j0)]
def ZNe:=R [2] [M 3 0,I 4 (.bin .lss 3 (.v (.int .u8 128))),M 5 4,U 6 5 false 0,G 7 5 false (.bin .gtr 6 (.v (.int .u8 191))),j9 8 5 k9 7,M 2 8]
def NM:PF:=⟨false,
 (D ZNd
 (D ZNe
 .ret)),
 [2]⟩
theorem ZTY:ck0 false [] NM f155=some NM:=by kernel_rfl
def ZP1:=R [0] [I 2 (.mv j0)]
def ZP2:=R [2] [M 3 0,I 4 (.bin .eql 3 (.v (.int .u8 10))),M 2 4]
def NN:PF:=⟨false,
 (D ZP1
 (D ZP2
 .ret)),
 [2]⟩
theorem ZXN:ck0 false [] NN f156=some NN:=by kernel_rfl
def ZP3:=R [0,1] [K 4 0]
def ZP4:=R [0,1,5] [K 5 0]
def ZP5:=R [0,1,5,8,9] [M 7 0,w6 8 0 7,K 9 0]
def ZP6:=R [0,1,5,8,9,10] [B 10 .lss 9 8]
def ZP7:=R [0,1,5,6,8,9] [M 11 9,M 6 11]
def ZP8:=R [0,1,5,8,9,16] [M 12 1,M 13 0,M 14 6,I 15 (.ixStr 13 14),I 16 (.call .norm 12 [15])]
def ZP9:=R [0,1,5,8,9] [M 17 5,W 18 .add 17 1,M 5 18]
def ZQA:=R [0,1,5,8,9] [W 19 .add 9 1,M 9 19]
def ZQB:PC:=(D ZP6
 (D (E 10
 .skip
 (.exit 0))
 (D (.block 1
 (D ZP7
 (D ZP8
 (E 16
 ZP9
 .skip))))
 ZQA)))
def ZQC:=R [4] [M 20 5,M 4 20]
def NO:PF:=⟨false,
 (D ZP3
 (D ZP4
 (D (D ZP5
 (.block 0
 (.loop ZQB)))
 (D ZQC
 .ret)))),
 [4]⟩
theorem ZXP:ck0 false [] NO f157=some NO:=by kernel_rfl
def ZKb:=R [1,2] [w7 1 0,I 2 (.box (.v ZM))]
def ZKc:=R [1,2,5] [T 3 3 1,I 4 (.build [j7,j7,j7] []),I 5 (.eqs false 0 [(0,0),(1,0),(2,0)] 3 4)]
def ZKd:=R [2] [I 6 (.build [j7,j7,j7] []),N 3 2 6]
def ZKe:=R [2] [I 7 (.ixA 3 1 1 (V 0)),L 8 7,I 9 (.ixA 3 1 1 (V 1)),L 10 9,I 11 (.ixA 3 1 1 (V 2)),L 12 11,I 13 (.build [j7,j7,j7] [(0,1,8),(1,1,10),(2,1,12)]),N 3 2 13]
def NP:PF:=⟨false,
 (D ZKb
 (D (D ZKc
 (E 5
 (D ZKd
 .ret)
 .skip))
 (D ZKe
 .ret))),
 [.c 2 true 3]⟩
theorem ZNg:ck0 false [] NP f158=some NP:=by kernel_rfl
end Go.Q15
