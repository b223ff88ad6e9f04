/- Resolved code, printed by program. No condition. -/
import Derived.Test.YtleajkoecgbnlaaGreatProg
import Derived.KernelRfl
import Derived.Test.YtleajkoecgbnlaaGreatCaT3
set_option linter.unusedVariables false
set_option linter.unusedSimpArgs false
namespace Go.Q15
open Go Go.QAbs Go.Proofs
set_option maxRecDepth 100000
noncomputable abbrev c0(b:Bool)(h:List Hint)(f:Func):=Zo Proofs.Tryz.prog b h f
def kp0:PC->List (List Nat)
 | .seq a b=>kp0 a++kp0 b
 | .reg k _=>[k]
 | .regH _ k _=>[k]
 | .ite _ a b=>kp0 a++kp0 b
 | .loop b=>kp0 b
 | .block _ b=>kp0 b
 | _=>[]
def hz0(ov:List (Nat × Hint)):Nat->List (List Nat)->List Hint
 | _,[]=>[]
 | n,k::l=>((ov.find? fun p=>p.1==n).map (·.2)).getD ⟨k,[],[],[],[],[]⟩::hz0 ov (n+1) l
def h0(ov:List (Nat × Hint))(p:PF):List Hint:=hz0 ov 0 (kp0 p.body)
def h0R(ov:List (Nat × Hint))(p:RF):List Hint:=hz0 ov 0 (kp0 p.pre++kp0 p.rng.assign++kp0 p.rng.body++kp0 p.post)
noncomputable abbrev ck0 (b:Bool) (o:List (Nat × Hint)) (p:PF) (f:Func):=c0 b (h0 o p) f
abbrev JV:FuncId:=11
abbrev Xz:FuncId:=17
abbrev ZYl:FuncId:=21
abbrev ZN1:FuncId:=27
abbrev ZBU:FuncId:=29
abbrev XY:FuncId:=35
abbrev ZAO:FuncId:=39
abbrev YP:FuncId:=42
abbrev Yj:FuncId:=43
abbrev QG:FuncId:=44
abbrev Qg:FuncId:=45
abbrev QE:FuncId:=47
abbrev Qm:FuncId:=48
abbrev ZBF:FuncId:=49
abbrev Jy:FuncId:=50
abbrev Qq:FuncId:=51
abbrev Qr:FuncId:=52
abbrev Qh:FuncId:=53
abbrev Qi:FuncId:=56
abbrev ZBV:FuncId:=57
abbrev ZC4:FuncId:=58
abbrev QC:FuncId:=59
abbrev ZAP:FuncId:=74
abbrev X6:FuncId:=75
abbrev XB:FuncId:=82
abbrev ZAQ:FuncId:=85
abbrev ZAR:FuncId:=86
abbrev ZC5:FuncId:=88
abbrev ZEi:FuncId:=89
abbrev XC:FuncId:=94
abbrev YB:FuncId:=95
abbrev ZBG:FuncId:=100
abbrev YT:FuncId:=101
abbrev ZJd:FuncId:=102
abbrev XZ:FuncId:=105
abbrev ZC6:FuncId:=106
abbrev QZ:FuncId:=107
abbrev QY:FuncId:=108
abbrev Qb:FuncId:=109
abbrev Yk:FuncId:=110
abbrev QH:FuncId:=111
abbrev QV:FuncId:=112
abbrev ZEj:FuncId:=113
abbrev ZBl:FuncId:=114
abbrev ZA5:FuncId:=115
abbrev XM:FuncId:=116
abbrev ZEk:FuncId:=117
abbrev ZER:FuncId:=118
abbrev ZAS:FuncId:=119
abbrev Yl:FuncId:=120
abbrev ZBH:FuncId:=121
abbrev QW:FuncId:=124
abbrev Ym:FuncId:=125
abbrev ZC7:FuncId:=126
abbrev ZCK:FuncId:=127
abbrev ZC8:FuncId:=134
abbrev Yn:FuncId:=135
abbrev ZBW:FuncId:=137
abbrev Yu:FuncId:=138
abbrev JH:FuncId:=139
abbrev XN:FuncId:=140
abbrev Xo:FuncId:=141
abbrev ZBm:FuncId:=142
abbrev ZJe:FuncId:=144
abbrev ZES:FuncId:=149
abbrev Jg:FuncId:=155
abbrev YU:FuncId:=156
abbrev JB:FuncId:=157
abbrev ZA6:FuncId:=158
abbrev ZC9:FuncId:=159
abbrev ZJf:FuncId:=160
abbrev Je:FuncId:=161
abbrev YV:FuncId:=162
abbrev YW:FuncId:=163
abbrev Yz:FuncId:=164
abbrev Yv:FuncId:=176
abbrev Jp:FuncId:=177
abbrev QK:FuncId:=178
abbrev QD:FuncId:=179
abbrev XD:FuncId:=180
abbrev ZBX:FuncId:=181
abbrev ZAT:FuncId:=182
abbrev Xp:FuncId:=183
abbrev ZA7:FuncId:=184
abbrev YE:FuncId:=185
abbrev YY:FuncId:=186
abbrev Xq:FuncId:=187
abbrev Xg:FuncId:=188
abbrev ZLk:FuncId:=189
abbrev ZEl:FuncId:=190
abbrev ZDA:FuncId:=191
abbrev ZDB:FuncId:=197
abbrev ZGa:FuncId:=198
abbrev Qa:FuncId:=199
abbrev ZEm:FuncId:=201
abbrev Yw:FuncId:=203
abbrev ZCL:FuncId:=204
abbrev ZA8:FuncId:=205
abbrev Q7:FuncId:=206
abbrev ZBI:FuncId:=207
abbrev XO:FuncId:=208
abbrev ZJh:FuncId:=213
abbrev Yx:FuncId:=214
abbrev ZET:FuncId:=218
abbrev ZDC:FuncId:=219
abbrev Xr:FuncId:=220
abbrev ZAU:FuncId:=221
abbrev ZDD:FuncId:=222
abbrev ZBJ:FuncId:=223
abbrev ZAV:FuncId:=225
abbrev ZAW:FuncId:=226
abbrev J3:FuncId:=227
abbrev JZ:FuncId:=228
abbrev ZAX:FuncId:=229
abbrev ZBK:FuncId:=240
abbrev ZGb:FuncId:=241
abbrev ZEn:FuncId:=242
abbrev YF:FuncId:=243
abbrev ZEo:FuncId:=245
abbrev ZEV:FuncId:=246
abbrev XP:FuncId:=247
abbrev Jq:FuncId:=248
abbrev ZEp:FuncId:=254
abbrev ZDE:FuncId:=255
abbrev Xs:FuncId:=256
abbrev Yo:FuncId:=257
abbrev ZGc:FuncId:=260
abbrev XE:FuncId:=261
abbrev ZDF:FuncId:=263
abbrev I(d:Nat)(o:PO):PI:=⟨some d,none,false,o⟩
abbrev G(d g:Nat)(b:Bool)(o:PO):PI:=⟨some d,some (g,b),false,o⟩
abbrev J(o:PO):PI:=⟨none,none,false,o⟩
abbrev C(f:FuncId)(a:List Opd):PO:=.call .norm (.v (.func (.func f) [] [])) a
abbrev H(k:List Nat):Hint:=⟨k,[],[],[],[],[]⟩
abbrev V(i:Int):Opd:=.v (.int .i64 i)
abbrev M(d s:Nat):PI:=I d (.mv (.s s))
abbrev X(d s i:Nat):PI:=I d (.ext (.s s) i)
abbrev L(d s:Nat):PI:=I d (.ld false 1 (.s s))
abbrev T(d n s:Nat):PI:=I d (.ld true n (.s s))
abbrev F(d n s:Nat):PI:=I d (.fadr n (.s s))
abbrev U(d g:Nat)(b:Bool)(s:Nat):PI:=G d g b (.mv (.s s))
abbrev W(d:Nat)(o:BinOp)(s:Nat)(i:Int):PI:=I d (.bin o (.s s) (V i))
abbrev B(d:Nat)(o:BinOp)(s t:Nat):PI:=I d (.bin o (.s s) (.s t))
abbrev K(d:Nat)(i:Int):PI:=I d (.mv (V i))
abbrev N(n a x:Nat):PI:=J (.st n (.s a) (.s x))
abbrev E(c:Nat)(a b:PC):PC:=.ite (.s c) a b
abbrev D(a b:PC):PC:=.seq a b
abbrev R(k:List Nat)(l:List PI):PC:=.reg k l
abbrev ZT:AV:=.agg [(.int .u64 0),(.int .i64 0),(.int .i64 0),(.int .i64 0),(.int .i64 0),(.str []),.nils]
abbrev ZR:AV:=.agg [(.int .u64 0),(.int .i64 0),(.int .i64 0),(.int .i64 0),(.int .i64 0)]
abbrev ZM:AV:=.agg [(.int .i64 0),(.int .i64 0),(.int .i64 0)]
abbrev ZN:AV:=.agg [(.int .i64 0),(.str []),.nils]
abbrev ZK:AV:=.agg [(.int .u64 0),(.int .i64 0),(.int .i64 0),(.int .i64 0)]
def ZCM:=R [0,1,2] [I 6 (.mv (.v (.bool false)))]
def ZCN:=R [0,1,2,35] [M 23 0,I 24 (.len 0 (.s 23)),W 25 .gtr 24 400,M 26 25,U 27 26 false 1,G 28 26 false (.len 1 (.s 27)),G 29 26 false (.bin .gtr (.s 28) (V 30)),I 30 (.pick (.s 26) (.v (.bool true)) (.s 29)),M 31 30,U 32 31 false 2,G 33 31 false (.len 1 (.s 32)),G 34 31 false (.bin .gtr (.s 33) (V 6)),I 35 (.pick (.s 31) (.v (.bool true)) (.s 34))]
def ZCO:=R [6] [I 36 (C YP []),M 6 36]
def ZCP:=R [0,1,2,7,8] [I 38 (C ZBV [(V 1000),(.v (.int .u64 2))]),M 37 38,X 39 37 0,X 40 37 1,M 7 39,M 8 40]
def ZCQ:=R [0,1,2,7,46] [M 41 7,I 42 (.eqs false 3 [] (.s 41) (.v .nilptr)),M 43 42,U 44 43 false 8,G 45 43 false (.bin .neq (.s 44) (V 0)),I 46 (.pick (.s 43) (.v (.bool true)) (.s 45))]
def ZCR:=R [6] [I 6 (.mv (.v (.bool false)))]
def ZCS:=R [0,1,2,7,8,9] [M 48 7,M 49 0,I 50 (C ZC4 [(.s 48),(.s 49)]),M 47 50,X 51 47 0,X 52 47 1,I 9 (.box (.v ZR)),N 5 9 51,M 8 52]
def ZCT:=R [0,1,2,7,9,54] [M 53 8,W 54 .neq 53 0]
def ZCU:=R [6] [I 6 (.mv (.v (.bool false)))]
def ZCV:=R [0,1,2,7,8,9,10] [M 56 7,T 57 5 9,I 58 (C Yj [(.s 56),(.s 57)]),M 55 58,X 59 55 0,X 60 55 1,M 10 59,M 8 60]
def ZBn:=R [0,1,2,7,8,9,10,11,12] [M 62 7,T 63 5 9,I 64 (C Yj [(.s 62),(.s 63)]),M 61 64,X 65 61 0,X 66 61 1,M 11 65,M 12 66]
def ZBo:=R [0,1,2,7,8,9,10,11,12,13,14] [M 68 7,T 69 5 9,I 70 (C Yj [(.s 68),(.s 69)]),M 67 70,X 71 67 0,X 72 67 1,M 13 71,M 14 72]
def ZBp:=R [0,1,2,7,9,10,11,13,94] [M 73 10,I 74 (.eqs false 3 [] (.s 73) (.v .nilptr)),M 75 74,U 76 75 false 11,G 77 75 false (.eqs false 3 [] (.s 76) (.v .nilptr)),I 78 (.pick (.s 75) (.v (.bool true)) (.s 77)),M 79 78,U 80 79 false 13,G 81 79 false (.eqs false 3 [] (.s 80) (.v .nilptr)),I 82 (.pick (.s 79) (.v (.bool true)) (.s 81)),M 83 82,U 84 83 false 8,G 85 83 false (.bin .neq (.s 84) (V 0)),I 86 (.pick (.s 83) (.v (.bool true)) (.s 85)),M 87 86,U 88 87 false 12,G 89 87 false (.bin .neq (.s 88) (V 0)),I 90 (.pick (.s 87) (.v (.bool true)) (.s 89)),M 91 90,U 92 91 false 14,G 93 91 false (.bin .neq (.s 92) (V 0)),I 94 (.pick (.s 91) (.v (.bool true)) (.s 93))]
def ZBq:=R [6] [I 6 (.mv (.v (.bool false)))]
def ZBr:=R [0,1,2,7,9,10,11,13,15] [K 15 0]
def ZBs:=R [0,1,2,7,9,10,11,13,15,98] [M 95 15,M 96 1,I 97 (.len 1 (.s 96)),B 98 .lss 95 97]
def ZBt:=R [0,1,2,7,9,10,11,13,15,16] [M 101 1,M 102 15,I 103 (.ixS 4 (.s 101) (.s 102)),T 104 4 103,I 16 (.box (.v (.agg [(.int .u8 0),(.int .i64 0),(.int .i64 0),(.int .u8 0)]))),N 4 16 104]
def ZBu:=R [0,1,2,7,9,10,11,13,15,16,17,18] [M 106 10,T 107 4 16,I 108 (C QC [(.s 106),(.s 107)]),M 105 108,X 109 105 0,X 110 105 1,M 17 109,M 18 110]
def ZBv:=R [0,1,2,7,9,10,11,13,15,16,17,18] [M 111 13,F 112 0 16,L 113 112,I 114 (.bin .rem (.s 113) (.v (.int .u8 6))),I 115 (.bin .add (.v (.int .u8 1)) (.s 114)),F 116 1 16,L 117 116,I 118 (.build [(.int .u8 0),(.int .i64 0),(.int .i64 0),(.int .u8 0)] [(0,1,(.s 115)),(2,1,(.s 117))]),I 119 (C QC [(.s 111),(.s 118)])]
def ZBw:=R [0,1,2,7,9,10,11,13,15,16,17,18,123] [M 120 15,M 121 2,I 122 (.len 1 (.s 121)),B 123 .lss 120 122]
def ZBx:=R [0,1,2,7,9,10,11,13,15,16,17,18,19] [M 124 2,M 125 15,I 126 (.ixS 1 (.s 124) (.s 125)),L 127 126,M 128 0,I 129 (.len 0 (.s 128)),I 130 (C Xz [(.s 127),(.s 129)]),M 19 130]
def ZBy:=R [0,1,2,7,9,10,11,13,15,16,17,18] [M 131 7,T 132 5 9,M 133 19,M 134 0,I 135 (.len 0 (.s 134)),M 136 19,B 137 .sub 135 136,I 138 (.mnx false (V 5) (.s 137)),I 139 (C ZAO [(.s 131),(.s 132),(.s 133),(.s 138),(.v (.str [120,121,122]))])]
def ZBz:=R [0,1,2,7,9,10,11,13,15,17,18,20,21] [M 141 11,T 142 4 16,I 143 (C QC [(.s 141),(.s 142)]),M 140 143,X 144 140 0,X 145 140 1,M 20 144,M 21 145]
def ZB0:=R [0,1,2,7,9,10,11,13,15,167] [M 146 17,M 147 20,B 148 .neq 146 147,M 149 148,U 150 149 false 18,U 151 149 false 21,G 152 149 false (.bin .neq (.s 150) (.s 151)),I 153 (.pick (.s 149) (.v (.bool true)) (.s 152)),M 154 153,U 155 154 false 10,G 156 154 false (C Qm [(.s 155)]),U 157 154 false 11,G 158 154 false (C Qm [(.s 157)]),G 159 154 false (.bin .neq (.s 156) (.s 158)),I 160 (.pick (.s 154) (.v (.bool true)) (.s 159)),M 161 160,U 162 161 false 10,G 163 161 false (C QG [(.s 162)]),U 164 161 false 11,G 165 161 false (C QG [(.s 164)]),G 166 161 false (.bin .neq (.s 163) (.s 165)),I 167 (.pick (.s 161) (.v (.bool true)) (.s 166))]
def ZB1:=R [6] [I 6 (.mv (.v (.bool false)))]
def ZB2:=R [0,1,2,7,9,10,11,13,15] [M 99 15,W 100 .add 99 1,M 15 100]
def p_quartolaw21_CursorApart_26:PC:=(D (D ZBs
 (E 98
 .skip
 (.exit 0)))
 (D (.block 1
 (D ZBt
 (D ZBu
 (D ZBv
 (D (D ZBw
 (E 123
 (D ZBx
 ZBy)
 .skip))
 (D ZBz
 (D ZB0
 (E 167
 (D ZB1
 .ret)
 .skip))))))))
 ZB2))
def ZB3:=R [0,8,22] [M 169 7,T 170 5 9,I 171 (C ZBU [(.s 169),(.s 170)]),M 168 171,X 172 168 0,X 173 168 1,M 22 172,M 8 173]
def ZB4:=R [6] [M 174 8,W 175 .eql 174 0,M 176 175,U 177 176 true 22,U 178 176 true 0,G 179 176 true (.bin .eql (.s 177) (.s 178)),I 180 (.pick (.s 176) (.s 179) (.v (.bool false))),M 181 180,G 182 181 true (C YP []),I 183 (.pick (.s 181) (.s 182) (.v (.bool false))),M 6 183]
def YC:PF:=⟨false,
 (D ZCM
 (D (D ZCN
 (E 35
 (D ZCO
 .ret)
 .skip))
 (D ZCP
 (D (D ZCQ
 (E 46
 (D ZCR
 .ret)
 .skip))
 (D ZCS
 (D (D ZCT
 (E 54
 (D ZCU
 .ret)
 .skip))
 (D ZCV
 (D ZBn
 (D ZBo
 (D (D ZBp
 (E 94
 (D ZBq
 .ret)
 .skip))
 (D (D ZBr
 (.block 0
 (.loop p_quartolaw21_CursorApart_26)))
 (D ZB3
 (D ZB4
 .ret))))))))))))),
 [.s 6]⟩
theorem ZD1:ck0 false [] YC Tryz.f11=some YC:=by kernel_rfl
def ZJj:=R [0,1] [K 4 0]
def ZJk:=R [4] [M 5 0,M 6 1,I 7 (C X6 [(.s 5),(.s 6)]),M 4 7]
def ZDG:PF:=⟨false,
 (D ZJj
 (D ZJk
 .ret)),
 [.s 4]⟩
theorem ZMV:ck0 false [] ZDG Tryz.f17=some ZDG:=by kernel_rfl
def ZYn:=R [0,3,20] [I 3 (.box (.s 1)),I 4 (.mv (.v .nils)),K 5 0]
def ZYo:=R [0,3,6,20] [M 10 0,T 11 5 3,I 12 (C ZAQ [(.s 10),(.s 11)]),M 6 12]
def ZYp:=R [0,3,6,14,20] [M 13 6,W 14 .neq 13 0]
def ZYq:=R [4,5] [M 15 6,I 4 (.mv (.v .nils)),M 5 15]
def ZYr:=R [0,3,7,20] [I 7 (.boxnil 1)]
def ZYs:=R [0,3,7,8,20] [I 16 (.mkmap),I 8 (.box (.v .nilmap)),N 1 8 16]
def ZYt:=R [7,8,19,20] [M 17 0,T 18 5 3,I 19 (C ZAR [(.s 17),(.s 18)])]
def ZYu:=R [7,8,9] [M 9 20]
def ZYv:=R [7,8,9,25] [L 22 8,M 23 9,I 24 (.look 0 (.bool false) false (.s 22) (.s 23)),I 25 (.un .not (.s 24))]
def ZYw:=R [7,9] [L 26 8,M 27 9,J (.mupd 0 (.s 26) (.s 27) (.v (.bool true)))]
def ZUM:=R [7] [L 28 7,M 29 9,I 30 (.bslice false 1 [(.int .u64 0)] [(0,(.s 29))]),I 31 (.app 1 8 (.s 28) (.s 30)),N 1 7 31]
def ZUN:=R [4,5] [L 32 7,M 4 32,K 5 0]
def ZGd:RF:=⟨33,
 (D ZYn
 (D (D ZYo
 (D ZYp
 (E 14
 (D ZYq
 .ret)
 .skip)))
 (D ZYr
 (D ZYs
 (D ZYt
 .skip))))),
 ⟨(.s 19),[20,21],
 ZYu,
 (.block 1
 (D ZYv
 (E 25
 (D ZYw
 ZUM)
 .skip)))⟩,
 (D .skip
 (D ZUN
 .ret)),
 [.s 4,.s 5]⟩
theorem Zha:ZYc Proofs.Tryz.prog (h0R [(4,⟨[0,3,7,20],[0],[],[],[],[]⟩)] ZGd) Proofs.Tryz.f27=some ZGd:=by kernel_rfl
def ZdD:=R [0,3] [I 3 (.box (.s 1)),I 4 (.mv (.v (.str []))),K 5 0]
def ZdE:=R [6,7] [M 12 0,T 13 5 3,I 14 (C ZEi [(.s 12),(.s 13)]),M 11 14,X 15 11 0,X 16 11 1,M 6 15,M 7 16]
def ZdF:=R [6,7,18] [M 17 7,W 18 .neq 17 0]
def ZdG:=R [4,5] [M 19 7,I 4 (.mv (.v (.str []))),M 5 19]
def ZdH:=R [6,8] [I 8 (.onil 1)]
def ZdI:=R [8,20,21,22] [M 20 6,I 21 (.len 1 (.s 20)),K 22 0]
def ZdJ:=R [8,20,21,22,23] [B 23 .lss 22 21]
def ZdK:=R [8,10,20,21,22] [I 24 (.ixS 1 (.s 20) (.s 22)),L 25 24,M 10 25]
def ZdL:=R [8,20,21,22] [M 26 8,M 27 10,I 28 (.app 1 1 (.s 26) (.s 27)),M 8 28]
def ZdM:=R [8,20,21,22] [W 29 .add 22 1,M 22 29]
def ZYx:PC:=(D ZdJ
 (D (E 23
 .skip
 (.exit 0))
 (D (.block 1
 (D ZdK
 ZdL))
 ZdM)))
def ZYy:=R [4,5] [M 30 8,I 31 (.b2s (.s 30)),M 4 31,K 5 0]
def ZJl:PF:=⟨false,
 (D ZdD
 (D ZdE
 (D (D ZdF
 (E 18
 (D ZdG
 .ret)
 .skip))
 (D ZdH
 (D (D ZdI
 (.block 0
 (.loop ZYx)))
 (D ZYy
 .ret)))))),
 [.s 4,.s 5]⟩
theorem ZkH:ck0 false [(4,⟨[6,8],[0],[],[],[],[]⟩)] ZJl Tryz.f29=some ZJl:=by kernel_rfl
def ZIf:=R [0,2] [I 2 (.box (.v (.agg [(.int .i64 0),(.int .i64 0),(.int .i64 0),(.int .i64 0),(.int .i64 0),(.int .i64 0),(.int .i64 0)])))]
def ZIg:=R [0,2,4] [M 3 0,I 4 (.eqs false 3 [] (.s 3) (.v .nilptr))]
def ZIh:=R [2] [I 5 (.build [(.int .i64 0),(.int .i64 0),(.int .i64 0),(.int .i64 0),(.int .i64 0),(.int .i64 0),(.int .i64 0)] []),N 7 2 5]
def ZIi:=R [2] [M 6 0,I 7 (.nilck (.s 6)),F 8 0 7,L 9 8,M 10 0,I 11 (.nilck (.s 10)),F 12 1 11,L 13 12,I 14 (.call .pure (.v (.func (.func XC) [] [])) [(.s 13)]),I 15 (.len 1 (.s 14)),M 16 0,I 17 (.nilck (.s 16)),F 18 2 17,L 19 18,I 20 (.len 2 (.s 19)),M 21 0,I 22 (.nilck (.s 21)),F 23 1 22,L 24 23,I 25 (.call .pure (.v (.func (.func YB) [] [])) [(.s 24)]),I 26 (.len 1 (.s 25)),M 27 0,I 28 (.nilck (.s 27)),F 29 3 28,L 30 29,M 31 0,I 32 (.nilck (.s 31)),F 33 4 32,L 34 33,M 35 0,I 36 (.nilck (.s 35)),F 37 5 36,L 38 37,I 39 (.build [(.int .i64 0),(.int .i64 0),(.int .i64 0),(.int .i64 0),(.int .i64 0),(.int .i64 0),(.int .i64 0)] [(0,1,(.s 9)),(1,1,(.s 15)),(2,1,(.s 20)),(3,1,(.s 26)),(4,1,(.s 30)),(5,1,(.s 34)),(6,1,(.s 38))]),N 7 2 39]
def ZB8:PF:=⟨false,
 (D ZIf
 (D (D ZIg
 (E 4
 (D ZIh
 .ret)
 .skip))
 (D ZIi
 .ret))),
 [.c 2 true 7]⟩
theorem ZK9:ck0 false [(3,⟨[2],[],[(8,.pure),(19,.pure)],[],[],[]⟩)] ZB8 Tryz.f35=some ZB8:=by kernel_rfl
def ZQr:=R [5,6,7,8,9,10] [I 5 (.box (.s 0)),I 6 (.box (.s 1)),I 7 (.box (.s 2)),I 8 (.box (.s 3)),I 9 (.box (.s 4)),I 10 (.box (.v (.agg [(.int .u64 0),(.int .i64 0),(.int .i64 0),(.int .i64 0),(.int .i64 0),.nils,.nils]))),K 11 0]
def ZQs:=R [10,11] [L 12 5,I 13 (.mkf (.func YT) [] [(.s 5),(.s 6),(.s 7),(.s 8),(.s 9)]),T 14 5 6,I 15 (.bslice false 5 [ZR] [(0,(.s 14))]),I 16 (C ZBG [(.s 12),(.s 13),(.s 15)]),X 17 16 0,X 18 16 1,N 7 10 17,M 11 18]
def ZJm:PF:=⟨false,
 (D ZQr
 (D ZQs
 .ret)),
 [.c 10 true 7,.s 11]⟩
theorem ZY0:ck0 false [] ZJm Tryz.f39=some ZJm:=by kernel_rfl
def ZIj:=R [] [I 0 (.mv (.v (.bool false)))]
def ZIk:=R [1,2,3] [I 8 (C XZ []),M 7 8,X 9 7 0,X 10 7 1,X 11 7 2,I 2 (.box (.v ZR)),M 1 9,N 5 2 10,M 3 11]
def ZIl:=R [1,2,13] [M 12 3,I 13 (.un .not (.s 12))]
def ZIm:=R [0] [I 0 (.mv (.v (.bool false)))]
def ZIn:=R [4,5] [M 15 1,T 16 5 2,I 17 (C Yj [(.s 15),(.s 16)]),M 14 17,X 18 14 0,X 19 14 1,M 4 18,M 5 19]
def ZIo:=R [4,25] [M 20 4,I 21 (.eqs false 3 [] (.s 20) (.v .nilptr)),M 22 21,U 23 22 false 5,G 24 22 false (.bin .neq (.s 23) (V 0)),I 25 (.pick (.s 22) (.v (.bool true)) (.s 24))]
def ZIp:=R [0] [I 0 (.mv (.v (.bool false)))]
def ZIq:=R [4,5,6] [M 27 4,I 28 (C Qh [(.s 27)]),M 26 28,X 29 26 0,X 30 26 1,M 6 29,M 5 30]
def ZIr:=R [0] [M 31 5,W 32 .eql 31 0,M 33 32,U 34 33 true 6,G 35 33 true (.bin .eql (.s 34) (.v (.str [97]))),I 36 (.pick (.s 33) (.s 35) (.v (.bool false))),M 37 36,U 38 37 true 4,G 39 37 true (C Qm [(.s 38)]),G 40 37 true (.bin .eql (.s 39) (V 1)),I 41 (.pick (.s 37) (.s 40) (.v (.bool false))),M 42 41,U 43 42 true 4,G 44 42 true (C QG [(.s 43)]),G 45 42 true (.bin .eql (.s 44) (V 2)),I 46 (.pick (.s 42) (.s 45) (.v (.bool false))),M 0 46]
def ZB9:PF:=⟨false,
 (D ZIj
 (D ZIk
 (D (D ZIl
 (E 13
 (D ZIm
 .ret)
 .skip))
 (D ZIn
 (D (D ZIo
 (E 25
 (D ZIp
 .ret)
 .skip))
 (D ZIq
 (D ZIr
 .ret))))))),
 [.s 0]⟩
theorem ZLB:ck0 false [] ZB9 Tryz.f42=some ZB9:=by kernel_rfl
def ZY1:=R [0,3] [I 3 (.box (.s 1)),I 4 (.mv (.v .nilptr)),K 5 0]
def ZY2:=R [0,3,6] [M 9 0,T 10 5 3,I 11 (C ZC6 [(.s 9),(.s 10)]),M 6 11]
def ZY3:=R [0,3,6,13] [M 12 6,W 13 .neq 12 0]
def ZY4:=R [4,5] [M 14 6,I 4 (.mv (.v .nilptr)),M 5 14]
def ZY5:=R [3,7] [M 15 0,T 16 5 3,I 17 (.build [.nilptr,(.int .u64 0),(.int .i64 0),(.int .i64 0),(.int .i64 0),(.int .i64 0),.nils,(.int .i64 0)] [(0,1,(.s 15)),(1,5,(.s 16))]),I 18 (.build [.nilptr,(.int .u64 0),(.int .i64 0),(.int .i64 0),(.int .i64 0),(.int .i64 0),.nils,(.int .i64 0),(.int .i64 0)] [(0,8,(.s 17))]),I 19 (.box (.s 18)),M 7 19]
def ZY6:=R [7,22] [F 20 0 3,L 21 20,I 22 (.bin .neq (.s 21) (.v (.int .u64 0)))]
def ZY7:=R [7,8] [M 23 7,I 24 (.nilck (.s 23)),F 25 0 24,I 26 (C QZ [(.s 25),(V 0)]),M 8 26]
def ZY8:=R [7,8,28] [M 27 8,W 28 .neq 27 0]
def ZY9:=R [4,5] [M 29 8,I 4 (.mv (.v .nilptr)),M 5 29]
def ZZA:=R [4,5] [M 30 7,M 4 30,K 5 0]
def ZN4:PF:=⟨true,
 (D ZY1
 (D (D ZY2
 (D ZY3
 (E 13
 (D ZY4
 .ret)
 .skip)))
 (D ZY5
 (D (D ZY6
 (E 22
 (D ZY7
 (D ZY8
 (E 28
 (D ZY9
 .ret)
 .skip)))
 .skip))
 (D ZZA
 .ret))))),
 [.s 4,.s 5]⟩
theorem Zhc:ck0 true [] ZN4 Tryz.f43=some ZN4:=by kernel_rfl
def ZD2:=R [0] [K 2 0]
def ZD3:=R [0,4] [M 3 0,I 4 (.eqs false 3 [] (.s 3) (.v .nilptr))]
def ZD4:=R [2] [K 2 0]
def ZD5:=R [2] [M 5 0,I 6 (.nilck (.s 5)),F 7 0 6,F 8 7 7,L 9 8,M 2 9]
def ZAC:PF:=⟨false,
 (D ZD2
 (D (D ZD3
 (E 4
 (D ZD4
 .ret)
 .skip))
 (D ZD5
 .ret))),
 [.s 2]⟩
theorem ZFH:ck0 false [] ZAC Tryz.f44=some ZAC:=by kernel_rfl
def ZGe:=R [0,3] [I 3 (.box (.s 1)),I 4 (.mv (.v (.str []))),K 5 0]
def ZGf:=R [0,3,6] [M 7 0,I 8 (C QY [(.s 7)]),M 6 8]
def ZGg:=R [0,3,6,10] [M 9 6,W 10 .neq 9 0]
def ZGh:=R [4,5] [M 11 6,I 4 (.mv (.v (.str []))),M 5 11]
def ZGi:=R [0,3,13] [L 12 3,W 13 .lss 12 0]
def ZGj:=R [4,5] [I 4 (.mv (.v (.str []))),K 5 2]
def ZGk:=R [4,5] [M 14 0,I 15 (.mkf (.func Yk) [] [(.s 3)]),I 16 (C Qb [(.s 14),(.s 15)]),X 17 16 0,X 18 16 1,M 4 17,M 5 18]
def ZBY:PF:=⟨false,
 (D ZGe
 (D (D ZGf
 (D ZGg
 (E 10
 (D ZGh
 .ret)
 .skip)))
 (D (D ZGi
 (E 13
 (D ZGj
 .ret)
 .skip))
 (D ZGk
 .ret)))),
 [.s 4,.s 5]⟩
theorem ZJo:ck0 false [] ZBY Tryz.f45=some ZBY:=by kernel_rfl
def ZGl:=R [0,1] [K 4 0]
def ZGm:=R [0,1,5] [M 6 0,I 7 (C QY [(.s 6)]),M 5 7]
def ZGn:=R [0,1,5,9] [M 8 5,W 9 .neq 8 0]
def ZGo:=R [4] [M 10 5,M 4 10]
def ZGp:=R [0,1,23] [M 11 1,W 12 .lss 11 0,M 13 12,U 14 13 false 1,U 15 13 false 0,G 16 13 false (.nilck (.s 15)),G 17 13 false (.fadr 0 (.s 16)),G 18 13 false (.fadr 1 (.s 17)),G 19 13 false (.fadr 2 (.s 18)),G 20 13 false (.fadr 0 (.s 19)),G 21 13 false (.ld false 1 (.s 20)),G 22 13 false (.bin .gtr (.s 14) (.s 21)),I 23 (.pick (.s 13) (.v (.bool true)) (.s 22))]
def ZGq:=R [4] [K 4 3]
def ZGr:=R [4] [M 24 0,M 25 1,I 26 (C QV [(.s 24),(.s 25)]),M 4 26]
def ZBZ:PF:=⟨false,
 (D ZGl
 (D (D ZGm
 (D ZGn
 (E 9
 (D ZGo
 .ret)
 .skip)))
 (D (D ZGp
 (E 23
 (D ZGq
 .ret)
 .skip))
 (D ZGr
 .ret)))),
 [.s 4]⟩
theorem ZJq:ck0 false [] ZBZ Tryz.f47=some ZBZ:=by kernel_rfl
def ZJr:=R [0] [K 2 0]
def ZJs:=R [0,4] [M 3 0,I 4 (.eqs false 3 [] (.s 3) (.v .nilptr))]
def ZJt:=R [2] [K 2 0]
def ZJu:=R [2] [M 5 0,I 6 (.nilck (.s 5)),F 7 8 6,L 8 7,M 2 8]
def ZDH:PF:=⟨false,
 (D ZJr
 (D (D ZJs
 (E 4
 (D ZJt
 .ret)
 .skip))
 (D ZJu
 .ret))),
 [.s 2]⟩
theorem ZMX:ck0 false [] ZDH Tryz.f48=some ZDH:=by kernel_rfl
def ZUO:=R [0,2,4] [I 4 (.box (.s 1)),K 6 0,K 7 0]
def ZUP:=R [6,7] [M 8 0,T 9 5 4,M 10 2,I 11 (C ZEj [(.s 8),(.s 9),(.s 10),(.v (.func (.func ZBl) [] [])),(.v (.func (.func ZA5) [] []))]),X 12 11 0,X 13 11 1,M 6 12,M 7 13]
def ZLn:PF:=⟨false,
 (D ZUO
 (D ZUP
 .ret)),
 [.s 6,.s 7]⟩
theorem ZdO:ck0 false [] ZLn Tryz.f49=some ZLn:=by kernel_rfl
def ZdP:=R [0,2,4] [I 4 (.box (.s 1)),K 6 0,K 7 0]
def ZdQ:=R [0,2,4,8] [M 9 0,T 10 5 4,I 11 (C XM [(.s 9),(.s 10)]),M 8 11]
def ZdR:=R [0,2,4,8,13] [M 12 8,W 13 .neq 12 0]
def ZdS:=R [6,7] [M 14 8,K 6 0,M 7 14]
def ZdT:=R [0,2,4,23] [M 15 2,W 16 .lss 15 0,M 17 16,U 18 17 false 2,G 19 17 false (.fadr 2 (.s 4)),G 20 17 false (.fadr 2 (.s 19)),G 21 17 false (.ld false 1 (.s 20)),G 22 17 false (.bin .gtr (.s 18) (.s 21)),I 23 (.pick (.s 17) (.v (.bool true)) (.s 22))]
def ZdU:=R [6,7] [K 6 0,K 7 3]
def ZdV:=R [0,2,4,25] [M 24 2,W 25 .eql 24 0]
def ZdW:=R [6,7] [K 6 0,K 7 0]
def ZdX:=R [6,7] [M 26 0,T 27 5 4,M 28 2,I 29 (C ZEk [(.s 26),(.s 27),(.s 28),(.v (.func (.func ZER) [] [])),(.v (.func (.func ZAS) [] []))]),X 30 29 0,X 31 29 1,M 6 30,M 7 31]
def ZTv:PF:=⟨false,
 (D ZdP
 (D (D ZdQ
 (D ZdR
 (E 13
 (D ZdS
 .ret)
 .skip)))
 (D (D ZdT
 (E 23
 (D ZdU
 .ret)
 .skip))
 (D (D ZdV
 (E 25
 (D ZdW
 .ret)
 .skip))
 (D ZdX
 .ret))))),
 [.s 6,.s 7]⟩
theorem ZkJ:ck0 false [] ZTv Tryz.f50=some ZTv:=by kernel_rfl
def ZDI:=R [0] [K 2 0]
def ZDJ:=R [0,3] [M 7 0,I 8 (C QY [(.s 7)]),M 3 8]
def ZDK:=R [0,3,10] [M 9 3,W 10 .neq 9 0]
def ZDL:=R [2] [M 11 3,M 2 11]
def ZDM:=R [0,4,5] [M 13 0,I 14 (.nilck (.s 13)),F 15 0 14,F 16 0 15,L 17 16,M 18 0,I 19 (.nilck (.s 18)),F 20 0 19,F 21 1 20,T 22 5 21,M 23 0,I 24 (.nilck (.s 23)),F 25 8 24,L 26 25,I 27 (C ZBF [(.s 17),(.s 22),(.s 26)]),M 12 27,X 28 12 0,X 29 12 1,M 4 28,M 5 29]
def ZDN:=R [0,4,5,31] [M 30 5,W 31 .neq 30 0]
def ZDO:=R [2] [M 32 5,M 2 32]
def ZDP:=R [0,5,6] [M 34 0,I 35 (.nilck (.s 34)),F 36 0 35,F 37 0 36,L 38 37,M 39 0,I 40 (.nilck (.s 39)),F 41 0 40,F 42 1 41,T 43 5 42,M 44 4,W 45 .add 44 1,I 46 (C Jy [(.s 38),(.s 43),(.s 45)]),M 33 46,X 47 33 0,X 48 33 1,M 6 47,M 5 48]
def ZDQ:=R [0,5,6,50] [M 49 5,W 50 .neq 49 0]
def ZDR:=R [2] [M 51 5,M 2 51]
def ZCW:=R [2] [M 52 0,M 53 6,I 54 (C QV [(.s 52),(.s 53)]),M 2 54]
def Xh:PF:=⟨false,
 (D ZDI
 (D (D ZDJ
 (D ZDK
 (E 10
 (D ZDL
 .ret)
 .skip)))
 (D ZDM
 (D (D ZDN
 (E 31
 (D ZDO
 .ret)
 .skip))
 (D ZDP
 (D (D ZDQ
 (E 50
 (D ZDR
 .ret)
 .skip))
 (D ZCW
 .ret))))))),
 [.s 2]⟩
theorem ZEr:ck0 false [] Xh Tryz.f51=some Xh:=by kernel_rfl
def ZDS:=R [0] [K 2 0]
def ZDT:=R [0,3] [M 7 0,I 8 (C QY [(.s 7)]),M 3 8]
def ZDU:=R [0,3,10] [M 9 3,W 10 .neq 9 0]
def ZDV:=R [2] [M 11 3,M 2 11]
def ZDW:=R [0,16] [M 12 0,I 13 (.nilck (.s 12)),F 14 8 13,L 15 14,W 16 .eql 15 0]
def ZDX:=R [2] [K 2 3]
def ZDY:=R [0,4,5] [M 18 0,I 19 (.nilck (.s 18)),F 20 0 19,F 21 0 20,L 22 21,M 23 0,I 24 (.nilck (.s 23)),F 25 0 24,F 26 1 25,T 27 5 26,M 28 0,I 29 (.nilck (.s 28)),F 30 8 29,L 31 30,W 32 .sub 31 1,I 33 (C ZBF [(.s 22),(.s 27),(.s 32)]),M 17 33,X 34 17 0,X 35 17 1,M 4 34,M 5 35]
def ZDZ:=R [0,4,5,37] [M 36 5,W 37 .neq 36 0]
def ZDa:=R [2] [M 38 5,M 2 38]
def ZDb:=R [0,5,6] [M 40 0,I 41 (.nilck (.s 40)),F 42 0 41,F 43 0 42,L 44 43,M 45 0,I 46 (.nilck (.s 45)),F 47 0 46,F 48 1 47,T 49 5 48,M 50 4,I 51 (C Jy [(.s 44),(.s 49),(.s 50)]),M 39 51,X 52 39 0,X 53 39 1,M 6 52,M 5 53]
def ZCX:=R [0,5,6,55] [M 54 5,W 55 .neq 54 0]
def ZCY:=R [2] [M 56 5,M 2 56]
def ZCZ:=R [2] [M 57 0,M 58 6,I 59 (C QV [(.s 57),(.s 58)]),M 2 59]
def Xi:PF:=⟨false,
 (D ZDS
 (D (D ZDT
 (D ZDU
 (E 10
 (D ZDV
 .ret)
 .skip)))
 (D (D ZDW
 (E 16
 (D ZDX
 .ret)
 .skip))
 (D ZDY
 (D (D ZDZ
 (E 37
 (D ZDa
 .ret)
 .skip))
 (D ZDb
 (D (D ZCX
 (E 55
 (D ZCY
 .ret)
 .skip))
 (D ZCZ
 .ret)))))))),
 [.s 2]⟩
theorem ZEt:ck0 false [] Xi Tryz.f52=some Xi:=by kernel_rfl
def ZGs:=R [0] [I 2 (.mv (.v (.str []))),K 3 0]
def ZGt:=R [0,4] [M 5 0,I 6 (C QY [(.s 5)]),M 4 6]
def ZGu:=R [0,4,8] [M 7 4,W 8 .neq 7 0]
def ZGv:=R [2,3] [M 9 4,I 2 (.mv (.v (.str []))),M 3 9]
def ZGw:=R [0,21] [M 10 0,I 11 (.nilck (.s 10)),F 12 8 11,L 13 12,M 14 0,I 15 (.nilck (.s 14)),F 16 0 15,F 17 1 16,F 18 2 17,F 19 0 18,L 20 19,B 21 .eql 13 20]
def ZGx:=R [2,3] [I 2 (.mv (.v (.str []))),K 3 3]
def ZGy:=R [2,3] [M 22 0,I 23 (C Qb [(.s 22),(.v (.func (.func Yl) [] []))]),X 24 23 0,X 25 23 1,M 2 24,M 3 25]
def ZBa:PF:=⟨false,
 (D ZGs
 (D (D ZGt
 (D ZGu
 (E 8
 (D ZGv
 .ret)
 .skip)))
 (D (D ZGw
 (E 21
 (D ZGx
 .ret)
 .skip))
 (D ZGy
 .ret)))),
 [.s 2,.s 3]⟩
theorem ZJw:ck0 false [] ZBa Tryz.f53=some ZBa:=by kernel_rfl
def ZGz:=R [0] [I 2 (.mv (.v (.str []))),K 3 0]
def ZG0:=R [0,4] [M 16 0,I 17 (C QY [(.s 16)]),M 4 17]
def ZG1:=R [0,4,19] [M 18 4,W 19 .neq 18 0]
def ZG2:=R [2,3] [M 20 4,I 2 (.mv (.v (.str []))),M 3 20]
def ZG3:=R [0,25] [M 21 0,I 22 (.nilck (.s 21)),F 23 8 22,L 24 23,W 25 .eql 24 0]
def ZG4:=R [2,3] [I 2 (.mv (.v (.str []))),K 3 3]
def ZG5:=R [0,5] [I 5 (.boxnil 1)]
def ZG6:=R [0,5,6] [I 26 (.mkf (.func QW) [] [(.s 5)]),M 6 26]
def ZG7:=R [0,5,6,7] [I 7 (.mv (.v (.bool true)))]
def ZG8:=R [0,5,6,7,34] [M 27 7,M 28 27,U 29 28 true 0,G 30 28 true (.nilck (.s 29)),G 31 28 true (.fadr 8 (.s 30)),G 32 28 true (.ld false 1 (.s 31)),G 33 28 true (.bin .gtr (.s 32) (V 0)),I 34 (.pick (.s 28) (.s 33) (.v (.bool false)))]
def ZFI:=R [0,5,6,7,8,9] [M 36 0,I 37 (.nilck (.s 36)),F 38 0 37,I 39 (C Ym [(.s 38)]),M 35 39,X 40 35 0,X 41 35 1,X 42 35 2,M 8 40,M 9 41,M 10 42]
def ZFJ:=R [0,5,6,7,8,9,49] [M 43 0,I 44 (.nilck (.s 43)),F 45 8 44,L 46 45,W 47 .sub 46 1,M 48 9,B 49 .lss 47 48]
def ZFK:=R [0,5,6,7,11] [M 50 0,I 51 (.nilck (.s 50)),F 52 0 51,M 53 0,I 54 (.nilck (.s 53)),F 55 8 54,L 56 55,W 57 .sub 56 1,I 58 (C QZ [(.s 52),(.s 57)]),M 11 58]
def ZFL:=R [0,5,6,7,11,60] [M 59 11,W 60 .neq 59 0]
def ZFM:=R [2,3] [M 61 11,I 2 (.mv (.v (.str []))),M 3 61]
def ZFN:=R [0,5,6,8,9,71] [M 62 0,I 63 (.nilck (.s 62)),F 64 8 63,L 65 64,W 66 .sub 65 1,M 67 9,B 68 .sub 66 67,M 69 8,I 70 (.len 0 (.s 69)),B 71 .geq 68 70]
def ZFO:=R [2,3] [I 2 (.mv (.v (.str []))),K 3 23]
def ZFP:=R [0,5,6,8,9] [M 72 0,I 73 (.nilck (.s 72)),F 74 8 73,L 75 74,W 76 .sub 75 1,I 77 (.nilck (.s 72)),F 78 8 77,N 1 78 76]
def ZFQ:=R [0,5,6,12] [M 79 8,M 80 0,I 81 (.nilck (.s 80)),F 82 8 81,L 83 82,M 84 9,B 85 .sub 83 84,I 86 (.ixStr (.s 79) (.s 85)),M 12 86]
def ZFR:=R [0,5,6,12] [M 87 6,M 88 12,I 89 (.call .norm (.s 87) [(.s 88)])]
def ZFS:=R [0,5,6,7] [M 90 12,I 91 (C ZBH [(.s 90)]),M 7 91]
def ZFT:PC:=(D (D ZG8
 (E 34
 .skip
 (.exit 0)))
 (.block 1
 (D ZFI
 (D (D ZFJ
 (E 49
 (D (D ZFK
 (D ZFL
 (E 60
 (D ZFM
 .ret)
 .skip)))
 (.exit 1))
 .skip))
 (D (D ZFN
 (E 71
 (D ZFO
 .ret)
 .skip))
 (D ZFP
 (D ZFQ
 (D ZFR
 ZFS))))))))
def ZAD:=R [5,13] [L 92 5,I 93 (.len 1 (.s 92)),I 94 (.mkslice 1 1 (.int .u8 0) (.s 93) (.s 93)),M 13 94]
def ZAE:=R [5,13,95,96,97] [L 95 5,I 96 (.len 1 (.s 95)),K 97 0]
def ZFU:=R [5,13,95,96,97,98] [B 98 .lss 97 96]
def ZFV:=R [5,13,14,15,95,96,97] [M 99 97,I 100 (.ixS 1 (.s 95) (.s 97)),L 101 100,M 14 99,M 15 101]
def ZFW:=R [5,13,95,96,97] [M 102 13,L 103 5,I 104 (.len 1 (.s 103)),W 105 .sub 104 1,M 106 14,B 107 .sub 105 106,M 108 15,I 109 (.ixS 1 (.s 102) (.s 107)),N 1 109 108]
def ZFX:=R [5,13,95,96,97] [W 110 .add 97 1,M 97 110]
def ZAF:PC:=(D ZFU
 (D (E 98
 .skip
 (.exit 2))
 (D (.block 3
 (D ZFV
 ZFW))
 ZFX)))
def ZAG:=R [2,3] [M 111 13,I 112 (.b2s (.s 111)),M 2 112,K 3 0]
def XF:PF:=⟨false,
 (D ZGz
 (D (D ZG0
 (D ZG1
 (E 19
 (D ZG2
 .ret)
 .skip)))
 (D (D ZG3
 (E 25
 (D ZG4
 .ret)
 .skip))
 (D ZG5
 (D ZG6
 (D (D ZG7
 (.block 0
 (.loop ZFT)))
 (D ZAD
 (D (D ZAE
 (.block 2
 (.loop ZAF)))
 (D ZAG
 .ret))))))))),
 [.s 2,.s 3]⟩
theorem ZJy:ck0 false [(6,⟨[0,5],[0],[],[],[],[]⟩)] XF Tryz.f56=some XF:=by kernel_rfl
def ZdY:=R [0,1] [I 4 (.mv (.v .nilptr)),K 5 0]
def ZdZ:=R [0,6,7] [M 9 0,M 10 1,I 11 (C ZC7 [(.s 9),(.s 10)]),M 8 11,X 12 8 0,X 13 8 1,M 6 12,M 7 13]
def Zda:=R [0,6,7,15] [M 14 7,W 15 .neq 14 0]
def Zdb:=R [4,5] [M 16 7,I 4 (.mv (.v .nilptr)),M 5 16]
def Zdc:=R [4,5] [M 17 0,M 18 6,I 19 (.mkmap),I 20 (.build [(.int .i64 0),.nilptr,.nilmap,(.int .i64 0),(.int .i64 0),(.int .i64 0)] [(0,1,(.s 17)),(1,1,(.s 18)),(2,1,(.s 19))]),I 21 (.box (.s 20)),M 4 21,K 5 0]
def ZTw:PF:=⟨true,
 (D ZdY
 (D ZdZ
 (D (D Zda
 (E 15
 (D Zdb
 .ret)
 .skip))
 (D Zdc
 .ret)))),
 [.s 4,.s 5]⟩
theorem ZkL:ck0 true [] ZTw Tryz.f57=some ZTw:=by kernel_rfl
def Zhd:=R [0,1,4] [I 4 (.box (.v ZR)),K 5 0]
def Zhe:=R [0,1,4,11] [M 10 0,I 11 (.eqs false 3 [] (.s 10) (.v .nilptr))]
def Zhf:=R [4,5] [I 12 (.build [(.int .u64 0),(.int .i64 0),(.int .i64 0),(.int .i64 0),(.int .i64 0)] []),N 5 4 12,K 5 1]
def Zhg:=R [0,4,6,7] [M 14 1,I 15 (C ZCK [(.s 14)]),M 13 15,X 16 13 0,X 17 13 1,I 6 (.box (.v ZT)),N 7 6 16,M 7 17]
def Zhh:=R [0,4,6,7,19] [M 18 7,W 19 .neq 18 0]
def Zhi:=R [4,5] [I 20 (.build [(.int .u64 0),(.int .i64 0),(.int .i64 0),(.int .i64 0),(.int .i64 0)] []),M 21 7,N 5 4 20,M 5 21]
def Zhj:=R [4,7,8] [M 23 0,T 24 7 6,I 25 (C ZAP [(.s 23),(.s 24)]),M 22 25,X 26 22 0,X 27 22 1,X 28 22 2,I 8 (.box (.v ZR)),N 5 8 26,M 9 27,M 7 28]
def Zhk:=R [4,5] [T 29 5 8,M 30 7,N 5 4 29,M 5 30]
def ZZB:PF:=⟨false,
 (D Zhd
 (D (D Zhe
 (E 11
 (D Zhf
 .ret)
 .skip))
 (D Zhg
 (D (D Zhh
 (E 19
 (D Zhi
 .ret)
 .skip))
 (D Zhj
 (D Zhk
 .ret)))))),
 [.c 4 true 5,.s 5]⟩
theorem ZmO:ck0 false [] ZZB Tryz.f58=some ZZB:=by kernel_rfl
def ZLC:=R [0,3] [I 3 (.box (.s 1)),I 4 (.mv (.v (.str []))),K 5 0]
def ZLD:=R [0,3,8] [F 6 0 3,L 7 6,I 8 (.bin .rem (.s 7) (.v (.int .u8 8)))]
def ZLE:=R [0,3,8,9] [I 10 (.bin .eql (.s 8) (.v (.int .u8 1))),M 9 10]
def ZLF:=R [4,5] [M 11 0,F 12 2 3,L 13 12,I 14 (C QE [(.s 11),(.s 13)]),I 4 (.mv (.v (.str []))),M 5 14]
def ZLG:=R [0,3,8,15] [I 16 (.bin .eql (.s 8) (.v (.int .u8 2))),M 15 16]
def ZLH:=R [4,5] [M 17 0,I 18 (C Qh [(.s 17)]),X 19 18 0,X 20 18 1,M 4 19,M 5 20]
def ZLI:=R [0,3,8,21] [I 22 (.bin .eql (.s 8) (.v (.int .u8 3))),M 21 22]
def ZLJ:=R [4,5] [M 23 0,I 24 (C Qi [(.s 23)]),X 25 24 0,X 26 24 1,M 4 25,M 5 26]
def ZLK:=R [0,3,8,27] [I 28 (.bin .eql (.s 8) (.v (.int .u8 4))),M 27 28]
def ZLL:=R [4,5] [M 29 0,I 30 (C Qq [(.s 29)]),I 4 (.mv (.v (.str []))),M 5 30]
def ZJz:=R [0,3,31] [I 32 (.bin .eql (.s 8) (.v (.int .u8 5))),M 31 32]
def ZJ0:=R [4,5] [M 33 0,I 34 (C Qr [(.s 33)]),I 4 (.mv (.v (.str []))),M 5 34]
def ZJ1:=R [4,5] [M 35 0,F 36 2 3,L 37 36,I 38 (C Qg [(.s 35),(.s 37)]),X 39 38 0,X 40 38 1,M 4 39,M 5 40]
def ZEW:PF:=⟨false,
 (D ZLC
 (D (D ZLD
 (.block 0
 (D ZLE
 (E 9
 (D ZLF
 .ret)
 (D ZLG
 (E 15
 (D ZLH
 .ret)
 (D ZLI
 (E 21
 (D ZLJ
 .ret)
 (D ZLK
 (E 27
 (D ZLL
 .ret)
 (D ZJz
 (E 31
 (D ZJ0
 .ret)
 .skip))))))))))))
 (D ZJ1
 .ret))),
 [.s 4,.s 5]⟩
theorem ZN6:ck0 false [] ZEW Tryz.f59=some ZEW:=by kernel_rfl
def ZZC:=R [0,3,4,5] [I 3 (.box (.s 1)),I 4 (.box (.v ZR)),I 5 (.onil 1),K 6 0]
def ZZD:=R [4,5,6,7] [M 12 0,T 13 7 3,I 14 (C XN [(.s 12),(.s 13)]),M 11 14,X 15 11 0,X 16 11 1,M 7 15,M 6 16]
def ZZE:=R [4,5,6,7,18] [M 17 6,W 18 .neq 17 0]
def ZZF:=R [4,5,6] [I 19 (.build [(.int .u64 0),(.int .i64 0),(.int .i64 0),(.int .i64 0),(.int .i64 0)] []),M 20 6,N 5 4 19,I 5 (.onil 1),M 6 20]
def ZZG:=R [4,5,7,26] [M 21 7,I 22 (.nilck (.s 21)),F 23 1 22,L 24 23,I 25 (.len 1 (.s 24)),W 26 .gtr 25 0]
def ZZH:=R [4,5,7,8,10] [M 28 7,I 29 (C Xo [(.s 28)]),M 27 29,X 30 27 0,X 31 27 1,X 32 27 2,M 8 30,M 9 31,M 10 32]
def ZZI:=R [4,5,7,8,10,34] [M 33 10,W 34 .neq 33 0]
def ZZJ:=R [4,5,6] [I 35 (.build [(.int .u64 0),(.int .i64 0),(.int .i64 0),(.int .i64 0),(.int .i64 0)] []),M 36 10,N 5 4 35,I 5 (.onil 1),M 6 36]
def ZZK:=R [4,5,7] [M 37 5,M 38 8,I 39 (.bslice false 1 [(.int .u64 0)] [(0,(.s 38))]),I 40 (.app 1 8 (.s 37) (.s 39)),M 5 40]
def ZZL:PC:=(D (D ZZG
 (E 26
 .skip
 (.exit 0)))
 (.block 1
 (D ZZH
 (D (D ZZI
 (E 34
 (D ZZJ
 .ret)
 .skip))
 ZZK))))
def ZUQ:=R [4,5,6] [M 42 7,I 43 (C ZBm [(.s 42)]),M 41 43,X 44 41 0,X 45 41 1,N 5 4 44,M 6 45]
def ZUR:=R [4,5,6] [T 46 5 4,M 47 5,M 48 6,N 5 4 46,M 5 47,M 6 48]
def ZN7:PF:=⟨false,
 (D ZZC
 (D ZZD
 (D (D ZZE
 (E 18
 (D ZZF
 .ret)
 .skip))
 (D (.block 0
 (.loop ZZL))
 (D ZUQ
 (D ZUR
 .ret)))))),
 [.c 4 true 5,.s 5,.s 6]⟩
theorem Zhm:ck0 false [(0,⟨[0,3,4,5],[2],[],[],[],[]⟩),(3,⟨[4,5,6],[3],[],[],[],[]⟩),(7,⟨[4,5,6],[3],[],[],[],[]⟩)] ZN7 Tryz.f74=some ZN7:=by kernel_rfl
def ZJ2:=R [0,1] [K 4 0]
def ZJ3:=R [4] [M 5 0,I 6 (.cint .u64 (.s 5)),M 7 1,W 8 .add 7 1,I 9 (.cint .u64 (.s 8)),B 10 .rem 6 9,I 11 (.cint .i64 (.s 10)),M 4 11]
def ZDc:PF:=⟨false,
 (D ZJ2
 (D ZJ3
 .ret)),
 [.s 4]⟩
theorem ZMZ:ck0 false [] ZDc Tryz.f75=some ZDc:=by kernel_rfl
def Zdd:=R [0,3,4] [I 3 (.box (.s 1)),I 4 (.box (.v ZT)),K 5 0]
def Zde:=R [0,3,4,8] [M 7 0,I 8 (.eqs false 3 [] (.s 7) (.v .nilptr))]
def Zdf:=R [4,5] [I 9 (.build [(.int .u64 0),(.int .i64 0),(.int .i64 0),(.int .i64 0),(.int .i64 0),(.str []),.nils] []),N 7 4 9,K 5 1]
def Zdg:=R [0,3,4,12] [T 10 5 3,I 11 (.build [(.int .u64 0),(.int .i64 0),(.int .i64 0),(.int .i64 0),(.int .i64 0)] []),I 12 (.eqs false 0 [(0,0),(1,0),(2,0),(3,0),(4,0)] (.s 10) (.s 11))]
def Zdh:=R [4,5] [I 13 (.build [(.int .u64 0),(.int .i64 0),(.int .i64 0),(.int .i64 0),(.int .i64 0),(.str []),.nils] []),N 7 4 13,K 5 0]
def Zdi:=R [0,3,4,16] [F 14 0 3,L 15 14,I 16 (.bin .eql (.s 15) (.v (.int .u64 0)))]
def Zdj:=R [4,5] [I 17 (.build [(.int .u64 0),(.int .i64 0),(.int .i64 0),(.int .i64 0),(.int .i64 0),(.str []),.nils] []),N 7 4 17,K 5 2]
def Zdk:=R [3,4,6] [M 18 0,F 19 0 3,L 20 19,F 21 1 3,L 22 21,F 23 2 3,T 24 3 23,I 25 (C ZES [(.s 18),(.s 20),(.s 22),(.s 24)]),M 6 25]
def Zdl:=R [3,4,6,27] [M 26 6,W 27 .neq 26 0]
def Zdm:=R [4,5] [I 28 (.build [(.int .u64 0),(.int .i64 0),(.int .i64 0),(.int .i64 0),(.int .i64 0),(.str []),.nils] []),M 29 6,N 7 4 28,M 5 29]
def ZZM:=R [4,5] [F 30 0 3,L 31 30,F 32 1 3,L 33 32,F 34 2 3,T 35 3 34,I 36 (.build [(.int .u64 0),(.int .i64 0),(.int .i64 0),(.int .i64 0),(.int .i64 0),(.str []),.nils] [(0,1,(.s 31)),(1,1,(.s 33)),(2,3,(.s 35))]),N 7 4 36,K 5 0]
def ZTx:PF:=⟨false,
 (D Zdd
 (D (D Zde
 (E 8
 (D Zdf
 .ret)
 .skip))
 (D (D Zdg
 (E 12
 (D Zdh
 .ret)
 .skip))
 (D (D Zdi
 (E 16
 (D Zdj
 .ret)
 .skip))
 (D (D Zdk
 (D Zdl
 (E 27
 (D Zdm
 .ret)
 .skip)))
 (D ZZM
 .ret)))))),
 [.c 4 true 7,.s 5]⟩
theorem ZkN:ck0 false [] ZTx Tryz.f82=some ZTx:=by kernel_rfl
def ZZN:=R [0,3,23] [I 3 (.box (.s 1)),K 4 0]
def ZZO:=R [0,3,6,23] [M 11 0,T 12 5 3,I 13 (C XB [(.s 11),(.s 12)]),M 10 13,X 14 10 0,X 15 10 1,I 5 (.box (.v ZT)),N 7 5 14,M 6 15]
def ZZP:=R [0,3,6,17,23] [M 16 6,W 17 .neq 16 0]
def ZZQ:=R [4] [M 18 6,M 4 18]
def ZZR:=R [0,3,7,23] [I 7 (.box (V 0)),J (.st 1 (.s 7) (V 0))]
def ZZS:=R [7,21,23] [M 19 0,T 20 5 3,I 21 (C ZAR [(.s 19),(.s 20)])]
def ZZT:=R [7,9] [I 9 (.box (.v (.agg [(.int .i64 0),(.str []),.nils,(.int .i64 0)]))),N 4 9 23]
def ZZU:=R [7,9,26] [F 24 3 9,L 25 24,W 26 .neq 25 0]
def ZZV:=R [7] [F 27 3 9,L 28 27,N 1 7 28]
def ZZW:=R [4] [L 29 7,M 4 29]
def p_rope_Check:RF:=⟨30,
 (D ZZN
 (D (D ZZO
 (D ZZP
 (E 17
 (D ZZQ
 .ret)
 .skip)))
 (D ZZR
 (D .skip
 (D ZZS
 .skip))))),
 ⟨(.s 21),[22,23],
 ZZT,
 (.block 1
 (D ZZU
 (E 26
 (D ZZV
 (.exit 0))
 .skip)))⟩,
 (D .skip
 (D ZZW
 .ret)),
 [.s 4]⟩
theorem Zho:ZYc Proofs.Tryz.prog (h0R [] p_rope_Check) Proofs.Tryz.f85=some p_rope_Check:=by kernel_rfl
def ZZX:=R [2,3] [I 2 (.box (.s 0)),I 3 (.box (.s 1)),I 4 (.mv (.v .nilfunc))]
def ZZY:=R [4] [I 5 (.mkf (.func Jg) [] [(.s 2),(.s 3)]),M 4 5]
def ZN8:PF:=⟨true,
 (D ZZX
 (D ZZY
 .ret)),
 [.s 4]⟩
theorem Zhq:ck0 true [] ZN8 Tryz.f86=some ZN8:=by kernel_rfl
def ZQt:=R [0,4,5] [I 4 (.box (.s 1)),I 5 (.box (.s 2)),I 6 (.mv (.v .nils)),K 7 0]
def ZQu:=R [0,4,5,9] [M 18 0,T 19 5 4,I 20 (C XB [(.s 18),(.s 19)]),M 17 20,X 21 17 0,X 22 17 1,I 8 (.box (.v ZT)),N 7 8 21,M 9 22]
def ZQv:=R [0,4,5,9,24] [M 23 9,W 24 .neq 23 0]
def ZQw:=R [6,7] [M 25 9,I 6 (.mv (.v .nils)),M 7 25]
def ZQx:=R [0,4,5,10] [M 26 0,T 27 7 5,I 28 (C Yn [(.s 26),(.s 27)]),M 10 28]
def ZQy:=R [0,4,5,10,30] [M 29 10,W 30 .neq 29 0]
def ZQz:=R [6,7] [M 31 10,I 6 (.mv (.v .nils)),M 7 31]
def ZQ0:=R [0,4,5,11] [I 32 (.mkmap),I 11 (.box (.v .nilmap)),N 1 11 32]
def ZQ1:=R [0,4,11,34,35,36] [T 33 7 5,I 34 (C ZJf [(.s 33)]),I 35 (.len 1 (.s 34)),K 36 0]
def ZQ2:=R [0,4,11,34,35,36,37] [B 37 .lss 36 35]
def ZN9:=R [0,4,11,13,34,35,36] [I 38 (.ixS 1 (.s 34) (.s 36)),L 39 38,M 13 39]
def ZOA:=R [0,4,11,14,34,35,36] [M 40 0,M 41 13,L 42 11,I 43 (C Je [(.s 40),(.s 41),(.s 42),(.v (.func (.func YV) [] []))]),M 14 43]
def ZOB:=R [0,4,11,14,34,35,36,45] [M 44 14,W 45 .neq 44 0]
def ZOC:=R [6,7] [M 46 14,I 6 (.mv (.v .nils)),M 7 46]
def ZOD:=R [0,4,11,34,35,36] [W 47 .add 36 1,M 36 47]
def ZOE:PC:=(D ZQ2
 (D (E 37
 .skip
 (.exit 0))
 (D (.block 1
 (D ZN9
 (D ZOA
 (D ZOB
 (E 45
 (D ZOC
 .ret)
 .skip)))))
 ZOD)))
def ZOF:=R [0,4,11,15] [I 15 (.boxnil 1)]
def ZOG:=R [0,4,11,15,50] [F 48 0 4,L 49 48,I 50 (.bin .eql (.s 49) (.v (.int .u64 0)))]
def ZOH:=R [6,7] [I 6 (.mv (.v .nils)),K 7 0]
def ZOI:=R [15,16] [M 51 0,F 52 0 4,L 53 52,I 54 (.mkmap),I 55 (.mkf (.func YW) [] [(.s 11),(.s 15)]),I 56 (C Je [(.s 51),(.s 53),(.s 54),(.s 55)]),M 16 56]
def ZOJ:=R [15,16,58] [M 57 16,W 58 .neq 57 0]
def ZOK:=R [6,7] [M 59 16,I 6 (.mv (.v .nils)),M 7 59]
def ZOL:=R [6,7] [L 60 15,M 6 60,K 7 0]
def ZJ4:PF:=⟨false,
 (D ZQt
 (D (D ZQu
 (D ZQv
 (E 24
 (D ZQw
 .ret)
 .skip)))
 (D (D ZQx
 (D ZQy
 (E 30
 (D ZQz
 .ret)
 .skip)))
 (D ZQ0
 (D (D ZQ1
 (.block 0
 (.loop ZOE)))
 (D ZOF
 (D (D ZOG
 (E 50
 (D ZOH
 .ret)
 .skip))
 (D ZOI
 (D (D ZOJ
 (E 58
 (D ZOK
 .ret)
 .skip))
 (D ZOL
 .ret)))))))))),
 [.s 6,.s 7]⟩
theorem ZZa:ck0 false [(15,⟨[0,4,11,15],[0],[],[],[],[]⟩)] ZJ4 Tryz.f88=some ZJ4:=by kernel_rfl
def ZUS:=R [0,3,20] [I 3 (.box (.s 1)),I 4 (.mv (.v .nils)),K 5 0]
def ZUT:=R [0,3,6,20] [M 10 0,T 11 5 3,I 12 (C ZAQ [(.s 10),(.s 11)]),M 6 12]
def ZUU:=R [0,3,6,14,20] [M 13 6,W 14 .neq 13 0]
def ZUV:=R [4,5] [M 15 6,I 4 (.mv (.v .nils)),M 5 15]
def ZUW:=R [0,3,7,20] [I 7 (.boxnil 1)]
def ZUX:=R [7,18,20] [M 16 0,T 17 5 3,I 18 (C ZAR [(.s 16),(.s 17)])]
def ZUY:=R [7,9] [I 9 (.box (.v (.agg [(.int .i64 0),(.str []),.nils,(.int .i64 0)]))),N 4 9 20]
def ZUZ:=R [7,9,24] [F 21 0 9,F 22 0 21,L 23 22,W 24 .eql 23 0]
def ZUa:=R [7] [L 25 7,F 26 0 9,F 27 1 26,L 28 27,I 29 (.bslice false 1 [(.str [])] [(0,(.s 28))]),I 30 (.app 1 16 (.s 25) (.s 29)),N 1 7 30]
def ZUb:=R [4,5] [L 31 7,M 4 31,K 5 0]
def p_rope_Leaves:RF:=⟨32,
 (D ZUS
 (D (D ZUT
 (D ZUU
 (E 14
 (D ZUV
 .ret)
 .skip)))
 (D ZUW
 (D ZUX
 .skip)))),
 ⟨(.s 18),[19,20],
 ZUY,
 (.block 1
 (D ZUZ
 (E 24
 ZUa
 .skip)))⟩,
 (D .skip
 (D ZUb
 .ret)),
 [.s 4,.s 5]⟩
theorem Zdo:ZYc Proofs.Tryz.prog (h0R [(4,⟨[0,3,7,20],[0],[],[],[],[]⟩)] p_rope_Leaves) Proofs.Tryz.f89=some p_rope_Leaves:=by kernel_rfl
def ZG9:=R [0] [I 2 (.mv (.v .nils))]
def ZHA:=R [0,7] [M 6 0,I 7 (.eqs false 3 [] (.s 6) (.v .nilptr))]
def ZHB:=R [2] [I 2 (.mv (.v .nils))]
def ZHC:=R [0,3] [M 8 0,I 9 (.nilck (.s 8)),F 10 0 9,L 11 10,I 12 (.len 1 (.s 11)),I 13 (.mkslice 1 8 (.int .i64 0) (.s 12) (.s 12)),M 3 13]
def ZHD:=R [3] [M 14 3,M 15 0,I 16 (.nilck (.s 15)),F 17 0 16,L 18 17,I 19 (.cpy 1 (.s 14) (.s 18))]
def ZHE:=R [3,4,5] [M 20 3,I 21 (.len 1 (.s 20)),W 22 .sub 21 1,K 4 0,M 5 22]
def ZHF:=R [3,4,5,25] [M 23 4,M 24 5,B 25 .lss 23 24]
def ZHG:=R [3,4,5] [M 30 3,M 31 4,M 32 3,M 33 5,M 34 3,M 35 5,I 36 (.ixS 1 (.s 34) (.s 35)),L 37 36,M 38 3,M 39 4,I 40 (.ixS 1 (.s 38) (.s 39)),L 41 40,I 42 (.ixS 1 (.s 30) (.s 31)),N 1 42 37,I 43 (.ixS 1 (.s 32) (.s 33)),N 1 43 41]
def ZHH:=R [3,4,5] [M 26 4,W 27 .add 26 1,M 28 5,W 29 .sub 28 1,M 4 27,M 5 29]
def ZHI:PC:=(D (D ZHF
 (E 25
 .skip
 (.exit 0)))
 (D (.block 1
 ZHG)
 ZHH))
def ZFY:=R [2] [M 44 3,M 2 44]
def ZBb:PF:=⟨false,
 (D ZG9
 (D (D ZHA
 (E 7
 (D ZHB
 .ret)
 .skip))
 (D ZHC
 (D ZHD
 (D (D ZHE
 (.block 0
 (.loop ZHI)))
 (D ZFY
 .ret)))))),
 [.s 2]⟩
theorem ZJ6:ck0 false [] ZBb Tryz.f94=some ZBb:=by kernel_rfl
def ZCa:=R [0] [I 2 (.mv (.v .nils))]
def ZCb:=R [2] [M 3 0,I 4 (C Yz [(.s 3),(.v (.int .u8 2))]),M 2 4]
def XT:PF:=⟨false,
 (D ZCa
 (D ZCb
 .ret)),
 [.s 2]⟩
theorem ZD7:ck0 false [] XT Tryz.f95=some XT:=by kernel_rfl
def ZUc:=R [0,1,2,6] [I 6 (.box (.v (.agg [(.int .u64 0),(.int .i64 0),(.int .i64 0),(.int .i64 0),(.int .i64 0),.nils,.nils]))),K 7 0]
def ZUd:=R [0,2,6,8,9] [M 19 1,I 20 (.call .norm (.s 19) []),M 18 20,X 21 18 0,X 22 18 1,I 8 (.box (.v ZT)),N 7 8 21,M 9 22]
def ZUe:=R [0,2,6,8,9,24] [M 23 9,W 24 .neq 23 0]
def ZUf:=R [6,7] [I 25 (.build [(.int .u64 0),(.int .i64 0),(.int .i64 0),(.int .i64 0),(.int .i64 0),.nils,.nils] []),M 26 9,N 7 6 25,M 7 26]
def ZUg:=R [0,2,6,8,10] [I 27 (.build [(.int .u64 0),(.int .i64 0),(.int .i64 0),(.int .i64 0),(.int .i64 0),.nils,.nils] []),I 10 (.box (.v (.agg [(.int .u64 0),(.int .i64 0),(.int .i64 0),(.int .i64 0),(.int .i64 0),.nils,.nils]))),N 7 10 27]
def ZUh:=R [0,2,6,8,10,11] [I 28 (.mkmap),M 11 28]
def ZUi:=R [0,6,8,10,11,29,30,31] [M 29 2,I 30 (.len 1 (.s 29)),K 31 0]
def ZUj:=R [0,6,8,10,11,29,30,31,32] [B 32 .lss 31 30]
def ZUk:=R [0,6,8,10,11,13,29,30,31] [I 33 (.ixS 5 (.s 29) (.s 31)),T 34 5 33,I 13 (.box (.v ZR)),N 5 13 34]
def ZUl:=R [0,6,8,10,11,14,15,29,30,31] [M 36 0,T 37 5 13,T 38 7 8,I 39 (C ZC5 [(.s 36),(.s 37),(.s 38)]),M 35 39,X 40 35 0,X 41 35 1,M 14 40,M 15 41]
def ZQ3:=R [0,6,8,10,11,14,15,29,30,31,43] [M 42 15,W 43 .neq 42 0]
def ZQ4:=R [6,7] [I 44 (.build [(.int .u64 0),(.int .i64 0),(.int .i64 0),(.int .i64 0),(.int .i64 0),.nils,.nils] []),M 45 15,N 7 6 44,M 7 45]
def ZQ5:=R [0,6,8,10,11,29,30,31,46,47,48] [M 46 14,I 47 (.len 1 (.s 46)),K 48 0]
def ZQ6:=R [0,6,8,10,11,29,30,31,46,47,48,49] [B 49 .lss 48 47]
def ZQ7:=R [0,6,8,10,11,17,29,30,31,46,47,48] [I 50 (.ixS 1 (.s 46) (.s 48)),L 51 50,M 17 51]
def ZQ8:=R [0,6,8,10,11,17,29,30,31,46,47,48,55] [M 52 11,M 53 17,I 54 (.look 0 (.bool false) false (.s 52) (.s 53)),I 55 (.un .not (.s 54))]
def ZQ9:=R [0,6,8,10,11,17,29,30,31,46,47,48] [M 56 11,M 57 17,J (.mupd 0 (.s 56) (.s 57) (.v (.bool true)))]
def ZRA:=R [0,6,8,10,11,29,30,31,46,47,48] [F 58 6 10,L 59 58,M 60 17,I 61 (.bslice false 1 [(.int .u64 0)] [(0,(.s 60))]),I 62 (.app 1 8 (.s 59) (.s 61)),F 63 6 10,N 1 63 62]
def ZRB:=R [0,6,8,10,11,29,30,31,46,47,48] [W 64 .add 48 1,M 48 64]
def p_edit_change_19:PC:=(D ZQ6
 (D (E 49
 .skip
 (.exit 2))
 (D (.block 3
 (D ZQ7
 (D ZQ8
 (E 55
 (D ZQ9
 ZRA)
 .skip))))
 ZRB)))
def ZRC:=R [0,6,8,10,11,29,30,31] [W 65 .add 31 1,M 31 65]
def p_edit_change_21:PC:=(D ZUj
 (D (E 32
 .skip
 (.exit 0))
 (D (.block 1
 (D ZUk
 (D ZUl
 (D (D ZQ3
 (E 43
 (D ZQ4
 .ret)
 .skip))
 (D ZQ5
 (.block 2
 (.loop p_edit_change_19)))))))
 ZRC)))
def ZRD:=R [6,9,10] [M 67 0,T 68 7 8,I 69 (C ZAP [(.s 67),(.s 68)]),M 66 69,X 70 66 0,X 71 66 1,X 72 66 2,F 73 0 10,N 5 73 70,F 74 5 10,N 1 74 71,M 9 72]
def ZRE:=R [6,9,10,76] [M 75 9,W 76 .neq 75 0]
def ZRF:=R [6,7] [I 77 (.build [(.int .u64 0),(.int .i64 0),(.int .i64 0),(.int .i64 0),(.int .i64 0),.nils,.nils] []),M 78 9,N 7 6 77,M 7 78]
def ZRG:=R [6,7] [T 79 7 10,N 7 6 79,K 7 0]
def ZLo:PF:=⟨false,
 (D ZUc
 (D ZUd
 (D (D ZUe
 (E 24
 (D ZUf
 .ret)
 .skip))
 (D ZUg
 (D ZUh
 (D (D ZUi
 (.block 0
 (.loop p_edit_change_21)))
 (D (D ZRD
 (D ZRE
 (E 76
 (D ZRF
 .ret)
 .skip)))
 (D ZRG
 .ret)))))))),
 [.c 6 true 7,.s 7]⟩
theorem Zdq:ck0 false [] ZLo Tryz.f100=some ZLo:=by kernel_rfl
def ZMa:=R [0,1,2,3,4,5] [I 5 (.box (.v ZT)),K 6 0]
def ZMb:=R [5,6] [L 7 0,T 8 5 1,L 9 2,L 10 3,L 11 4,I 12 (C ZJd [(.s 7),(.s 8),(.s 9),(.s 10),(.s 11)]),X 13 12 0,X 14 12 1,N 7 5 13,M 6 14]
def ZFZ:PF:=⟨false,
 (D ZMa
 (D ZMb
 .ret)),
 [.c 5 true 7,.s 6]⟩
theorem ZRI:ck0 false [] ZFZ Tryz.f101=some ZFZ:=by kernel_rfl
def Zdr:=R [0,2,3,4,6,10] [I 6 (.box (.s 1)),I 10 (.box (.v ZT)),K 11 0]
def Zds:=R [0,2,3,4,10,12,13] [M 15 0,T 16 5 6,I 17 (C XB [(.s 15),(.s 16)]),M 14 17,X 18 14 0,X 19 14 1,I 12 (.box (.v ZT)),N 7 12 18,M 13 19]
def Zdt:=R [0,2,3,4,10,12,13,21] [M 20 13,W 21 .neq 20 0]
def Zdu:=R [10,11] [I 22 (.build [(.int .u64 0),(.int .i64 0),(.int .i64 0),(.int .i64 0),(.int .i64 0),(.str []),.nils] []),M 23 13,N 7 10 22,M 11 23]
def Zdv:=R [10,11] [M 24 0,T 25 7 12,M 26 2,M 27 3,M 28 4,I 29 (C ZC8 [(.s 24),(.s 25),(.s 26),(.s 27),(.s 28)]),X 30 29 0,X 31 29 1,N 7 10 30,M 11 31]
def ZTy:PF:=⟨false,
 (D Zdr
 (D Zds
 (D (D Zdt
 (E 21
 (D Zdu
 .ret)
 .skip))
 (D Zdv
 .ret)))),
 [.c 10 true 7,.s 11]⟩
theorem ZkP:ck0 false [] ZTy Tryz.f102=some ZTy:=by kernel_rfl
def ZIs:=R [1] [I 0 (.mv (.v .nilptr)),I 1 (.box (.v ZR)),I 2 (.mv (.v (.bool false)))]
def ZIt:=R [1,3,4] [I 7 (C ZBV [(V 8),(.v (.int .u64 4))]),M 6 7,X 8 6 0,X 9 6 1,M 3 8,M 4 9]
def ZIu:=R [1,3,15] [M 10 3,I 11 (.eqs false 3 [] (.s 10) (.v .nilptr)),M 12 11,U 13 12 false 4,G 14 12 false (.bin .neq (.s 13) (V 0)),I 15 (.pick (.s 12) (.v (.bool true)) (.s 14))]
def ZIv:=R [0,1,2] [I 16 (.build [(.int .u64 0),(.int .i64 0),(.int .i64 0),(.int .i64 0),(.int .i64 0)] []),I 0 (.mv (.v .nilptr)),N 5 1 16,I 2 (.mv (.v (.bool false)))]
def ZIw:=R [1,3,4,5] [M 18 3,I 19 (C ZC4 [(.s 18),(.v (.str [97,98,99,100,101,102,103,104,105,106,107,108,109,110,111,112,113]))]),M 17 19,X 20 17 0,X 21 17 1,I 5 (.box (.v ZR)),N 5 5 20,M 4 21]
def ZIx:=R [0,1,2] [M 22 3,T 23 5 5,M 24 4,W 25 .eql 24 0,M 26 25,G 27 26 true (.fadr 0 (.s 5)),G 28 26 true (.w (.hide [(.s 1)]) (.ld false 1 (.s 27))),G 29 26 true (.bin .eql (.s 28) (.v (.int .u64 65538))),I 30 (.pick (.s 26) (.s 29) (.v (.bool false))),M 0 22,J (.w (.plain (.s 1)) (.st 5 (.s 1) (.s 23))),M 2 30]
def ZCA:PF:=⟨true,
 (D ZIs
 (D ZIt
 (D (D ZIu
 (E 15
 (D ZIv
 .ret)
 .skip))
 (D ZIw
 (D ZIx
 .ret))))),
 [.s 0,.c 1 true 5,.s 2]⟩
theorem ZLN:ck0 true [(5,⟨[0,1,2],[],[],[],[(6,(.hide [(.s 1)])),(10,(.plain (.s 1)))],[]⟩)] ZCA Tryz.f105=some ZCA:=by kernel_rfl
def ZRJ:=R [0,3] [I 3 (.box (.s 1)),K 4 0]
def ZRK:=R [6] [M 8 0,T 9 5 3,I 10 (C Yv [(.s 8),(.s 9),(V 0)]),M 7 10,X 11 7 0,X 12 7 1,M 5 11,M 6 12]
def ZRL:=R [4] [M 13 6,M 4 13]
def ZJ7:PF:=⟨false,
 (D ZRJ
 (D ZRK
 (D ZRL
 .ret))),
 [.s 4]⟩
theorem ZZc:ck0 false [] ZJ7 Tryz.f106=some ZJ7:=by kernel_rfl
def ZIy:=R [0,1] [K 4 0]
def ZIz:=R [0,1,18] [M 13 0,I 14 (.nilck (.s 13)),F 15 6 14,L 16 15,I 17 (.len 1 (.s 16)),W 18 .gtr 17 0]
def ZI0:=R [0,1,5] [M 19 0,I 20 (.nilck (.s 19)),F 21 6 20,L 22 21,M 23 0,I 24 (.nilck (.s 23)),F 25 6 24,L 26 25,I 27 (.len 1 (.s 26)),W 28 .sub 27 1,I 29 (.ixS 5 (.s 22) (.s 28)),T 30 5 29,I 5 (.box (.v (.agg [(.int .i64 0),(.str []),.nils,(.int .i64 0),(.int .i64 0)]))),N 5 5 30]
def ZI1:=R [0,1,40] [M 31 1,F 32 3 5,L 33 32,B 34 .geq 31 33,M 35 34,U 36 35 true 1,G 37 35 true (.fadr 4 (.s 5)),G 38 35 true (.ld false 1 (.s 37)),G 39 35 true (.bin .lss (.s 36) (.s 38)),I 40 (.pick (.s 35) (.s 39) (.v (.bool false)))]
def ZI2:=R [0,1] [M 41 0,M 42 0,I 43 (.nilck (.s 42)),F 44 6 43,L 45 44,M 46 0,I 47 (.nilck (.s 46)),F 48 6 47,L 49 48,I 50 (.len 1 (.s 49)),W 51 .sub 50 1,I 52 (.slc 5 (.s 45) none (some (.s 51))),I 53 (.nilck (.s 41)),F 54 6 53,N 1 54 52]
def ZI3:PC:=(D (D ZIz
 (E 18
 .skip
 (.exit 0)))
 (.block 1
 (D ZI0
 (D (D ZI1
 (E 40
 (.exit 0)
 .skip))
 ZI2))))
def ZI4:=R [0,1,60] [M 55 0,I 56 (.nilck (.s 55)),F 57 6 56,L 58 57,I 59 (.len 1 (.s 58)),W 60 .eql 59 0]
def ZI5:=R [0,1,6] [M 61 0,M 62 0,I 63 (.nilck (.s 62)),F 64 1 63,F 65 0 64,L 66 65,M 67 0,I 68 (.nilck (.s 67)),F 69 1 68,F 70 2 69,F 71 0 70,L 72 71,I 73 (C Jp [(.s 61),(.s 66),(V 0),(.s 72)]),M 6 73]
def ZI6:=R [0,1,6,75] [M 74 6,W 75 .neq 74 0]
def ZI7:=R [4] [M 76 6,M 4 76]
def ZHJ:=R [0,1,7] [M 77 0,I 78 (.nilck (.s 77)),F 79 6 78,L 80 79,M 81 0,I 82 (.nilck (.s 81)),F 83 6 82,L 84 83,I 85 (.len 1 (.s 84)),W 86 .sub 85 1,I 87 (.ixS 5 (.s 80) (.s 86)),T 88 5 87,I 7 (.box (.v (.agg [(.int .i64 0),(.str []),.nils,(.int .i64 0),(.int .i64 0)]))),N 5 7 88]
def ZHK:=R [0,1,7,92] [F 89 0 7,F 90 0 89,L 91 90,W 92 .eql 91 0]
def ZHL:=R [4] [K 4 0]
def ZHM:=R [0,1,7,8,9] [F 93 3 7,L 94 93,M 8 94,I 9 (.mv (.v (.bool false)))]
def ZHN:=R [0,1,8,9,97,98,99] [F 95 0 7,F 96 2 95,L 97 96,I 98 (.len 1 (.s 97)),K 99 0]
def ZHO:=R [0,1,8,9,97,98,99,100] [B 100 .lss 99 98]
def ZHP:=R [0,1,8,9,11,97,98,99] [I 101 (.ixS 4 (.s 97) (.s 99)),T 102 4 101,I 11 (.box (.v ZK)),N 4 11 102]
def ZHQ:=R [0,1,8,9,11,97,98,99,109] [M 103 1,M 104 8,F 105 1 11,F 106 0 105,L 107 106,B 108 .add 104 107,B 109 .lss 103 108]
def ZHR:=R [0,1,12] [M 110 0,F 111 0 11,L 112 111,M 113 8,M 114 8,F 115 1 11,F 116 0 115,L 117 116,B 118 .add 114 117,I 119 (C Jp [(.s 110),(.s 112),(.s 113),(.s 118)]),M 12 119]
def ZHS:=R [0,1,12,121] [M 120 12,W 121 .neq 120 0]
def ZHT:=R [4] [M 122 12,M 4 122]
def ZHU:=R [0,1,9] [I 9 (.mv (.v (.bool true)))]
def ZHV:=R [0,1,8,9,97,98,99] [M 123 8,F 124 1 11,F 125 0 124,L 126 125,B 127 .add 123 126,M 8 127]
def ZHW:=R [0,1,8,9,97,98,99] [W 128 .add 99 1,M 99 128]
def p_cursor_path_enter_24:PC:=(D ZHO
 (D (E 100
 .skip
 (.exit 4))
 (D (.block 5
 (D ZHP
 (D (D ZHQ
 (E 109
 (D (D ZHR
 (D ZHS
 (E 121
 (D ZHT
 .ret)
 .skip)))
 (D ZHU
 (.exit 4)))
 .skip))
 ZHV)))
 ZHW)))
def ZHX:=R [0,1,130] [M 129 9,I 130 (.un .not (.s 129))]
def ZHY:=R [4] [K 4 23]
def p_cursor_path_enter_27:PC:=(.block 3
 (D ZHJ
 (D (D ZHK
 (E 92
 (D ZHL
 .ret)
 .skip))
 (D ZHM
 (D (D ZHN
 (.block 4
 (.loop p_cursor_path_enter_24)))
 (D ZHX
 (E 130
 (D ZHY
 .ret)
 .skip)))))))
def YQ:PF:=⟨true,
 (D ZIy
 (D (.block 0
 (.loop ZI3))
 (D (D ZI4
 (E 60
 (D ZI5
 (D ZI6
 (E 75
 (D ZI7
 .ret)
 .skip)))
 .skip))
 (.block 2
 (.loop p_cursor_path_enter_27))))),
 [.s 4]⟩
theorem ZLP:ck0 true [] YQ Tryz.f107=some YQ:=by kernel_rfl
def ZFa:=R [0] [K 2 0]
def ZFb:=R [0,6] [M 5 0,I 6 (.eqs false 3 [] (.s 5) (.v .nilptr))]
def ZFc:=R [2] [K 2 1]
def ZFd:=R [0,13] [M 7 0,I 8 (.nilck (.s 7)),F 9 0 8,F 10 1 9,F 11 0 10,L 12 11,I 13 (.bin .neq (.s 12) (.v (.int .u64 0)))]
def ZFe:PC:=(.regH [15] [4] [M 15 0,I 16 (.nilck (.s 15)),F 17 0 16,F 18 0 17,L 19 18,M 20 0,I 21 (.nilck (.s 20)),F 22 0 21,F 23 1 22,F 24 0 23,L 25 24,I 26 (.call .inner (.v (.func (.func QH) [] [])) [(.s 19),(.s 25)]),M 14 26,X 27 14 0,X 28 14 1,I 3 (.w (.here 15) (.box (.v ZN))),N 3 3 27,M 4 28])
def ZFf:=R [30] [M 29 4,W 30 .neq 29 0]
def ZFg:=R [2] [K 2 10]
def ZFh:=R [2] [K 2 0]
def ZAs:PF:=⟨false,
 (D ZFa
 (D (D ZFb
 (E 6
 (D ZFc
 .ret)
 .skip))
 (D (D ZFd
 (E 13
 (D ZFe
 (D ZFf
 (E 30
 (D ZFg
 .ret)
 .skip)))
 .skip))
 (D ZFh
 .ret)))),
 [.s 2]⟩
theorem ZI9:ck0 false [(4,⟨[4],[],[(11,.inner)],[],[(15,(.here 15))],[15]⟩)] ZAs Tryz.f108=some ZAs:=by kernel_rfl
def ZD8:=R [0,1] [I 4 (.mv (.v (.str []))),K 5 0]
def ZD9:=R [0,1,6] [I 6 (.boxnil 1)]
def ZEA:=R [0,1,6,7] [I 13 (.mkf (.func QK) [] [(.s 6)]),M 7 13]
def ZEB:=R [0,1,6,7,25] [M 14 0,I 15 (.nilck (.s 14)),F 16 8 15,L 17 16,M 18 0,I 19 (.nilck (.s 18)),F 20 0 19,F 21 1 20,F 22 2 21,F 23 0 22,L 24 23,B 25 .lss 17 24]
def ZEC:=R [0,1,6,7,8,9,10] [M 27 0,I 28 (.nilck (.s 27)),F 29 0 28,I 30 (C Ym [(.s 29)]),M 26 30,X 31 26 0,X 32 26 1,X 33 26 2,M 8 31,M 9 32,M 10 33]
def ZED:=R [0,1,6,7,8,9,39] [M 34 0,I 35 (.nilck (.s 34)),F 36 8 35,L 37 36,M 38 10,B 39 .geq 37 38]
def ZEE:=R [0,1,6,7,11] [M 40 0,I 41 (.nilck (.s 40)),F 42 0 41,M 43 0,I 44 (.nilck (.s 43)),F 45 8 44,L 46 45,I 47 (C QZ [(.s 42),(.s 46)]),M 11 47]
def ZEF:=R [0,1,6,7,11,49] [M 48 11,W 49 .neq 48 0]
def ZEG:=R [4,5] [M 50 11,I 4 (.mv (.v (.str []))),M 5 50]
def ZEH:=R [0,1,6,7,8,9,59] [M 51 0,I 52 (.nilck (.s 51)),F 53 8 52,L 54 53,M 55 9,B 56 .sub 54 55,M 57 8,I 58 (.len 0 (.s 57)),B 59 .geq 56 58]
def ZDd:=R [4,5] [I 4 (.mv (.v (.str []))),K 5 23]
def ZDe:=R [0,1,6,7,12] [M 60 8,M 61 0,I 62 (.nilck (.s 61)),F 63 8 62,L 64 63,M 65 9,B 66 .sub 64 65,I 67 (.ixStr (.s 60) (.s 66)),M 12 67]
def ZDf:=R [0,1,6,7,12,73] [M 68 1,L 69 6,I 70 (.len 1 (.s 69)),M 71 12,I 72 (.call .norm (.s 68) [(.s 70),(.s 71)]),I 73 (.un .not (.s 72))]
def ZDg:=R [0,1,6,7] [M 74 7,M 75 12,I 76 (.call .norm (.s 74) [(.s 75)])]
def ZDh:=R [0,1,6,7] [M 77 0,I 78 (.nilck (.s 77)),F 79 8 78,L 80 79,W 81 .add 80 1,I 82 (.nilck (.s 77)),F 83 8 82,N 1 83 81]
def ZDi:PC:=(D (D ZEB
 (E 25
 .skip
 (.exit 0)))
 (.block 1
 (D ZEC
 (D (D ZED
 (E 39
 (D (D ZEE
 (D ZEF
 (E 49
 (D ZEG
 .ret)
 .skip)))
 (.exit 1))
 .skip))
 (D (D ZEH
 (E 59
 (D ZDd
 .ret)
 .skip))
 (D ZDe
 (D (D ZDf
 (E 73
 (.exit 0)
 .skip))
 (D ZDg
 ZDh))))))))
def ZDj:=R [4,5] [L 84 6,I 85 (.b2s (.s 84)),M 4 85,K 5 0]
def YZ:PF:=⟨false,
 (D ZD8
 (D ZD9
 (D ZEA
 (D (.block 0
 (.loop ZDi))
 (D ZDj
 .ret))))),
 [.s 4,.s 5]⟩
theorem ZFj:ck0 false [(1,⟨[0,1,6],[0],[],[],[],[]⟩)] YZ Tryz.f109=some YZ:=by kernel_rfl
def ZEu:=R [0,2] [I 5 (.mv (.v (.bool false)))]
def ZEv:=R [5] [M 6 0,L 7 2,B 8 .lss 6 7,M 5 8]
def ZAY:PF:=⟨false,
 (D ZEu
 (D ZEv
 .ret)),
 [.s 5]⟩
theorem ZHa:ck0 false [] ZAY Tryz.f110=some ZAY:=by kernel_rfl
def ZLQ:=R [0,1,4] [I 4 (.box (.v ZN)),K 5 0]
def ZLR:=R [0,1,4,9] [M 8 0,I 9 (.eqs false 3 [] (.s 8) (.v .nilptr))]
def ZLS:=R [4,5] [I 10 (.build [(.int .i64 0),(.str []),.nils] []),N 3 4 10,K 5 1]
def ZLT:=R [0,4,6,7] [M 12 0,I 13 (.nilck (.s 12)),F 14 2 13,L 15 14,M 16 1,I 17 (.look 0 ZN true (.s 15) (.s 16)),M 11 17,X 18 11 0,X 19 11 1,I 6 (.box (.v ZN)),N 3 6 18,M 7 19]
def ZLU:=R [0,4,6,21] [M 20 7,I 21 (.un .not (.s 20))]
def ZLV:=R [4] [M 22 0,I 23 (.nilck (.s 22)),F 24 5 23,L 25 24,W 26 .add 25 1,I 27 (.nilck (.s 22)),F 28 5 27,N 1 28 26]
def ZLW:=R [4,5] [I 29 (.build [(.int .i64 0),(.str []),.nils] []),N 3 4 29,K 5 10]
def ZLX:=R [4,6] [F 30 2 6,L 31 30,I 32 (C QD [(.s 31)]),F 33 2 6,N 1 33 32]
def ZLY:=R [4,5] [T 34 3 6,N 3 4 34,K 5 0]
def ZEX:PF:=⟨false,
 (D ZLQ
 (D (D ZLR
 (E 9
 (D ZLS
 .ret)
 .skip))
 (D ZLT
 (D (D ZLU
 (E 21
 (D ZLV
 (D ZLW
 .ret))
 .skip))
 (D ZLX
 (D ZLY
 .ret)))))),
 [.c 4 true 3,.s 5]⟩
theorem ZON:ck0 false [] ZEX Tryz.f111=some ZEX:=by kernel_rfl
def ZHb:=R [0,1] [K 4 0]
def ZHc:=R [0,1] [M 5 0,M 6 1,I 7 (.nilck (.s 5)),F 8 8 7,N 1 8 6]
def ZHd:=R [0,1,15] [M 9 0,I 10 (.nilck (.s 9)),F 11 0 10,F 12 1 11,F 13 0 12,L 14 13,I 15 (.bin .eql (.s 14) (.v (.int .u64 0)))]
def ZHe:=R [4] [K 4 0]
def ZHf:=R [4] [M 16 0,I 17 (.nilck (.s 16)),F 18 0 17,M 19 0,I 20 (.nilck (.s 19)),F 21 0 20,M 22 1,I 23 (C XD [(.s 21),(.s 22)]),I 24 (C QZ [(.s 18),(.s 23)]),M 4 24]
def XG:PF:=⟨false,
 (D ZHb
 (D ZHc
 (D (D ZHd
 (E 15
 (D ZHe
 .ret)
 .skip))
 (D ZHf
 .ret)))),
 [.s 4]⟩
theorem ZJ9:ck0 false [] XG Tryz.f112=some XG:=by kernel_rfl
def ZUm:=R [0,2,4,6,8] [I 6 (.box (.s 1)),I 8 (.box (.s 3)),K 10 0,K 11 0]
def ZUn:=R [0,2,4,6,8,12] [M 17 0,T 18 5 6,I 19 (C XM [(.s 17),(.s 18)]),M 12 19]
def ZUo:=R [0,2,4,6,8,12,21] [M 20 12,W 21 .neq 20 0]
def ZUp:=R [10,11] [M 22 12,K 10 0,M 11 22]
def ZUq:=R [0,2,4,6,8,31] [M 23 2,W 24 .lss 23 0,M 25 24,U 26 25 false 2,G 27 25 false (.fadr 2 (.s 6)),G 28 25 false (.fadr 0 (.s 27)),G 29 25 false (.ld false 1 (.s 28)),G 30 25 false (.bin .gtr (.s 26) (.s 29)),I 31 (.pick (.s 25) (.v (.bool true)) (.s 30))]
def ZUr:=R [10,11] [K 10 0,K 11 3]
def ZUs:=R [0,2,4,6,8,36] [M 32 2,F 33 2 6,F 34 0 33,L 35 34,B 36 .eql 32 35]
def ZUt:=R [10,11] [L 37 8,F 38 2 6,T 39 3 38,I 40 (.call .norm (.s 37) [(.s 39)]),M 10 40,K 11 0]
def ZUu:=R [0,2,4,6,8,13] [I 13 (.box (V 0)),J (.st 1 (.s 13) (V 0))]
def ZUv:=R [4,13,14,15] [M 42 0,T 43 5 6,M 44 2,I 45 (.mkf (.func Xp) [] [(.s 13),(.s 8)]),I 46 (C ZBX [(.s 42),(.s 43),(.s 44),(.v (.func (.func ZAT) [] [])),(.s 45)]),M 41 46,X 47 41 0,X 48 41 1,I 14 (.box (.v (.agg [(.str []),(.int .i64 0),.nils]))),N 3 14 47,M 15 48]
def ZRM:=R [4,13,14,15,50] [M 49 15,W 50 .neq 49 0]
def ZRN:=R [10,11] [M 51 15,K 10 0,M 11 51]
def ZRO:=R [13,15,16] [M 53 4,F 54 0 14,L 55 54,F 56 1 14,L 57 56,I 58 (.call .norm (.s 53) [(.s 55),(.s 57)]),M 52 58,X 59 52 0,X 60 52 1,M 16 59,M 15 60]
def ZRP:=R [13,15,16,62] [M 61 15,W 62 .neq 61 0]
def ZRQ:=R [10,11] [M 63 15,K 10 0,M 11 63]
def ZRR:=R [10,11] [L 64 13,M 65 16,B 66 .add 64 65,M 10 66,K 11 0]
def ZLp:PF:=⟨false,
 (D ZUm
 (D (D ZUn
 (D ZUo
 (E 21
 (D ZUp
 .ret)
 .skip)))
 (D (D ZUq
 (E 31
 (D ZUr
 .ret)
 .skip))
 (D (D ZUs
 (E 36
 (D ZUt
 .ret)
 .skip))
 (D ZUu
 (D ZUv
 (D (D ZRM
 (E 50
 (D ZRN
 .ret)
 .skip))
 (D ZRO
 (D (D ZRP
 (E 62
 (D ZRQ
 .ret)
 .skip))
 (D ZRR
 .ret)))))))))),
 [.s 10,.s 11]⟩
theorem Zdx:ck0 false [] ZLp Tryz.f113=some ZLp:=by kernel_rfl
def ZOO:=R [1] [I 1 (.box (.s 0)),K 2 0]
def ZOP:=R [2] [F 3 2 1,L 4 3,M 2 4]
def ZIK:PF:=⟨false,
 (D ZOO
 (D ZOP
 .ret)),
 [.s 2]⟩
theorem ZUx:ck0 false [] ZIK Tryz.f114=some ZIK:=by kernel_rfl
def ZMc:=R [0,1] [K 4 0,K 5 0]
def ZMd:=R [4,5] [M 6 0,M 7 1,I 8 (C ZA7 [(.s 6),(.s 7),(.v (.func (.func YE) [] []))]),X 9 8 0,X 10 8 1,M 4 9,M 5 10]
def ZFk:PF:=⟨false,
 (D ZMc
 (D ZMd
 .ret)),
 [.s 4,.s 5]⟩
theorem ZRT:ck0 false [] ZFk Tryz.f115=some ZFk:=by kernel_rfl
def ZZd:=R [0,3] [I 3 (.box (.s 1)),K 4 0]
def ZZe:=R [0,3,9] [M 8 0,I 9 (.eqs false 3 [] (.s 8) (.v .nilptr))]
def ZZf:=R [4] [K 4 1]
def ZZg:=R [0,3,12] [T 10 5 3,I 11 (.build [(.int .u64 0),(.int .i64 0),(.int .i64 0),(.int .i64 0),(.int .i64 0)] []),I 12 (.eqs false 0 [(0,0),(1,0),(2,0),(3,0),(4,0)] (.s 10) (.s 11))]
def ZZh:=R [4] [K 4 0]
def ZZi:=R [0,3,15] [F 13 0 3,L 14 13,I 15 (.bin .eql (.s 14) (.v (.int .u64 0)))]
def ZZj:=R [4] [K 4 2]
def ZZk:=R [3,5,6] [M 17 0,F 18 0 3,L 19 18,I 20 (C QH [(.s 17),(.s 19)]),M 16 20,X 21 16 0,X 22 16 1,I 5 (.box (.v ZN)),N 3 5 21,M 6 22]
def ZZl:=R [3,5,6,24] [M 23 6,W 24 .neq 23 0]
def ZZm:=R [4] [M 25 6,M 4 25]
def ZUy:=R [3,5,6,7] [T 27 3 5,I 28 (C YY [(.s 27)]),M 26 28,X 29 26 0,X 30 26 1,I 7 (.box (.v ZM)),N 3 7 29,M 6 30]
def ZUz:=R [45] [M 31 6,W 32 .neq 31 0,M 33 32,G 34 33 false (.fadr 0 (.s 5)),G 35 33 false (.ld false 1 (.s 34)),G 36 33 false (.fadr 1 (.s 3)),G 37 33 false (.ld false 1 (.s 36)),G 38 33 false (.bin .neq (.s 35) (.s 37)),I 39 (.pick (.s 33) (.v (.bool true)) (.s 38)),M 40 39,G 41 40 false (.ld true 3 (.s 7)),G 42 40 false (.fadr 2 (.s 3)),G 43 40 false (.ld true 3 (.s 42)),G 44 40 false (.eqs true 0 [(0,0),(1,0),(2,0)] (.s 41) (.s 43)),I 45 (.pick (.s 40) (.v (.bool true)) (.s 44))]
def ZU0:=R [4] [K 4 23]
def ZU1:=R [4] [K 4 0]
def ZOQ:PF:=⟨false,
 (D ZZd
 (D (D ZZe
 (E 9
 (D ZZf
 .ret)
 .skip))
 (D (D ZZg
 (E 12
 (D ZZh
 .ret)
 .skip))
 (D (D ZZi
 (E 15
 (D ZZj
 .ret)
 .skip))
 (D ZZk
 (D (D ZZl
 (E 24
 (D ZZm
 .ret)
 .skip))
 (D ZUy
 (D (D ZUz
 (E 45
 (D ZU0
 .ret)
 .skip))
 (D ZU1
 .ret))))))))),
 [.s 4]⟩
theorem Zhs:ck0 false [] ZOQ Tryz.f116=some ZOQ:=by kernel_rfl
def ZU2:=R [0,2,3,4,6] [I 6 (.box (.s 1)),K 10 0,K 11 0]
def ZU3:=R [0,2,3,4,6,12] [I 12 (.box (V 0)),J (.st 1 (.s 12) (V 0))]
def ZU4:=R [4,12,13,14] [M 17 0,T 18 5 6,M 19 2,M 20 3,I 21 (.mkf (.func Xq) [] [(.s 12)]),I 22 (C ZBX [(.s 17),(.s 18),(.s 19),(.s 20),(.s 21)]),M 16 22,X 23 16 0,X 24 16 1,I 13 (.box (.v (.agg [(.str []),(.int .i64 0),.nils]))),N 3 13 23,M 14 24]
def ZU5:=R [4,12,13,14,26] [M 25 14,W 26 .neq 25 0]
def ZU6:=R [10,11] [M 27 14,K 10 0,M 11 27]
def ZU7:=R [12,14,15] [M 29 4,F 30 0 13,L 31 30,F 32 1 13,L 33 32,I 34 (.call .norm (.s 29) [(.s 31),(.s 33)]),M 28 34,X 35 28 0,X 36 28 1,M 15 35,M 14 36]
def ZU8:=R [12,14,15,38] [M 37 14,W 38 .neq 37 0]
def ZU9:=R [10,11] [M 39 14,K 10 0,M 11 39]
def ZVA:=R [10,11] [L 40 12,M 41 15,B 42 .add 40 41,M 10 42,K 11 0]
def ZLq:PF:=⟨false,
 (D ZU2
 (D ZU3
 (D ZU4
 (D (D ZU5
 (E 26
 (D ZU6
 .ret)
 .skip))
 (D ZU7
 (D (D ZU8
 (E 38
 (D ZU9
 .ret)
 .skip))
 (D ZVA
 .ret))))))),
 [.s 10,.s 11]⟩
theorem Zdz:ck0 false [] ZLq Tryz.f117=some ZLq:=by kernel_rfl
def Zd0:=R [1,2] [I 2 (.box (.s 0)),K 4 0,K 5 0,K 6 0]
def Zd1:=R [1,2,11] [M 10 1,W 11 .lss 10 1]
def Zd2:=R [9] [T 13 3 2,I 14 (C Xg [(.s 13),(V 0),(.v (.func (.func ZLk) [] []))]),M 12 14,X 15 12 0,X 16 12 1,X 17 12 2,M 7 15,M 8 16,M 9 17]
def Zd3:=R [9,19] [M 18 9,W 19 .neq 18 0]
def Zd4:=R [4,5,6] [M 20 9,K 4 0,K 5 0,M 6 20]
def Zd5:=R [4,5,6] [K 4 0,K 5 0,K 6 3]
def Zd6:=R [4,5,6] [T 22 3 2,M 23 1,W 24 .sub 23 1,I 25 (C Xg [(.s 22),(.s 24),(.v (.func (.func ZEl) [] []))]),M 21 25,X 26 21 0,X 27 21 1,X 28 21 2,M 4 26,M 5 27,M 6 28]
def Zd7:=R [4,5,6,30] [M 29 6,W 30 .neq 29 0]
def Zd8:=R [4,5,6] [M 31 6,K 4 0,K 5 0,M 6 31]
def Zd9:=R [4,5,6] [M 32 4,M 33 5,W 34 .add 33 1,M 4 32,M 5 34,K 6 0]
def ZTz:PF:=⟨false,
 (D Zd0
 (D (D Zd1
 (E 11
 (D (D Zd2
 (D Zd3
 (E 19
 (D Zd4
 .ret)
 .skip)))
 (D Zd5
 .ret))
 .skip))
 (D Zd6
 (D (D Zd7
 (E 30
 (D Zd8
 .ret)
 .skip))
 (D Zd9
 .ret))))),
 [.s 4,.s 5,.s 6]⟩
theorem ZkR:ck0 false [] ZTz Tryz.f118=some ZTz:=by kernel_rfl
def ZRU:=R [0,1] [K 4 0,K 5 0]
def ZRV:=R [0,1,9] [M 8 1,W 9 .eql 8 0]
def ZRW:=R [4,5] [K 4 0,K 5 0]
def ZRX:=R [0,1,11] [M 10 1,W 11 .gtr 10 0]
def ZRY:=R [6,7] [M 13 0,M 14 1,W 15 .sub 14 1,I 16 (C ZDA [(.s 13),(.v (.func (.func YE) [] [])),(.s 15)]),M 12 16,X 17 12 0,X 18 12 1,M 6 17,M 7 18]
def ZRZ:=R [6,19] [M 19 7]
def ZRa:=R [4,5] [M 20 6,W 21 .add 20 1,M 4 21,K 5 0]
def ZRb:=R [4,5] [K 4 0,K 5 3]
def ZKA:PF:=⟨false,
 (D ZRU
 (D (D ZRV
 (E 9
 (D ZRW
 .ret)
 .skip))
 (D (D ZRX
 (E 11
 (D ZRY
 (D ZRZ
 (E 19
 (D ZRa
 .ret)
 .skip)))
 .skip))
 (D ZRb
 .ret)))),
 [.s 4,.s 5]⟩
theorem ZZo:ck0 false [] ZKA Tryz.f119=some ZKA:=by kernel_rfl
def ZEw:=R [0,1] [I 4 (.mv (.v (.bool false)))]
def ZEx:=R [4] [M 5 0,W 6 .eql 5 0,M 7 6,U 8 7 false 1,G 9 7 false (C ZBH [(.s 8)]),I 10 (.pick (.s 7) (.v (.bool true)) (.s 9)),M 4 10]
def ZAZ:PF:=⟨false,
 (D ZEw
 (D ZEx
 .ret)),
 [.s 4]⟩
theorem ZHh:ck0 false [] ZAZ Tryz.f120=some ZAZ:=by kernel_rfl
def ZVB:=R [0] [I 2 (.mv (.v (.bool false)))]
def ZVC:=R [2] [M 3 0,I 4 (.bin .geq (.s 3) (.v (.int .u8 128))),M 5 4,U 6 5 true 0,G 7 5 true (.bin .lss (.s 6) (.v (.int .u8 192))),I 8 (.pick (.s 5) (.s 7) (.v (.bool false))),M 2 8]
def ZLr:PF:=⟨false,
 (D ZVB
 (D ZVC
 .ret)),
 [.s 2]⟩
theorem ZeB:ck0 false [] ZLr Tryz.f121=some ZLr:=by kernel_rfl
def ZEy:=R [] [L 3 1,M 4 0,I 5 (.bslice false 1 [(.int .u8 0)] [(0,(.s 4))]),I 6 (.app 1 1 (.s 3) (.s 5)),N 1 1 6]
def ZAa:PF:=⟨false,
 ZEy,
 []⟩
theorem ZHj:ck0 false [] ZAa Tryz.f124=some ZAa:=by kernel_rfl
def ZKB:=R [0] [I 2 (.mv (.v (.str []))),K 3 0,K 4 0]
def ZKC:=R [0,11] [M 6 0,I 7 (.nilck (.s 6)),F 8 6 7,L 9 8,I 10 (.len 1 (.s 9)),W 11 .eql 10 0]
def ZKD:=R [2,3,4] [I 2 (.mv (.v (.str []))),K 3 0,K 4 0]
def ZKE:=R [5] [M 12 0,I 13 (.nilck (.s 12)),F 14 6 13,L 15 14,M 16 0,I 17 (.nilck (.s 16)),F 18 6 17,L 19 18,I 20 (.len 1 (.s 19)),W 21 .sub 20 1,I 22 (.ixS 5 (.s 15) (.s 21)),T 23 5 22,I 5 (.box (.v (.agg [(.int .i64 0),(.str []),.nils,(.int .i64 0),(.int .i64 0)]))),N 5 5 23]
def ZKF:=R [2,3,4] [F 24 0 5,F 25 1 24,L 26 25,F 27 3 5,L 28 27,F 29 4 5,L 30 29,M 2 26,M 3 28,M 4 30]
def ZDk:PF:=⟨false,
 (D ZKB
 (D (D ZKC
 (E 11
 (D ZKD
 .ret)
 .skip))
 (D ZKE
 (D ZKF
 .ret)))),
 [.s 2,.s 3,.s 4]⟩
theorem ZMf:ck0 false [] ZDk Tryz.f125=some ZDk:=by kernel_rfl
def ZRc:=R [0,1] [I 4 (.mv (.v .nilptr)),K 5 0]
def ZRd:=R [0,1,21] [M 8 0,W 9 .lss 8 1,M 10 9,U 11 10 false 0,G 12 10 false (.bin .gtr (.s 11) (V 16384)),I 13 (.pick (.s 10) (.v (.bool true)) (.s 12)),M 14 13,U 15 14 false 1,G 16 14 false (.bin .lss (.s 15) (.v (.int .u64 1))),I 17 (.pick (.s 14) (.v (.bool true)) (.s 16)),M 18 17,U 19 18 false 1,G 20 18 false (.bin .gtr (.s 19) (.v (.int .u64 4294967295))),I 21 (.pick (.s 18) (.v (.bool true)) (.s 20))]
def ZRe:=R [4,5] [I 4 (.mv (.v .nilptr)),K 5 3]
def ZRf:PC:=(.regH [3,1,5] [0,6] [M 22 0,I 23 (.w (.here 1) (.mkslice 1 8 (.int .i64 0) (.s 22) (.s 22))),M 24 0,I 25 (.w (.here 3) (.mkslice 1 1 (.int .u8 0) (.s 24) (.s 24))),M 26 0,I 27 (.w (.here 5) (.mkslice 1 8 (.int .u64 0) (.s 26) (.s 26))),M 28 1,I 29 (.build [.nils,.nils,.nils,(.int .u64 0)] [(0,1,(.s 23)),(1,1,(.s 25)),(2,1,(.s 27)),(3,1,(.s 28))]),I 30 (.box (.s 29)),M 6 30])
def ZRg:=R [0,6,31,32] [M 31 0,K 32 0]
def ZRh:=R [0,6,31,32,33] [B 33 .lss 32 31]
def ZRi:=R [0,6,7,31,32] [M 34 32,M 7 34]
def ZRj:=R [0,6,7,31,32] [M 35 6,I 36 (.nilck (.s 35)),F 37 0 36,L 38 37,M 39 7,M 40 0,W 41 .sub 40 1,M 42 7,B 43 .sub 41 42,I 44 (.ixS 1 (.s 38) (.s 39)),N 1 44 43]
def ZRk:=R [0,6,31,32] [M 45 6,I 46 (.nilck (.s 45)),F 47 2 46,L 48 47,M 49 7,I 50 (.ixS 1 (.s 48) (.s 49)),J (.st 1 (.s 50) (.v (.int .u64 1)))]
def ZRl:=R [0,6,31,32] [W 51 .add 32 1,M 32 51]
def ZOR:PC:=(D ZRh
 (D (E 33
 .skip
 (.exit 0))
 (D (.block 1
 (D ZRi
 (D ZRj
 ZRk)))
 ZRl)))
def ZOS:=R [4,5] [M 52 6,M 4 52,K 5 0]
def ZKG:PF:=⟨true,
 (D ZRc
 (D (D ZRd
 (E 21
 (D ZRe
 .ret)
 .skip))
 (D ZRf
 (D (D ZRg
 (.block 0
 (.loop ZOR)))
 (D ZOS
 .ret))))),
 [.s 4,.s 5]⟩
theorem ZZq:ck0 true [(3,⟨[0,6],[],[],[],[(1,(.here 1)),(5,(.here 5)),(3,(.here 3))],[3,1,5]⟩)] ZKG Tryz.f126=some ZKG:=by kernel_rfl
def ZZr:=R [0,2] [I 2 (.box (.v ZT)),K 3 0]
def ZZs:=R [0,2,14] [M 12 0,I 13 (.len 0 (.s 12)),W 14 .gtr 13 65536]
def ZZt:=R [2,3] [I 15 (.build [(.int .u64 0),(.int .i64 0),(.int .i64 0),(.int .i64 0),(.int .i64 0),(.str []),.nils] []),N 7 2 15,K 3 5]
def ZZu:=R [0,2,4] [I 4 (.onil 7)]
def ZZv:=R [2,4,17,18,19] [M 16 0,I 17 (C ZDB [(.s 16)]),I 18 (.len 1 (.s 17)),K 19 0]
def ZZw:=R [2,4,17,18,19,20] [B 20 .lss 19 18]
def ZZx:=R [2,4,6,17,18,19] [I 21 (.ixS 1 (.s 17) (.s 19)),L 22 21,M 6 22]
def ZZy:=R [2,4,17,18,19] [M 23 4,M 24 6,I 25 (.build [(.int .u64 0),(.int .i64 0),(.int .i64 0),(.int .i64 0),(.int .i64 0),(.str []),.nils] [(5,1,(.s 24))]),I 26 (.bslice false 7 [ZT] [(0,(.s 25))]),I 27 (.app 7 80 (.s 23) (.s 26)),M 4 27]
def ZZz:=R [2,4,17,18,19] [W 28 .add 19 1,M 19 28]
def ZZ0:PC:=(D ZZw
 (D (E 20
 .skip
 (.exit 0))
 (D (.block 1
 (D ZZx
 ZZy))
 ZZz)))
def ZVD:=R [2,4,31] [M 29 4,I 30 (.len 1 (.s 29)),W 31 .gtr 30 1]
def ZVE:=R [2,4,7,8] [M 33 4,I 34 (.len 1 (.s 33)),I 35 (C ZGa [(.s 34),(V 4)]),M 32 35,X 36 32 0,X 37 32 1,M 7 36,M 8 37]
def ZVF:=R [2,4,7,8,39] [M 38 8,W 39 .neq 38 0]
def ZVG:=R [2,3] [I 40 (.build [(.int .u64 0),(.int .i64 0),(.int .i64 0),(.int .i64 0),(.int .i64 0),(.str []),.nils] []),M 41 8,N 7 2 40,M 3 41]
def ZVH:=R [2,4,7,9] [I 9 (.onil 7)]
def ZVI:=R [2,4,9,42,43,44] [M 42 7,I 43 (.len 1 (.s 42)),K 44 0]
def ZVJ:=R [2,4,9,42,43,44,45] [B 45 .lss 44 43]
def ZVK:=R [2,4,9,11,42,43,44] [I 46 (.ixS 1 (.s 42) (.s 44)),L 47 46,M 11 47]
def ZVL:=R [2,4,9,11,42,43,44] [M 48 9,M 49 4,M 50 11,I 51 (.slc 7 (.s 49) none (some (.s 50))),I 52 (C Qa [(.s 51)]),I 53 (.bslice false 7 [ZT] [(0,(.s 52))]),I 54 (.app 7 80 (.s 48) (.s 53)),M 9 54]
def ZVM:=R [2,4,9,42,43,44] [M 55 4,M 56 11,I 57 (.slc 7 (.s 55) (some (.s 56)) none),M 4 57]
def ZVN:=R [2,4,9,42,43,44] [W 58 .add 44 1,M 44 58]
def ZVO:PC:=(D ZVJ
 (D (E 45
 .skip
 (.exit 4))
 (D (.block 5
 (D ZVK
 (D ZVL
 ZVM)))
 ZVN)))
def ZVP:=R [2,4] [M 59 9,M 4 59]
def ZIL:PC:=(D (D ZVD
 (E 31
 .skip
 (.exit 2)))
 (.block 3
 (D ZVE
 (D (D ZVF
 (E 39
 (D ZVG
 .ret)
 .skip))
 (D ZVH
 (D (D ZVI
 (.block 4
 (.loop ZVO)))
 ZVP))))))
def ZIM:=R [2,3] [M 60 4,I 61 (C Qa [(.s 60)]),N 7 2 61,K 3 0]
def ZOT:PF:=⟨false,
 (D ZZr
 (D (D ZZs
 (E 14
 (D ZZt
 .ret)
 .skip))
 (D ZZu
 (D (D ZZv
 (.block 0
 (.loop ZZ0)))
 (D (.block 2
 (.loop ZIL))
 (D ZIM
 .ret)))))),
 [.c 2 true 7,.s 3]⟩
theorem Zhu:ck0 false [(3,⟨[0,2,4],[0],[],[],[],[]⟩),(13,⟨[2,4,7,9],[0],[],[],[],[]⟩)] ZOT Tryz.f127=some ZOT:=by kernel_rfl
def ZRm:=R [0,2,3,4,6,10] [I 6 (.box (.s 1)),I 10 (.box (.v ZT)),K 11 0]
def ZRn:=R [0,2,3,4,6,10,12] [M 20 0,T 21 7 6,I 22 (C Yn [(.s 20),(.s 21)]),M 12 22]
def ZRo:=R [0,2,3,4,6,10,12,24] [M 23 12,W 24 .neq 23 0]
def ZRp:=R [10,11] [I 25 (.build [(.int .u64 0),(.int .i64 0),(.int .i64 0),(.int .i64 0),(.int .i64 0),(.str []),.nils] []),M 26 12,N 7 10 25,M 11 26]
def ZRq:=R [0,2,3,4,6,10,13] [T 27 7 6,I 28 (C JB [(.s 27)]),M 13 28]
def ZRr:=R [0,2,3,4,6,10,13,46] [M 29 2,W 30 .lss 29 0,M 31 30,U 32 31 false 2,U 33 31 false 13,G 34 31 false (.bin .gtr (.s 32) (.s 33)),I 35 (.pick (.s 31) (.v (.bool true)) (.s 34)),M 36 35,U 37 36 false 3,G 38 36 false (.bin .lss (.s 37) (V 0)),I 39 (.pick (.s 36) (.v (.bool true)) (.s 38)),M 40 39,U 41 40 false 3,U 42 40 false 13,U 43 40 false 2,G 44 40 false (.bin .sub (.s 42) (.s 43)),G 45 40 false (.bin .gtr (.s 41) (.s 44)),I 46 (.pick (.s 40) (.v (.bool true)) (.s 45))]
def ZRs:=R [10,11] [I 47 (.build [(.int .u64 0),(.int .i64 0),(.int .i64 0),(.int .i64 0),(.int .i64 0),(.str []),.nils] []),N 7 10 47,K 11 3]
def ZRt:=R [0,2,3,4,6,10,60] [M 48 13,M 49 3,B 50 .sub 48 49,M 51 4,I 52 (.len 0 (.s 51)),I 53 (.mnx false (.s 52) (V 65536)),I 54 (.bin .sub (V 65536) (.s 53)),B 55 .gtr 50 54,M 56 55,U 57 56 false 4,G 58 56 false (.len 0 (.s 57)),G 59 56 false (.bin .gtr (.s 58) (V 65536)),I 60 (.pick (.s 56) (.v (.bool true)) (.s 59))]
def ZRu:=R [10,11] [I 61 (.build [(.int .u64 0),(.int .i64 0),(.int .i64 0),(.int .i64 0),(.int .i64 0),(.str []),.nils] []),N 7 10 61,K 11 5]
def ZRv:=R [0,2,3,4,6,10,67] [M 62 3,W 63 .eql 62 0,M 64 63,U 65 64 true 4,G 66 64 true (.bin .eql (.s 65) (.v (.str []))),I 67 (.pick (.s 64) (.s 66) (.v (.bool false)))]
def ZOU:=R [10,11] [T 68 7 6,I 69 (C ZC9 [(.s 68)]),N 7 10 69,K 11 0]
def ZOV:=R [0,3,4,10,14,15,16] [M 71 0,T 72 7 6,M 73 2,I 74 (C ZA6 [(.s 71),(.s 72),(.s 73)]),M 70 74,X 75 70 0,X 76 70 1,X 77 70 2,I 14 (.box (.v ZT)),I 15 (.box (.v ZT)),N 7 14 75,N 7 15 76,M 16 77]
def ZOW:=R [0,3,4,10,14,15,16,79] [M 78 16,W 79 .neq 78 0]
def ZOX:=R [10,11] [I 80 (.build [(.int .u64 0),(.int .i64 0),(.int .i64 0),(.int .i64 0),(.int .i64 0),(.str []),.nils] []),M 81 16,N 7 10 80,M 11 81]
def ZOY:=R [0,4,10,14,16,18] [M 83 0,T 84 7 15,M 85 3,I 86 (C ZA6 [(.s 83),(.s 84),(.s 85)]),M 82 86,X 87 82 0,X 88 82 1,X 89 82 2,I 17 (.box (.v ZT)),I 18 (.box (.v ZT)),N 7 17 87,N 7 18 88,M 16 89]
def ZOZ:=R [0,4,10,14,16,18,91] [M 90 16,W 91 .neq 90 0]
def ZOa:=R [10,11] [I 92 (.build [(.int .u64 0),(.int .i64 0),(.int .i64 0),(.int .i64 0),(.int .i64 0),(.str []),.nils] []),M 93 16,N 7 10 92,M 11 93]
def ZOb:=R [0,10,14,16,18,19] [M 95 4,I 96 (C ZCK [(.s 95)]),M 94 96,X 97 94 0,X 98 94 1,I 19 (.box (.v ZT)),N 7 19 97,M 16 98]
def ZOc:=R [0,10,14,16,18,19,100] [M 99 16,W 100 .neq 99 0]
def ZOd:=R [10,11] [I 101 (.build [(.int .u64 0),(.int .i64 0),(.int .i64 0),(.int .i64 0),(.int .i64 0),(.str []),.nils] []),M 102 16,N 7 10 101,M 11 102]
def ZOe:=R [0,10,14,16,18] [M 104 0,T 105 7 14,T 106 7 19,I 107 (C Yw [(.s 104),(.s 105),(.s 106)]),M 103 107,X 108 103 0,X 109 103 1,N 7 14 108,M 16 109]
def ZOf:=R [0,10,14,16,18,111] [M 110 16,W 111 .neq 110 0]
def ZOg:=R [10,11] [I 112 (.build [(.int .u64 0),(.int .i64 0),(.int .i64 0),(.int .i64 0),(.int .i64 0),(.str []),.nils] []),M 113 16,N 7 10 112,M 11 113]
def ZOh:=R [10,14,16] [M 115 0,T 116 7 14,T 117 7 18,I 118 (C Yw [(.s 115),(.s 116),(.s 117)]),M 114 118,X 119 114 0,X 120 114 1,N 7 14 119,M 16 120]
def ZOi:=R [10,11] [T 121 7 14,I 122 (C ZC9 [(.s 121)]),M 123 16,N 7 10 122,M 11 123]
def ZKH:PF:=⟨false,
 (D ZRm
 (D (D ZRn
 (D ZRo
 (E 24
 (D ZRp
 .ret)
 .skip)))
 (D ZRq
 (D (D ZRr
 (E 46
 (D ZRs
 .ret)
 .skip))
 (D (D ZRt
 (E 60
 (D ZRu
 .ret)
 .skip))
 (D (D ZRv
 (E 67
 (D ZOU
 .ret)
 .skip))
 (D ZOV
 (D (D ZOW
 (E 79
 (D ZOX
 .ret)
 .skip))
 (D ZOY
 (D (D ZOZ
 (E 91
 (D ZOa
 .ret)
 .skip))
 (D ZOb
 (D (D ZOc
 (E 100
 (D ZOd
 .ret)
 .skip))
 (D (D ZOe
 (D ZOf
 (E 111
 (D ZOg
 .ret)
 .skip)))
 (D ZOh
 (D ZOi
 .ret))))))))))))))),
 [.c 10 true 7,.s 11]⟩
theorem ZZ2:ck0 false [] ZKH Tryz.f134=some ZKH:=by kernel_rfl
def ZZ3:=R [0,3] [I 3 (.box (.s 1)),K 4 0]
def ZZ4:=R [0,3,7] [M 6 0,I 7 (.eqs false 3 [] (.s 6) (.v .nilptr))]
def ZZ5:=R [4] [K 4 1]
def ZZ6:=R [0,3,10] [T 8 7 3,I 9 (C JH [(.s 8)]),W 10 .eql 9 1]
def ZZ7:=R [4] [K 4 0]
def ZZ8:=R [3,5] [M 11 0,T 12 7 3,I 13 (C ZCL [(.s 11),(.s 12),(.v (.bool false)),(V 0)]),M 5 13]
def ZZ9:=R [3,5,15] [M 14 5,W 15 .neq 14 0]
def ZaA:=R [4] [M 16 5,M 4 16]
def ZaB:=R [19] [T 17 7 3,I 18 (C JB [(.s 17)]),W 19 .gtr 18 65536]
def ZaC:=R [4] [K 4 5]
def ZVQ:=R [4] [K 4 0]
def ZOj:PF:=⟨false,
 (D ZZ3
 (D (D ZZ4
 (E 7
 (D ZZ5
 .ret)
 .skip))
 (D (D ZZ6
 (E 10
 (D ZZ7
 .ret)
 .skip))
 (D (D ZZ8
 (D ZZ9
 (E 15
 (D ZaA
 .ret)
 .skip)))
 (D (D ZaB
 (E 19
 (D ZaC
 .ret)
 .skip))
 (D ZVQ
 .ret)))))),
 [.s 4]⟩
theorem Zhw:ck0 false [] ZOj Tryz.f135=some ZOj:=by kernel_rfl
def ZeC:=R [0,3] [I 3 (.box (.s 1)),I 4 (.mv (.v (.str []))),K 5 0]
def ZeD:=R [0,3,10] [F 8 0 3,L 9 8,I 10 (.bin .eql (.s 9) (.v (.int .u64 0)))]
def ZeE:=R [4,5] [F 11 5 3,L 12 11,M 4 12,K 5 0]
def ZeF:=R [6,7] [M 14 0,F 15 0 3,L 16 15,I 17 (C QH [(.s 14),(.s 16)]),M 13 17,X 18 13 0,X 19 13 1,I 6 (.box (.v ZN)),N 3 6 18,M 7 19]
def ZeG:=R [4,5] [F 20 1 6,L 21 20,M 22 7,M 4 21,M 5 22]
def ZT0:PF:=⟨false,
 (D ZeC
 (D (D ZeD
 (E 10
 (D ZeE
 .ret)
 .skip))
 (D ZeF
 (D ZeG
 .ret)))),
 [.s 4,.s 5]⟩
theorem ZkT:ck0 false [] ZT0 Tryz.f137=some ZT0:=by kernel_rfl
def ZOk:=R [0,3] [I 3 (.box (.s 1)),I 4 (.mv (.v .nils)),K 5 0]
def ZOl:=R [0,3,13] [F 11 0 3,L 12 11,I 13 (.bin .eql (.s 12) (.v (.int .u64 0)))]
def ZOm:=R [4,5] [F 14 6 3,L 15 14,M 4 15,K 5 0]
def ZOn:=R [6,7] [M 17 0,F 18 0 3,L 19 18,I 20 (C QH [(.s 17),(.s 19)]),M 16 20,X 21 16 0,X 22 16 1,I 6 (.box (.v ZN)),N 3 6 21,M 7 22]
def ZOo:=R [6,7,24] [M 23 7,W 24 .neq 23 0]
def ZOp:=R [4,5] [M 25 7,I 4 (.mv (.v .nils)),M 5 25]
def ZOq:=R [6,8] [I 8 (.onil 7)]
def ZOr:=R [6,8,27,28,29] [F 26 2 6,L 27 26,I 28 (.len 1 (.s 27)),K 29 0]
def ZOs:=R [6,8,27,28,29,30] [B 30 .lss 29 28]
def ZOt:=R [6,8,10,27,28,29] [I 31 (.ixS 4 (.s 27) (.s 29)),T 32 4 31,I 10 (.box (.v ZK)),N 4 10 32]
def ZMg:=R [6,8,27,28,29] [M 33 8,F 34 0 10,L 35 34,F 36 0 6,L 37 36,W 38 .sub 37 1,F 39 1 10,T 40 3 39,I 41 (.build [(.int .u64 0),(.int .i64 0),(.int .i64 0),(.int .i64 0),(.int .i64 0),(.str []),.nils] [(0,1,(.s 35)),(1,1,(.s 38)),(2,3,(.s 40))]),I 42 (.bslice false 7 [ZT] [(0,(.s 41))]),I 43 (.app 7 80 (.s 33) (.s 42)),M 8 43]
def ZMh:=R [6,8,27,28,29] [W 44 .add 29 1,M 29 44]
def ZDl:PC:=(D ZOs
 (D (E 30
 .skip
 (.exit 0))
 (D (.block 1
 (D ZOt
 ZMg))
 ZMh)))
def ZMi:=R [8,47] [M 45 8,I 46 (.len 1 (.s 45)),W 47 .eql 46 0]
def ZMj:=R [4,5] [I 4 (.mv (.v .nils)),K 5 23]
def ZMk:=R [4,5] [M 48 8,M 4 48,K 5 0]
def ZIN:PF:=⟨false,
 (D ZOk
 (D (D ZOl
 (E 13
 (D ZOm
 .ret)
 .skip))
 (D ZOn
 (D (D ZOo
 (E 24
 (D ZOp
 .ret)
 .skip))
 (D ZOq
 (D (D ZOr
 (.block 0
 (.loop ZDl)))
 (D (D ZMi
 (E 47
 (D ZMj
 .ret)
 .skip))
 (D ZMk
 .ret)))))))),
 [.s 4,.s 5]⟩
theorem ZVS:ck0 false [(6,⟨[6,8],[0],[],[],[],[]⟩)] ZIN Tryz.f138=some ZIN:=by kernel_rfl
def ZeH:=R [1] [I 1 (.box (.s 0)),K 2 0]
def ZeI:=R [1,3] [F 4 2 1,T 5 3 4,I 6 (.build [(.int .i64 0),(.int .i64 0),(.int .i64 0)] []),I 7 (.eqs false 0 [(0,0),(1,0),(2,0)] (.s 5) (.s 6)),M 8 7,G 9 8 true (.fadr 0 (.s 1)),G 10 8 true (.ld false 1 (.s 9)),G 11 8 true (.bin .eql (.s 10) (.v (.int .u64 0))),I 12 (.pick (.s 8) (.s 11) (.v (.bool false))),M 3 12]
def ZeJ:=R [1,3,13] [M 14 3,M 15 14,G 16 15 true (.fadr 1 (.s 1)),G 17 15 true (.ld false 1 (.s 16)),G 18 15 true (.bin .eql (.s 17) (V 0)),I 19 (.pick (.s 15) (.s 18) (.v (.bool false))),M 20 19,G 21 20 true (.fadr 5 (.s 1)),G 22 20 true (.ld false 1 (.s 21)),G 23 20 true (.bin .eql (.s 22) (.v (.str []))),I 24 (.pick (.s 20) (.s 23) (.v (.bool false))),M 25 24,G 26 25 true (.fadr 6 (.s 1)),G 27 25 true (.ld false 1 (.s 26)),G 28 25 true (.len 1 (.s 27)),G 29 25 true (.bin .eql (.s 28) (V 0)),I 30 (.pick (.s 25) (.s 29) (.v (.bool false))),M 13 30]
def ZeK:=R [2] [K 2 1]
def ZeL:=R [1,3,31] [F 32 0 1,L 33 32,I 34 (.bin .neq (.s 33) (.v (.int .u64 0))),M 35 34,G 36 35 true (.fadr 5 (.s 1)),G 37 35 true (.ld false 1 (.s 36)),G 38 35 true (.bin .eql (.s 37) (.v (.str []))),I 39 (.pick (.s 35) (.s 38) (.v (.bool false))),M 40 39,G 41 40 true (.fadr 6 (.s 1)),G 42 40 true (.ld false 1 (.s 41)),G 43 40 true (.len 1 (.s 42)),G 44 40 true (.bin .eql (.s 43) (V 0)),I 45 (.pick (.s 40) (.s 44) (.v (.bool false))),M 31 45]
def ZeM:=R [2] [K 2 2]
def ZeN:=R [1,3,46] [M 47 3,M 48 47,G 49 48 true (.fadr 1 (.s 1)),G 50 48 true (.ld false 1 (.s 49)),G 51 48 true (.bin .eql (.s 50) (V 0)),I 52 (.pick (.s 48) (.s 51) (.v (.bool false))),M 53 52,G 54 53 true (.fadr 6 (.s 1)),G 55 53 true (.ld false 1 (.s 54)),G 56 53 true (.len 1 (.s 55)),G 57 53 true (.bin .eql (.s 56) (V 0)),I 58 (.pick (.s 53) (.s 57) (.v (.bool false))),M 59 58,G 60 59 true (.fadr 5 (.s 1)),G 61 59 true (.ld false 1 (.s 60)),G 62 59 true (.len 0 (.s 61)),G 63 59 true (.bin .leq (.s 62) (V 16)),I 64 (.pick (.s 59) (.s 63) (.v (.bool false))),M 46 64]
def ZeO:=R [2] [K 2 3]
def ZeP:=R [65] [M 66 3,M 67 66,G 68 67 true (.fadr 5 (.s 1)),G 69 67 true (.ld false 1 (.s 68)),G 70 67 true (.bin .eql (.s 69) (.v (.str []))),I 71 (.pick (.s 67) (.s 70) (.v (.bool false))),M 72 71,G 73 72 true (.fadr 1 (.s 1)),G 74 72 true (.ld false 1 (.s 73)),G 75 72 true (.bin .geq (.s 74) (V 1)),I 76 (.pick (.s 72) (.s 75) (.v (.bool false))),M 77 76,G 78 77 true (.fadr 1 (.s 1)),G 79 77 true (.ld false 1 (.s 78)),G 80 77 true (.bin .leq (.s 79) (V 16)),I 81 (.pick (.s 77) (.s 80) (.v (.bool false))),M 82 81,G 83 82 true (.fadr 6 (.s 1)),G 84 82 true (.ld false 1 (.s 83)),G 85 82 true (.len 1 (.s 84)),G 86 82 true (.bin .geq (.s 85) (V 2)),I 87 (.pick (.s 82) (.s 86) (.v (.bool false))),M 88 87,G 89 88 true (.fadr 6 (.s 1)),G 90 88 true (.ld false 1 (.s 89)),G 91 88 true (.len 1 (.s 90)),G 92 88 true (.bin .leq (.s 91) (V 4)),I 93 (.pick (.s 88) (.s 92) (.v (.bool false))),M 65 93]
def ZeQ:=R [2] [K 2 4]
def ZaD:=R [2] [K 2 0]
def ZT1:PF:=⟨false,
 (D ZeH
 (D ZeI
 (D (.block 0
 (D ZeJ
 (E 13
 (D ZeK
 .ret)
 (D ZeL
 (E 31
 (D ZeM
 .ret)
 (D ZeN
 (E 46
 (D ZeO
 .ret)
 (D ZeP
 (E 65
 (D ZeQ
 .ret)
 .skip)))))))))
 (D ZaD
 .ret)))),
 [.s 2]⟩
theorem ZkV:ck0 false [] ZT1 Tryz.f139=some ZT1:=by kernel_rfl
def ZaE:=R [0,3] [I 3 (.box (.s 1)),I 4 (.mv (.v .nilptr)),K 5 0]
def ZaF:=R [0,3,6] [M 8 0,T 9 7 3,I 10 (C Yn [(.s 8),(.s 9)]),M 6 10]
def ZaG:=R [0,3,6,12] [M 11 6,W 12 .neq 11 0]
def ZaH:=R [4,5] [M 13 6,I 4 (.mv (.v .nilptr)),M 5 13]
def ZaI:=R [0,3,19] [T 14 7 3,I 15 (C ZA8 [(.s 14)]),M 16 0,I 17 (C XY [(.s 16)]),I 18 (.fld false 1 1 (.s 17)),B 19 .gtr 15 18]
def ZaJ:=R [4,5] [I 4 (.mv (.v .nilptr)),K 5 6]
def ZaK:=R [3,7] [M 20 0,I 21 (.build [.nilptr,.nils,.nilptr] [(0,1,(.s 20))]),I 22 (.box (.s 21)),M 7 22]
def ZaL:=R [7] [M 23 7,M 24 7,T 25 7 3,I 26 (C Q7 [(.s 24),(.s 25)]),I 27 (.nilck (.s 23)),F 28 2 27,N 1 28 26]
def ZaM:=R [4,5] [M 29 7,M 4 29,K 5 0]
def ZOu:PF:=⟨true,
 (D ZaE
 (D (D ZaF
 (D ZaG
 (E 12
 (D ZaH
 .ret)
 .skip)))
 (D (D ZaI
 (E 19
 (D ZaJ
 .ret)
 .skip))
 (D ZaK
 (D ZaL
 (D ZaM
 .ret)))))),
 [.s 4,.s 5]⟩
theorem Zhy:ck0 true [] ZOu Tryz.f140=some ZOu:=by kernel_rfl
def ZOv:=R [0] [I 2 (.mv (.v (.int .u64 0))),I 3 (.mv (.v (.bool false))),K 4 0]
def ZOw:=R [0,6] [M 5 0,I 6 (.eqs false 3 [] (.s 5) (.v .nilptr))]
def ZOx:=R [2,3,4] [I 2 (.mv (.v (.int .u64 0))),I 3 (.mv (.v (.bool false))),K 4 1]
def ZOy:=R [0,12] [M 7 0,I 8 (.nilck (.s 7)),F 9 1 8,L 10 9,I 11 (.len 1 (.s 10)),W 12 .eql 11 0]
def ZOz:=R [2,3,4] [I 2 (.mv (.v (.int .u64 0))),I 3 (.mv (.v (.bool true))),K 4 0]
def ZO0:=R [0,2,4] [M 14 0,I 15 (.nilck (.s 14)),F 16 1 15,L 17 16,I 18 (.ixS 1 (.s 17) (V 0)),L 19 18,I 20 (.call .norm (.s 19) []),M 13 20,X 21 13 0,X 22 13 1,M 2 21,M 4 22]
def ZO1:=R [0,2,4,24] [M 23 4,W 24 .neq 23 0]
def ZO2:=R [2,3,4] [M 25 4,I 2 (.mv (.v (.int .u64 0))),I 3 (.mv (.v (.bool false))),M 4 25]
def ZO3:=R [0,2] [M 26 0,M 27 0,I 28 (.nilck (.s 27)),F 29 1 28,L 30 29,I 31 (.slc 1 (.s 30) (some (V 1)) none),I 32 (.nilck (.s 26)),F 33 1 32,N 1 33 31]
def ZO4:=R [2,3,4] [M 34 2,M 35 0,I 36 (.nilck (.s 35)),F 37 1 36,L 38 37,I 39 (.len 1 (.s 38)),W 40 .eql 39 0,M 2 34,M 3 40,K 4 0]
def ZIO:PF:=⟨false,
 (D ZOv
 (D (D ZOw
 (E 6
 (D ZOx
 .ret)
 .skip))
 (D (D ZOy
 (E 12
 (D ZOz
 .ret)
 .skip))
 (D ZO0
 (D (D ZO1
 (E 24
 (D ZO2
 .ret)
 .skip))
 (D ZO3
 (D ZO4
 .ret))))))),
 [.s 2,.s 3,.s 4]⟩
theorem ZVU:ck0 false [] ZIO Tryz.f141=some ZIO:=by kernel_rfl
def ZO5:=R [0,2] [I 2 (.box (.v ZR)),K 3 0]
def ZO6:=R [0,2,5] [M 4 0,I 5 (.eqs false 3 [] (.s 4) (.v .nilptr))]
def ZO7:=R [2,3] [I 6 (.build [(.int .u64 0),(.int .i64 0),(.int .i64 0),(.int .i64 0),(.int .i64 0)] []),N 5 2 6,K 3 1]
def ZO8:=R [0,2,12] [M 7 0,I 8 (.nilck (.s 7)),F 9 1 8,L 10 9,I 11 (.len 1 (.s 10)),W 12 .gtr 11 0]
def ZO9:=R [2,3] [I 13 (.build [(.int .u64 0),(.int .i64 0),(.int .i64 0),(.int .i64 0),(.int .i64 0)] []),N 5 2 13,K 3 8]
def ZPA:=R [2,3] [M 14 0,I 15 (.nilck (.s 14)),F 16 2 15,L 17 16,I 18 (.nilck (.s 17)),T 19 5 18,N 5 2 19,K 3 0]
def ZIP:PF:=⟨false,
 (D ZO5
 (D (D ZO6
 (E 5
 (D ZO7
 .ret)
 .skip))
 (D (D ZO8
 (E 12
 (D ZO9
 .ret)
 .skip))
 (D ZPA
 .ret)))),
 [.c 2 true 5,.s 3]⟩
theorem ZVW:ck0 false [] ZIP Tryz.f142=some ZIP:=by kernel_rfl
def ZeR:=R [0,2,4] [I 4 (.box (.s 1)),I 6 (.mv (.v (.str []))),K 7 0,I 8 (.mv (.v .nils)),K 9 0]
def ZeS:=R [0,2,4,10] [M 12 0,T 13 5 4,I 14 (C XM [(.s 12),(.s 13)]),M 10 14]
def ZeT:=R [0,2,4,10,16] [M 15 10,W 16 .neq 15 0]
def ZeU:=R [6,7,8,9] [M 17 10,I 6 (.mv (.v (.str []))),K 7 0,I 8 (.mv (.v .nils)),M 9 17]
def ZeV:=R [0,2,4,26] [M 18 2,W 19 .lss 18 0,M 20 19,U 21 20 false 2,G 22 20 false (.fadr 2 (.s 4)),G 23 20 false (.fadr 0 (.s 22)),G 24 20 false (.ld false 1 (.s 23)),G 25 20 false (.bin .geq (.s 21) (.s 24)),I 26 (.pick (.s 20) (.v (.bool true)) (.s 25))]
def ZeW:=R [6,7,8,9] [I 6 (.mv (.v (.str []))),K 7 0,I 8 (.mv (.v .nils)),K 9 3]
def ZeX:=R [9,11] [M 28 0,T 29 5 4,M 30 2,I 31 (C ZBX [(.s 28),(.s 29),(.s 30),(.v (.func (.func ZAT) [] [])),(.v (.func (.func ZBI) [] []))]),M 27 31,X 32 27 0,X 33 27 1,I 11 (.box (.v (.agg [(.str []),(.int .i64 0),.nils]))),N 3 11 32,M 9 33]
def ZeY:=R [6,7,8,9] [F 34 0 11,L 35 34,F 36 1 11,L 37 36,F 38 2 11,L 39 38,M 40 9,M 6 35,M 7 37,M 8 39,M 9 40]
def ZT2:PF:=⟨false,
 (D ZeR
 (D (D ZeS
 (D ZeT
 (E 16
 (D ZeU
 .ret)
 .skip)))
 (D (D ZeV
 (E 26
 (D ZeW
 .ret)
 .skip))
 (D ZeX
 (D ZeY
 .ret))))),
 [.s 6,.s 7,.s 8,.s 9]⟩
theorem ZkX:ck0 false [] ZT2 Tryz.f144=some ZT2:=by kernel_rfl
def ZeZ:=R [0,1,2,7] [I 7 (.box (.s 3)),K 8 0]
def Zea:=R [2,7,9,10] [M 13 0,M 14 1,I 15 (C QH [(.s 13),(.s 14)]),M 12 15,X 16 12 0,X 17 12 1,I 9 (.box (.v ZN)),N 3 9 16,M 10 17]
def Zeb:=R [2,7,9,10,19] [M 18 10,W 19 .neq 18 0]
def Zec:=R [8] [M 20 10,M 8 20]
def Zed:=R [2,7,9,10,11] [T 22 3 9,I 23 (C YY [(.s 22)]),M 21 23,X 24 21 0,X 25 21 1,I 11 (.box (.v ZM)),N 3 11 24,M 10 25]
def Zee:=R [38] [M 26 10,W 27 .neq 26 0,M 28 27,G 29 28 false (.fadr 0 (.s 9)),G 30 28 false (.ld false 1 (.s 29)),U 31 28 false 2,G 32 28 false (.bin .neq (.s 30) (.s 31)),I 33 (.pick (.s 28) (.v (.bool true)) (.s 32)),M 34 33,G 35 34 false (.ld true 3 (.s 11)),G 36 34 false (.ld true 3 (.s 7)),G 37 34 false (.eqs true 0 [(0,0),(1,0),(2,0)] (.s 35) (.s 36)),I 38 (.pick (.s 34) (.v (.bool true)) (.s 37))]
def Zef:=R [8] [K 8 23]
def Zeg:=R [8] [K 8 0]
def ZT3:PF:=⟨false,
 (D ZeZ
 (D Zea
 (D (D Zeb
 (E 19
 (D Zec
 .ret)
 .skip))
 (D Zed
 (D (D Zee
 (E 38
 (D Zef
 .ret)
 .skip))
 (D Zeg
 .ret)))))),
 [.s 8]⟩
theorem ZkZ:ck0 false [] ZT3 Tryz.f149=some ZT3:=by kernel_rfl
def ZRw:=R [1,2,3] [I 3 (.box (.s 0))]
def ZRx:=R [1,2,3,4] [I 4 (.box (.v .nilfunc))]
def ZRy:=R [2,4] [I 5 (.mkf (.func YU) [] [(.s 1),(.s 3),(.s 4)]),N 1 4 5]
def ZRz:=R [2,4,8] [F 6 0 2,L 7 6,I 8 (.bin .neq (.s 7) (.v (.int .u64 0)))]
def ZR0:=R [] [L 9 4,F 10 0 2,L 11 10,I 12 (.call .norm (.s 9) [(.s 11)])]
def ZKI:PF:=⟨false,
 (D ZRw
 (D ZRx
 (D ZRy
 (D ZRz
 (E 8
 ZR0
 .skip))))),
 []⟩
theorem ZaO:ck0 false [] ZKI Tryz.f155=some ZKI:=by kernel_rfl
def ZMl:=R [0,1,2,3] [I 5 (.mv (.v (.bool false)))]
def ZMm:=R [0,2,3,6,7] [L 11 1,M 12 0,I 13 (C QH [(.s 11),(.s 12)]),M 10 13,X 14 10 0,X 15 10 1,I 6 (.box (.v ZN)),N 3 6 14,M 7 15]
def ZMn:=R [3,6,26] [L 16 2,M 17 0,T 18 3 6,M 19 7,I 20 (.build [(.int .i64 0),(.str []),.nils,(.int .i64 0)] [(0,3,(.s 18)),(3,1,(.s 19))]),I 21 (.call .norm (.s 16) [(.s 17),(.s 20)]),I 22 (.un .not (.s 21)),M 23 22,U 24 23 false 7,G 25 23 false (.bin .neq (.s 24) (V 0)),I 26 (.pick (.s 23) (.v (.bool true)) (.s 25))]
def ZMo:=R [5] [I 5 (.mv (.v (.bool false)))]
def ZMp:=R [3,28,29,30] [F 27 2 6,L 28 27,I 29 (.len 1 (.s 28)),K 30 0]
def ZMq:=R [3,28,29,30,31] [B 31 .lss 30 29]
def ZMr:=R [3,9,28,29,30] [I 32 (.ixS 4 (.s 28) (.s 30)),T 33 4 32,I 9 (.box (.v ZK)),N 4 9 33]
def ZMs:=R [3,28,29,30,38] [L 34 3,F 35 0 9,L 36 35,I 37 (.call .norm (.s 34) [(.s 36)]),I 38 (.un .not (.s 37))]
def ZMt:=R [5] [I 5 (.mv (.v (.bool false)))]
def ZMu:=R [3,28,29,30] [W 39 .add 30 1,M 30 39]
def ZLZ:PC:=(D ZMq
 (D (E 31
 .skip
 (.exit 0))
 (D (.block 1
 (D ZMr
 (D ZMs
 (E 38
 (D ZMt
 .ret)
 .skip))))
 ZMu)))
def ZLa:=R [5] [I 5 (.mv (.v (.bool true)))]
def ZFl:PF:=⟨false,
 (D ZMl
 (D ZMm
 (D (D ZMn
 (E 26
 (D ZMo
 .ret)
 .skip))
 (D (D ZMp
 (.block 0
 (.loop ZLZ)))
 (D ZLa
 .ret))))),
 [.s 5]⟩
theorem ZR2:ck0 false [] ZFl Tryz.f156=some ZFl:=by kernel_rfl
def ZaP:=R [1] [I 1 (.box (.s 0)),K 2 0]
def ZaQ:=R [1,3] [F 6 2 1,F 7 0 6,L 8 7,F 9 5 1,L 10 9,I 11 (.len 0 (.s 10)),B 12 .add 8 11,M 3 12]
def ZaR:=R [3,14,15,16] [F 13 6 1,L 14 13,I 15 (.len 1 (.s 14)),K 16 0]
def ZaS:=R [3,14,15,16,17] [B 17 .lss 16 15]
def ZaT:=R [3,5,14,15,16] [I 18 (.ixS 7 (.s 14) (.s 16)),T 19 7 18,I 5 (.box (.v ZT)),N 7 5 19]
def ZaU:=R [3,14,15,16] [M 20 3,T 21 7 5,I 22 (C JB [(.s 21)]),B 23 .add 20 22,M 3 23]
def ZaV:=R [3,14,15,16] [W 24 .add 16 1,M 16 24]
def ZaW:PC:=(D ZaS
 (D (E 17
 .skip
 (.exit 0))
 (D (.block 1
 (D ZaT
 ZaU))
 ZaV)))
def ZaX:=R [2] [M 25 3,M 2 25]
def ZPB:PF:=⟨false,
 (D ZaP
 (D ZaQ
 (D (D ZaR
 (.block 0
 (.loop ZaW)))
 (D ZaX
 .ret)))),
 [.s 2]⟩
theorem Zh0:ck0 false [] ZPB Tryz.f157=some ZPB:=by kernel_rfl
def Zh1:=R [0,2,4,6,7] [I 4 (.box (.s 1)),I 6 (.box (.v ZT)),I 7 (.box (.v ZT)),K 8 0]
def Zh2:=R [0,2,4,6,7,18] [M 17 2,W 18 .eql 17 0]
def Zh3:=R [6,7,8] [I 19 (.build [(.int .u64 0),(.int .i64 0),(.int .i64 0),(.int .i64 0),(.int .i64 0),(.str []),.nils] []),I 20 (.w (.hide [(.s 6)]) (.ld true 7 (.s 4))),J (.w (.plain (.s 6)) (.st 7 (.s 6) (.s 19))),N 7 7 20,K 8 0]
def Zh4:=R [0,2,4,6,7,24] [M 21 2,T 22 7 4,I 23 (C JB [(.s 22)]),B 24 .eql 21 23]
def Zh5:=R [6,7,8] [T 25 7 4,I 26 (.build [(.int .u64 0),(.int .i64 0),(.int .i64 0),(.int .i64 0),(.int .i64 0),(.str []),.nils] []),N 7 6 25,N 7 7 26,K 8 0]
def Zh6:=R [0,2,4,6,7,29] [F 27 1 4,L 28 27,W 29 .eql 28 0]
def Zh7:=R [2,6,7,9,10] [M 31 0,T 32 7 4,I 33 (C ZBW [(.s 31),(.s 32)]),M 30 33,X 34 30 0,X 35 30 1,M 9 34,M 10 35]
def Zh8:=R [2,6,7,9,10,37] [M 36 10,W 37 .neq 36 0]
def Zh9:=R [6,7,8] [I 38 (.build [(.int .u64 0),(.int .i64 0),(.int .i64 0),(.int .i64 0),(.int .i64 0),(.str []),.nils] []),I 39 (.build [(.int .u64 0),(.int .i64 0),(.int .i64 0),(.int .i64 0),(.int .i64 0),(.str []),.nils] []),M 40 10,N 7 6 38,N 7 7 39,M 8 40]
def ZiA:=R [6,7,10,11,12] [M 42 9,M 43 2,I 44 (C ZJh [(.s 42),(.s 43)]),M 41 44,X 45 41 0,X 46 41 1,X 47 41 2,M 11 45,M 12 46,M 10 47]
def Zeh:=R [6,7,8] [M 48 11,I 49 (.build [(.int .u64 0),(.int .i64 0),(.int .i64 0),(.int .i64 0),(.int .i64 0),(.str []),.nils] [(5,1,(.s 48))]),M 50 12,I 51 (.build [(.int .u64 0),(.int .i64 0),(.int .i64 0),(.int .i64 0),(.int .i64 0),(.str []),.nils] [(5,1,(.s 50))]),M 52 10,N 7 6 49,N 7 7 51,M 8 52]
def Zei:=R [0,2,6,7,8,13] [M 54 0,T 55 7 4,I 56 (C Yu [(.s 54),(.s 55)]),M 53 56,X 57 53 0,X 58 53 1,M 13 57,M 8 58]
def Zej:=R [0,2,6,7,8,13,60] [M 59 8,W 60 .neq 59 0]
def Zek:=R [6,7,8] [I 61 (.build [(.int .u64 0),(.int .i64 0),(.int .i64 0),(.int .i64 0),(.int .i64 0),(.str []),.nils] []),I 62 (.build [(.int .u64 0),(.int .i64 0),(.int .i64 0),(.int .i64 0),(.int .i64 0),(.str []),.nils] []),M 63 8,N 7 6 61,N 7 7 62,M 8 63]
def Zel:=R [0,2,6,7,13,14] [K 14 0]
def Zem:=R [0,2,6,7,13,14,77] [M 64 14,W 65 .add 64 1,M 66 13,I 67 (.len 1 (.s 66)),B 68 .lss 65 67,M 69 68,U 70 69 true 2,U 71 69 true 13,U 72 69 true 14,G 73 69 true (.ixS 7 (.s 71) (.s 72)),G 74 69 true (.ld true 7 (.s 73)),G 75 69 true (C JB [(.s 74)]),G 76 69 true (.bin .geq (.s 70) (.s 75)),I 77 (.pick (.s 69) (.s 76) (.v (.bool false)))]
def Zen:=R [0,2,6,7,13,14] [M 78 2,M 79 13,M 80 14,I 81 (.ixS 7 (.s 79) (.s 80)),T 82 7 81,I 83 (C JB [(.s 82)]),B 84 .sub 78 83,M 2 84]
def Zeo:=R [0,2,6,7,13,14] [M 85 14,W 86 .add 85 1,M 14 86]
def ZLs:PC:=(D (D Zem
 (E 77
 .skip
 (.exit 0)))
 (.block 1
 (D Zen
 Zeo)))
def Zep:=R [0,2,6,7,13,14,88] [M 87 2,W 88 .eql 87 0]
def Zeq:=R [6,7,8] [M 89 13,M 90 14,I 91 (.slc 7 (.s 89) none (some (.s 90))),I 92 (.call .pure (.v (.func (.func Qa) [] [])) [(.s 91)]),M 93 13,M 94 14,I 95 (.slc 7 (.s 93) (some (.s 94)) none),I 96 (C Qa [(.s 95)]),N 7 6 92,N 7 7 96,K 8 0]
def Zer:=R [0,6,7,8,13,14,15,16] [M 98 0,M 99 13,M 100 14,I 101 (.ixS 7 (.s 99) (.s 100)),T 102 7 101,M 103 2,I 104 (C ZA6 [(.s 98),(.s 102),(.s 103)]),M 97 104,X 105 97 0,X 106 97 1,X 107 97 2,I 15 (.box (.v ZT)),I 16 (.box (.v ZT)),N 7 15 105,N 7 16 106,M 8 107]
def Zes:=R [0,6,7,8,13,14,15,16,109] [M 108 8,W 109 .neq 108 0]
def Zet:=R [6,7,8] [I 110 (.build [(.int .u64 0),(.int .i64 0),(.int .i64 0),(.int .i64 0),(.int .i64 0),(.str []),.nils] []),I 111 (.build [(.int .u64 0),(.int .i64 0),(.int .i64 0),(.int .i64 0),(.int .i64 0),(.str []),.nils] []),M 112 8,N 7 6 110,N 7 7 111,M 8 112]
def Zeu:=R [0,6,7,8,13,14,16] [M 114 0,M 115 13,M 116 14,I 117 (.slc 7 (.s 115) none (some (.s 116))),I 118 (.call .pure (.v (.func (.func Qa) [] [])) [(.s 117)]),T 119 7 15,I 120 (C Yw [(.s 114),(.s 118),(.s 119)]),M 113 120,X 121 113 0,X 122 113 1,N 7 6 121,M 8 122]
def Zev:=R [0,6,7,8,13,14,16,124] [M 123 8,W 124 .neq 123 0]
def Zew:=R [6,7,8] [I 125 (.build [(.int .u64 0),(.int .i64 0),(.int .i64 0),(.int .i64 0),(.int .i64 0),(.str []),.nils] []),I 126 (.build [(.int .u64 0),(.int .i64 0),(.int .i64 0),(.int .i64 0),(.int .i64 0),(.str []),.nils] []),M 127 8,N 7 6 125,N 7 7 126,M 8 127]
def Zex:=R [6,7,8] [M 129 0,T 130 7 16,M 131 13,M 132 14,W 133 .add 132 1,I 134 (.slc 7 (.s 131) (some (.s 133)) none),I 135 (.call .pure (.v (.func (.func Qa) [] [])) [(.s 134)]),I 136 (C Yw [(.s 129),(.s 130),(.s 135)]),M 128 136,X 137 128 0,X 138 128 1,N 7 7 137,M 8 138]
def Zey:=R [6,7,8,140] [M 139 8,W 140 .neq 139 0]
def Zez:=R [6,7,8] [I 141 (.build [(.int .u64 0),(.int .i64 0),(.int .i64 0),(.int .i64 0),(.int .i64 0),(.str []),.nils] []),I 142 (.build [(.int .u64 0),(.int .i64 0),(.int .i64 0),(.int .i64 0),(.int .i64 0),(.str []),.nils] []),M 143 8,N 7 6 141,N 7 7 142,M 8 143]
def Ze0:=R [6,7,8] [T 144 7 6,I 145 (.w (.hide [(.s 6)]) (.ld true 7 (.s 7))),J (.w (.plain (.s 6)) (.st 7 (.s 6) (.s 144))),N 7 7 145,K 8 0]
def ZaY:PF:=⟨false,
 (D Zh1
 (D (D Zh2
 (E 18
 (D Zh3
 .ret)
 .skip))
 (D (D Zh4
 (E 24
 (D Zh5
 .ret)
 .skip))
 (D (D Zh6
 (E 29
 (D Zh7
 (D (D Zh8
 (E 37
 (D Zh9
 .ret)
 .skip))
 (D ZiA
 (D Zeh
 .ret))))
 .skip))
 (D Zei
 (D (D Zej
 (E 60
 (D Zek
 .ret)
 .skip))
 (D Zel
 (D (.block 0
 (.loop ZLs))
 (D (D Zep
 (E 88
 (D Zeq
 .ret)
 .skip))
 (D Zer
 (D (D Zes
 (E 109
 (D Zet
 .ret)
 .skip))
 (D (D Zeu
 (D Zev
 (E 124
 (D Zew
 .ret)
 .skip)))
 (D (D Zex
 (D Zey
 (E 140
 (D Zez
 .ret)
 .skip)))
 (D Ze0
 .ret)))))))))))))),
 [.c 6 true 7,.c 7 true 7,.s 8]⟩
theorem ZmQ:ck0 false [(2,⟨[6,7,8],[],[],[],[(1,(.hide [(.s 6)])),(2,(.plain (.s 6)))],[]⟩),(19,⟨[6,7,8],[],[(3,.pure)],[],[],[]⟩),(23,⟨[0,6,7,8,13,14,16],[],[(4,.pure)],[],[],[]⟩),(26,⟨[6,7,8],[],[(6,.pure)],[],[],[]⟩),(29,⟨[6,7,8],[],[],[],[(1,(.hide [(.s 6)])),(2,(.plain (.s 6)))],[]⟩)] ZaY Tryz.f158=some ZaY:=by kernel_rfl
def ZiB:=R [1,2] [I 1 (.box (.s 0)),I 2 (.box (.v ZT))]
def ZiC:=R [1,2,9] [F 6 6 1,L 7 6,I 8 (.len 1 (.s 7)),W 9 .eql 8 0]
def ZiD:=R [1,2] [F 10 6 1,J (.st 1 (.s 10) (.v .nils))]
def ZiE:=R [2] [T 11 7 1,N 7 2 11]
def ZiF:=R [1,2,3] [F 12 6 1,L 13 12,I 14 (.len 1 (.s 13)),I 15 (.mkslice 7 80 ZT (.s 14) (.s 14)),M 3 15]
def ZiG:=R [1,2,3,17,18,19] [F 16 6 1,L 17 16,I 18 (.len 1 (.s 17)),K 19 0]
def ZiH:=R [1,2,3,17,18,19,20] [B 20 .lss 19 18]
def ZiI:=R [1,2,3,4,5,17,18,19] [M 21 19,I 22 (.ixS 7 (.s 17) (.s 19)),T 23 7 22,I 5 (.box (.v ZT)),M 4 21,N 7 5 23]
def ZiJ:=R [1,2,3,17,18,19] [M 24 3,M 25 4,T 26 7 5,I 27 (C ZC9 [(.s 26)]),I 28 (.ixS 7 (.s 24) (.s 25)),N 7 28 27]
def ZiK:=R [1,2,3,17,18,19] [W 29 .add 19 1,M 19 29]
def Ze1:PC:=(D ZiH
 (D (E 20
 .skip
 (.exit 0))
 (D (.block 1
 (D ZiI
 ZiJ))
 ZiK)))
def Ze2:=R [1,2] [M 30 3,F 31 6 1,N 1 31 30]
def Ze3:=R [2] [T 32 7 1,N 7 2 32]
def ZaZ:PF:=⟨false,
 (D ZiB
 (D (D ZiC
 (E 9
 (D ZiD
 (D ZiE
 .ret))
 .skip))
 (D ZiF
 (D (D ZiG
 (.block 0
 (.loop Ze1)))
 (D Ze2
 (D Ze3
 .ret)))))),
 [.c 2 true 7]⟩
theorem ZmS:ck0 false [] ZaZ Tryz.f159=some ZaZ:=by kernel_rfl
def Ze4:=R [1] [I 1 (.box (.s 0)),I 2 (.mv (.v .nils))]
def Ze5:=R [1,3] [I 3 (.boxnil 1)]
def Ze6:=R [1,3,4] [I 6 (.mkmap),I 4 (.box (.v .nilmap)),N 1 4 6]
def Ze7:=R [1,3,4,5] [I 5 (.box (.v .nilfunc))]
def Ze8:=R [1,3,5] [I 7 (.mkf (.func Yx) [] [(.s 4),(.s 3),(.s 5)]),N 1 5 7]
def Ze9:=R [3] [L 8 5,T 9 7 1,I 10 (.call .norm (.s 8) [(.s 9)])]
def ZfA:=R [2] [L 11 3,M 2 11]
def ZT4:PF:=⟨false,
 (D Ze4
 (D Ze5
 (D Ze6
 (D Ze7
 (D Ze8
 (D Ze9
 (D ZfA
 .ret))))))),
 [.s 2]⟩
theorem Zkb:ck0 false [(1,⟨[1,3],[0],[],[],[],[]⟩)] ZT4 Tryz.f160=some ZT4:=by kernel_rfl
def Zaa:=R [0,1,2,3] [K 8 0]
def Zab:=R [0,1,2,3,16] [M 14 2,M 15 1,I 16 (.look 0 (.bool false) false (.s 14) (.s 15))]
def Zac:=R [8] [K 8 0]
def Zad:=R [0,1,2,3] [M 17 2,M 18 1,J (.mupd 0 (.s 17) (.s 18) (.v (.bool true)))]
def Zae:=R [0,1,2,3,9,10] [M 20 0,M 21 1,I 22 (C QH [(.s 20),(.s 21)]),M 19 22,X 23 19 0,X 24 19 1,I 9 (.box (.v ZN)),N 3 9 23,M 10 24]
def Zaf:=R [0,1,2,3,9,10,26] [M 25 10,W 26 .neq 25 0]
def Zag:=R [8] [M 27 10,M 8 27]
def Zah:=R [0,2,3,9] [M 28 3,M 29 1,I 30 (.call .norm (.s 28) [(.s 29)])]
def Zai:=R [0,2,3,32,33,34] [F 31 2 9,L 32 31,I 33 (.len 1 (.s 32)),K 34 0]
def Zaj:=R [0,2,3,32,33,34,35] [B 35 .lss 34 33]
def ZVX:=R [0,2,3,12,32,33,34] [I 36 (.ixS 4 (.s 32) (.s 34)),T 37 4 36,I 12 (.box (.v ZK)),N 4 12 37]
def ZVY:=R [0,2,3,13,32,33,34] [M 38 0,F 39 0 12,L 40 39,M 41 2,M 42 3,I 43 (C Je [(.s 38),(.s 40),(.s 41),(.s 42)]),M 13 43]
def ZVZ:=R [0,2,3,13,32,33,34,45] [M 44 13,W 45 .neq 44 0]
def ZVa:=R [8] [M 46 13,M 8 46]
def ZVb:=R [0,2,3,32,33,34] [W 47 .add 34 1,M 34 47]
def ZVc:PC:=(D Zaj
 (D (E 35
 .skip
 (.exit 0))
 (D (.block 1
 (D ZVX
 (D ZVY
 (D ZVZ
 (E 45
 (D ZVa
 .ret)
 .skip)))))
 ZVb)))
def ZVd:=R [8] [K 8 0]
def ZPC:PF:=⟨false,
 (D Zaa
 (D (D Zab
 (E 16
 (D Zac
 .ret)
 .skip))
 (D Zad
 (D Zae
 (D (D Zaf
 (E 26
 (D Zag
 .ret)
 .skip))
 (D Zah
 (D (D Zai
 (.block 0
 (.loop ZVc)))
 (D ZVd
 .ret)))))))),
 [.s 8]⟩
theorem ZiM:ck0 false [] ZPC Tryz.f161=some ZPC:=by kernel_rfl
def ZFm:PF:=⟨false,
 .skip,
 []⟩
theorem ZR4:ck0 false [] ZFm Tryz.f162=some ZFm:=by kernel_rfl
def ZMv:=R [0,2,7] [L 4 1,M 5 0,I 6 (.look 0 (.bool false) false (.s 4) (.s 5)),I 7 (.un .not (.s 6))]
def ZMw:=R [] [L 8 2,M 9 0,I 10 (.bslice false 1 [(.int .u64 0)] [(0,(.s 9))]),I 11 (.app 1 8 (.s 8) (.s 10)),N 1 2 11]
def ZFn:PF:=⟨false,
 (D ZMv
 (E 7
 ZMw
 .skip)),
 []⟩
theorem ZR6:ck0 false [] ZFn Tryz.f163=some ZFn:=by kernel_rfl
def ZFo:=R [0,1] [I 4 (.mv (.v .nils))]
def ZFp:=R [0,1,5] [I 5 (.onil 1)]
def ZFq:=R [0,1,5,9] [M 8 0,I 9 (.eqs false 3 [] (.s 8) (.v .nilptr))]
def ZFr:=R [4] [M 10 5,M 4 10]
def ZFs:=R [1,5,14,15,16] [M 11 0,I 12 (.nilck (.s 11)),F 13 1 12,L 14 13,I 15 (.len 1 (.s 14)),K 16 0]
def ZFt:=R [1,5,14,15,16,17] [B 17 .lss 16 15]
def ZFu:=R [1,5,6,7,14,15,16] [M 18 16,I 19 (.ixS 1 (.s 14) (.s 16)),L 20 19,M 6 18,M 7 20]
def ZFv:=R [1,5,6,14,15,16,23] [M 21 7,M 22 1,B 23 .eql 21 22]
def ZFw:=R [1,5,14,15,16] [M 24 5,M 25 6,I 26 (.bslice false 1 [(.int .i64 0)] [(0,(.s 25))]),I 27 (.app 1 8 (.s 24) (.s 26)),M 5 27]
def ZFx:=R [1,5,14,15,16] [W 28 .add 16 1,M 16 28]
def ZEz:PC:=(D ZFt
 (D (E 17
 .skip
 (.exit 0))
 (D (.block 1
 (D ZFu
 (D ZFv
 (E 23
 ZFw
 .skip))))
 ZFx)))
def ZE0:=R [4] [M 29 5,M 4 29]
def ZAt:PF:=⟨false,
 (D ZFo
 (D ZFp
 (D (D ZFq
 (E 9
 (D ZFr
 .ret)
 .skip))
 (D (D ZFs
 (.block 0
 (.loop ZEz)))
 (D ZE0
 .ret))))),
 [.s 4]⟩
theorem ZJB:ck0 false [(1,⟨[0,1,5],[0],[],[],[],[]⟩)] ZAt Tryz.f164=some ZAt:=by kernel_rfl
def ZPD:=R [0,2,4] [I 4 (.box (.s 1)),I 6 (.mv (.v (.bool false))),K 7 0]
def ZPE:=R [0,2,4,8] [M 11 0,T 12 5 4,I 13 (C XM [(.s 11),(.s 12)]),M 8 13]
def ZPF:=R [0,2,4,8,15] [M 14 8,W 15 .neq 14 0]
def ZPG:=R [6,7] [M 16 8,I 6 (.mv (.v (.bool false))),M 7 16]
def ZPH:=R [0,2,4,25] [M 17 2,W 18 .lss 17 0,M 19 18,U 20 19 false 2,G 21 19 false (.fadr 2 (.s 4)),G 22 19 false (.fadr 0 (.s 21)),G 23 19 false (.ld false 1 (.s 22)),G 24 19 false (.bin .gtr (.s 20) (.s 23)),I 25 (.pick (.s 19) (.v (.bool true)) (.s 24))]
def ZPI:=R [6,7] [I 6 (.mv (.v (.bool false))),K 7 3]
def ZPJ:=R [0,2,4,30] [M 26 2,F 27 2 4,F 28 0 27,L 29 28,B 30 .eql 26 29]
def ZPK:=R [6,7] [I 6 (.mv (.v (.bool true))),K 7 0]
def ZPL:=R [9,10] [M 32 0,T 33 5 4,M 34 2,I 35 (C ZET [(.s 32),(.s 33),(.s 34)]),M 31 35,X 36 31 0,X 37 31 1,M 9 36,M 10 37]
def ZPM:=R [6,7] [M 38 10,W 39 .eql 38 0,M 40 39,U 41 40 true 9,G 42 40 true (.bin .lss (.s 41) (.v (.int .u8 128))),U 43 40 true 42,U 44 43 false 9,G 45 43 false (.bin .gtr (.s 44) (.v (.int .u8 191))),G 46 40 true (.pick (.s 43) (.v (.bool true)) (.s 45)),I 47 (.pick (.s 40) (.s 46) (.v (.bool false))),M 48 10,M 6 47,M 7 48]
def ZIQ:PF:=⟨false,
 (D ZPD
 (D (D ZPE
 (D ZPF
 (E 15
 (D ZPG
 .ret)
 .skip)))
 (D (D ZPH
 (E 25
 (D ZPI
 .ret)
 .skip))
 (D (D ZPJ
 (E 30
 (D ZPK
 .ret)
 .skip))
 (D ZPL
 (D ZPM
 .ret)))))),
 [.s 6,.s 7]⟩
theorem ZVf:ck0 false [] ZIQ Tryz.f176=some ZIQ:=by kernel_rfl
def ZJC:=R [0,1,2,3] [K 8 0]
def ZJD:=R [0,2,3,9,10] [M 12 0,I 13 (.nilck (.s 12)),F 14 0 13,L 15 14,M 16 1,I 17 (C QH [(.s 15),(.s 16)]),M 11 17,X 18 11 0,X 19 11 1,I 9 (.box (.v ZN)),N 3 9 18,M 10 19]
def ZJE:=R [0,2,3,9,10,21] [M 20 10,W 21 .neq 20 0]
def ZJF:=R [8] [M 22 10,M 8 22]
def ZJG:=R [0] [M 23 0,M 24 0,I 25 (.nilck (.s 24)),F 26 6 25,L 27 26,T 28 3 9,M 29 2,M 30 3,I 31 (.build [(.int .i64 0),(.str []),.nils,(.int .i64 0),(.int .i64 0)] [(0,3,(.s 28)),(3,1,(.s 29)),(4,1,(.s 30))]),I 32 (.w .imm (.bslice false 5 [(.agg [(.int .i64 0),(.str []),.nils,(.int .i64 0),(.int .i64 0)])] [(0,(.s 31))])),I 33 (.app 5 64 (.s 27) (.s 32)),I 34 (.nilck (.s 23)),F 35 6 34,N 1 35 33]
def ZJH:=R [] [M 36 0,I 37 (.nilck (.s 36)),F 38 7 37,L 39 38,W 40 .add 39 1,I 41 (.nilck (.s 36)),F 42 7 41,N 1 42 40]
def ZJI:=R [8] [K 8 0]
def ZCB:PF:=⟨true,
 (D ZJC
 (D ZJD
 (D (D ZJE
 (E 21
 (D ZJF
 .ret)
 .skip))
 (D ZJG
 (D ZJH
 (D ZJI
 .ret)))))),
 [.s 8]⟩
theorem ZLc:ck0 true [(4,⟨[0],[],[],[],[(9,.imm)],[]⟩)] ZCB Tryz.f177=some ZCB:=by kernel_rfl
def ZCc:=R [] [L 3 1,M 4 0,I 5 (.bslice false 1 [(.int .u8 0)] [(0,(.s 4))]),I 6 (.app 1 1 (.s 3) (.s 5)),N 1 1 6]
def XU:PF:=⟨false,
 ZCc,
 []⟩
theorem ZEJ:ck0 false [] XU Tryz.f178=some XU:=by kernel_rfl
def ZHk:=R [0,1] [K 4 0]
def ZHl:=R [4] [M 5 1,M 6 0,I 7 (.nilck (.s 6)),F 8 1 7,F 9 2 8,F 10 0 9,L 11 10,W 12 .sub 11 1,I 13 (.mnx false (.s 5) (.s 12)),M 4 13]
def ZBc:PF:=⟨false,
 (D ZHk
 (D ZHl
 .ret)),
 [.s 4]⟩
theorem ZKK:ck0 false [] ZBc Tryz.f180=some ZBc:=by kernel_rfl
def ZfB:=R [0,2,3,4,6,10] [I 6 (.box (.s 1)),I 10 (.box (.v (.agg [(.str []),(.int .i64 0),.nils]))),K 11 0]
def ZfC:=R [0,3,4,6,10,12] [M 20 2,I 21 (.build [(.str []),(.int .i64 0),.nils] [(1,1,(.s 20))]),I 12 (.box (.v (.agg [(.str []),(.int .i64 0),.nils]))),N 3 12 21]
def ZfD:=R [0,3,4,10,12,13] [F 22 0 6,L 23 22,M 13 23]
def ZfE:=R [0,3,4,10,12,13,14,15] [M 25 0,M 26 13,I 27 (C QH [(.s 25),(.s 26)]),M 24 27,X 28 24 0,X 29 24 1,I 14 (.box (.v ZN)),N 3 14 28,M 15 29]
def ZfF:=R [0,3,4,10,12,13,14,15,31] [M 30 15,W 31 .neq 30 0]
def ZfG:=R [10,11] [I 32 (.build [(.str []),(.int .i64 0),.nils] []),M 33 15,N 3 10 32,M 11 33]
def ZLt:=R [0,3,4,10,12,14] [F 34 2 12,L 35 34,M 36 13,I 37 (.bslice false 1 [(.int .u64 0)] [(0,(.s 36))]),I 38 (.app 1 8 (.s 35) (.s 37)),F 39 2 12,N 1 39 38]
def ZfH:=R [0,3,4,10,12,14,42] [F 40 0 14,L 41 40,W 42 .eql 41 0]
def ZfI:=R [10,12] [F 43 1 14,L 44 43,F 45 0 12,N 1 45 44]
def ZfJ:=R [10,11] [T 46 3 12,N 3 10 46,K 11 0]
def Zak:=R [0,3,4,10,12,14,15,16,17] [M 48 3,T 49 3 14,F 50 1 12,L 51 50,I 52 (.call .norm (.s 48) [(.s 49),(.s 51)]),M 47 52,X 53 47 0,X 54 47 1,X 55 47 2,M 16 53,M 17 54,M 15 55]
def Zal:=R [0,3,4,10,12,14,15,16,17,57] [M 56 15,W 57 .neq 56 0]
def Zam:=R [10,11] [I 58 (.build [(.str []),(.int .i64 0),.nils] []),M 59 15,N 3 10 58,M 11 59]
def Zan:=R [0,3,4,10,12,14,16,17,63,64,65] [F 60 2 14,L 61 60,M 62 16,I 63 (.slc 4 (.s 61) none (some (.s 62))),I 64 (.len 1 (.s 63)),K 65 0]
def Zao:=R [0,3,4,10,12,14,16,17,63,64,65,66] [B 66 .lss 65 64]
def Zap:=R [0,3,4,10,12,14,16,17,19,63,64,65] [I 67 (.ixS 4 (.s 63) (.s 65)),T 68 4 67,I 19 (.box (.v ZK)),N 4 19 68]
def Zaq:=R [0,3,4,10,12,14,16,17,63,64,65] [M 69 4,F 70 1 19,T 71 3 70,I 72 (.call .norm (.s 69) [(.s 71)])]
def Zar:=R [0,3,4,10,12,14,16,17,63,64,65] [W 73 .add 65 1,M 65 73]
def p_seek_walk_18:PC:=(D Zao
 (D (E 66
 .skip
 (.exit 2))
 (D (.block 3
 (D Zap
 Zaq))
 Zar)))
def Zas:=R [0,3,4,10,12,13] [M 74 17,F 75 2 14,I 76 (.w (.hide [(.s 12)]) (.ld false 1 (.s 75))),M 77 16,I 78 (.w (.hide [(.s 12)]) (.ixS 4 (.s 76) (.s 77))),F 79 0 78,I 80 (.w (.hide [(.s 12)]) (.ld false 1 (.s 79))),F 81 1 12,J (.w (.plain (.s 12)) (.st 1 (.s 81) (.s 74))),M 13 80]
def Zat:PC:=(.block 1
 (D ZfE
 (D (D ZfF
 (E 31
 (D ZfG
 .ret)
 .skip))
 (D ZLt
 (D (D ZfH
 (E 42
 (D ZfI
 (D ZfJ
 .ret))
 .skip))
 (D Zak
 (D (D Zal
 (E 57
 (D Zam
 .ret)
 .skip))
 (D (D Zan
 (.block 2
 (.loop p_seek_walk_18)))
 Zas))))))))
def ZT5:PF:=⟨false,
 (D ZfB
 (D ZfC
 (D ZfD
 (.block 0
 (.loop Zat))))),
 [.c 10 true 3,.s 11]⟩
theorem Zkd:ck0 false [(18,⟨[0,3,4,10,12,13],[],[],[],[(6,(.hide [(.s 12)])),(8,(.plain (.s 12))),(4,(.hide [(.s 12)])),(2,(.hide [(.s 12)]))],[]⟩)] ZT5 Tryz.f181=some ZT5:=by kernel_rfl
def Zau:=R [1,2] [I 2 (.box (.s 0)),K 4 0,K 5 0,K 6 0]
def Zav:=R [4,5,6] [T 7 3 2,M 8 1,I 9 (C Xg [(.s 7),(.s 8),(.v (.func (.func ZDC) [] []))]),X 10 9 0,X 11 9 1,X 12 9 2,M 4 10,M 5 11,M 6 12]
def ZPN:PF:=⟨false,
 (D Zau
 (D Zav
 .ret)),
 [.s 4,.s 5,.s 6]⟩
theorem ZiO:ck0 false [] ZPN Tryz.f182=some ZPN:=by kernel_rfl
def ZPO:=R [1,2,3] [I 3 (.box (.s 0))]
def ZPP:=R [] [L 4 1,L 5 2,T 6 3 3,I 7 (.call .pure (.s 5) [(.s 6)]),B 8 .add 4 7,N 1 1 8]
def ZIR:PF:=⟨false,
 (D ZPO
 ZPP),
 []⟩
theorem ZVh:ck0 false [(1,⟨[],[],[(3,.pure)],[],[],[]⟩)] ZIR Tryz.f183=some ZIR:=by kernel_rfl
def ZMx:=R [0,1,2] [K 6 0,K 7 0]
def ZMy:=R [0,1,2,15] [M 8 1,W 9 .lss 8 0,M 10 9,U 11 10 false 1,U 12 10 false 0,G 13 10 false (.len 0 (.s 12)),G 14 10 false (.bin .gtr (.s 11) (.s 13)),I 15 (.pick (.s 10) (.v (.bool true)) (.s 14))]
def ZMz:=R [6,7] [K 6 0,K 7 3]
def ZM0:=R [6,7] [M 16 0,M 17 1,I 18 (.slcS (.s 16) none (some (.s 17))),M 19 2,I 20 (C Xr [(.s 18),(.s 19)]),M 6 20,K 7 0]
def ZFy:PF:=⟨false,
 (D ZMx
 (D (D ZMy
 (E 15
 (D ZMz
 .ret)
 .skip))
 (D ZM0
 .ret))),
 [.s 6,.s 7]⟩
theorem ZR8:ck0 false [] ZFy Tryz.f184=some ZFy:=by kernel_rfl
def ZPQ:=R [0] [I 2 (.mv (.v (.bool false)))]
def ZPR:=R [2] [M 3 0,I 4 (.bin .eql (.s 3) (.v (.int .u8 10))),M 2 4]
def ZIS:PF:=⟨false,
 (D ZPQ
 (D ZPR
 .ret)),
 [.s 2]⟩
theorem ZVj:ck0 false [] ZIS Tryz.f185=some ZIS:=by kernel_rfl
def ZR9:=R [1,2] [I 1 (.box (.s 0)),I 2 (.box (.v ZM)),K 3 0]
def ZSA:=R [1,2,4] [T 5 3 1,I 6 (C ZAU [(.s 5)]),M 4 6]
def ZSB:=R [1,2,4,8] [M 7 4,W 8 .neq 7 0]
def ZSC:=R [2,3] [I 9 (.build [(.int .i64 0),(.int .i64 0),(.int .i64 0)] []),M 10 4,N 3 2 9,M 3 10]
def ZSD:=R [2,3] [T 11 3 1,I 12 (C ZDD [(.s 11)]),N 3 2 12,K 3 0]
def ZKL:PF:=⟨false,
 (D ZR9
 (D (D ZSA
 (D ZSB
 (E 8
 (D ZSC
 .ret)
 .skip)))
 (D ZSD
 .ret))),
 [.c 2 true 3,.s 3]⟩
theorem Zax:ck0 false [] ZKL Tryz.f186=some ZKL:=by kernel_rfl
def ZPS:=R [1,2] [I 2 (.box (.s 0))]
def ZPT:=R [] [L 3 1,F 4 0 2,L 5 4,B 6 .add 3 5,N 1 1 6]
def ZIT:PF:=⟨false,
 (D ZPS
 ZPT),
 []⟩
theorem ZVl:ck0 false [] ZIT Tryz.f187=some ZIT:=by kernel_rfl
def ZVm:=R [1,2,3] [I 3 (.box (.s 0)),K 6 0,K 7 0,K 8 0]
def ZVn:=R [1,2,3,9] [T 12 3 3,I 13 (C ZAU [(.s 12)]),M 9 13]
def ZVo:=R [1,2,3,9,15] [M 14 9,W 15 .neq 14 0]
def ZVp:=R [6,7,8] [M 16 9,K 6 0,K 7 0,M 8 16]
def ZVq:=R [1,2,3,19] [F 17 0 3,L 18 17,W 19 .eql 18 0]
def ZVr:=R [6,7,8] [K 6 0,K 7 0,K 8 8]
def ZVs:=R [1,2,3,21] [M 20 1,W 21 .lss 20 0]
def ZVt:=R [6,7,8] [K 6 0,K 7 0,K 8 3]
def ZVu:=R [1,2,23,24,25] [F 22 2 3,L 23 22,I 24 (.len 1 (.s 23)),K 25 0]
def ZVv:=R [1,2,23,24,25,26] [B 26 .lss 25 24]
def ZSE:=R [1,2,10,11,23,24,25] [M 27 25,I 28 (.ixS 4 (.s 23) (.s 25)),T 29 4 28,I 11 (.box (.v ZK)),M 10 27,N 4 11 29]
def ZSF:=R [1,2,10,11,23,24,25,35] [M 30 1,M 31 2,F 32 1 11,T 33 3 32,I 34 (.call .norm (.s 31) [(.s 33)]),B 35 .lss 30 34]
def ZSG:=R [6,7,8] [M 36 10,M 37 1,M 6 36,M 7 37,K 8 0]
def ZSH:=R [1,2,23,24,25] [M 38 1,M 39 2,F 40 1 11,T 41 3 40,I 42 (.call .norm (.s 39) [(.s 41)]),B 43 .sub 38 42,M 1 43]
def ZSI:=R [1,2,23,24,25] [W 44 .add 25 1,M 25 44]
def ZSJ:PC:=(D ZVv
 (D (E 26
 .skip
 (.exit 0))
 (D (.block 1
 (D ZSE
 (D (D ZSF
 (E 35
 (D ZSG
 .ret)
 .skip))
 ZSH)))
 ZSI)))
def ZSK:=R [6,7,8] [K 6 0,K 7 0,K 8 3]
def ZLu:PF:=⟨false,
 (D ZVm
 (D (D ZVn
 (D ZVo
 (E 15
 (D ZVp
 .ret)
 .skip)))
 (D (D ZVq
 (E 19
 (D ZVr
 .ret)
 .skip))
 (D (D ZVs
 (E 21
 (D ZVt
 .ret)
 .skip))
 (D (D ZVu
 (.block 0
 (.loop ZSJ)))
 (D ZSK
 .ret)))))),
 [.s 6,.s 7,.s 8]⟩
theorem ZfL:ck0 false [] ZLu Tryz.f188=some ZLu:=by kernel_rfl
def ZVw:=R [1] [I 1 (.box (.s 0)),K 2 0]
def ZVx:=R [2] [F 3 0 1,L 4 3,M 2 4]
def ZLv:PF:=⟨false,
 (D ZVw
 (D ZVx
 .ret)),
 [.s 2]⟩
theorem ZfN:ck0 false [] ZLv Tryz.f189=some ZLv:=by kernel_rfl
def ZVy:=R [1] [I 1 (.box (.s 0)),K 2 0]
def ZVz:=R [2] [F 3 2 1,L 4 3,M 2 4]
def ZLw:PF:=⟨false,
 (D ZVy
 (D ZVz
 .ret)),
 [.s 2]⟩
theorem ZfP:ck0 false [] ZLw Tryz.f190=some ZLw:=by kernel_rfl
def ZSL:=R [0,1,2] [K 6 0,I 7 (.mv (.v (.bool false)))]
def ZSM:=R [0,1,2,10,11] [M 9 0,I 10 (.len 0 (.s 9)),K 11 0]
def ZSN:=R [0,1,2,10,11,12] [B 12 .lss 11 10]
def ZSO:=R [0,1,2,8,10,11] [M 13 11,M 8 13]
def ZSP:=R [0,1,2,8,10,11,19] [M 14 1,M 15 0,M 16 8,I 17 (.ixStr (.s 15) (.s 16)),I 18 (.call .norm (.s 14) [(.s 17)]),I 19 (.un .not (.s 18))]
def ZSQ:=R [0,1,2,8,10,11,21] [M 20 2,W 21 .eql 20 0]
def ZSR:=R [6,7] [M 22 8,M 6 22,I 7 (.mv (.v (.bool true)))]
def ZSS:=R [0,1,2,10,11] [M 23 2,W 24 .sub 23 1,M 2 24]
def ZST:=R [0,1,2,10,11] [W 25 .add 11 1,M 11 25]
def ZSU:PC:=(D ZSN
 (D (E 12
 .skip
 (.exit 0))
 (D (.block 1
 (D ZSO
 (D (D ZSP
 (E 19
 (.exit 1)
 .skip))
 (D (D ZSQ
 (E 21
 (D ZSR
 .ret)
 .skip))
 ZSS))))
 ZST)))
def ZPU:=R [6,7] [K 6 0,I 7 (.mv (.v (.bool false)))]
def ZKM:PF:=⟨false,
 (D ZSL
 (D (D ZSM
 (.block 0
 (.loop ZSU)))
 (D ZPU
 .ret))),
 [.s 6,.s 7]⟩
theorem Zaz:ck0 false [] ZKM Tryz.f191=some ZKM:=by kernel_rfl
def ZSV:=R [0] [I 2 (.mv (.v .nils))]
def ZSW:=R [0,3] [I 3 (.onil 1)]
def ZSX:=R [0,3,8,9,10] [M 6 0,I 7 (.len 0 (.s 6)),I 8 (C ZBJ [(.s 7),(V 16)]),I 9 (.len 1 (.s 8)),K 10 0]
def ZSY:=R [0,3,8,9,10,11] [B 11 .lss 10 9]
def ZSZ:=R [0,3,5,8,9,10] [I 12 (.ixS 1 (.s 8) (.s 10)),L 13 12,M 5 13]
def ZSa:=R [0,3,5,8,9,10] [M 14 3,M 15 0,M 16 5,I 17 (.slcS (.s 15) none (some (.s 16))),I 18 (.bslice false 1 [(.str [])] [(0,(.s 17))]),I 19 (.app 1 16 (.s 14) (.s 18)),M 3 19]
def ZSb:=R [0,3,8,9,10] [M 20 0,M 21 5,I 22 (.slcS (.s 20) (some (.s 21)) none),M 0 22]
def ZSc:=R [0,3,8,9,10] [W 23 .add 10 1,M 10 23]
def ZSd:PC:=(D ZSY
 (D (E 11
 .skip
 (.exit 0))
 (D (.block 1
 (D ZSZ
 (D ZSa
 ZSb)))
 ZSc)))
def ZSe:=R [2] [M 24 3,M 2 24]
def ZKN:PF:=⟨false,
 (D ZSV
 (D ZSW
 (D (D ZSX
 (.block 0
 (.loop ZSd)))
 (D ZSe
 .ret)))),
 [.s 2]⟩
theorem Za1:ck0 false [(1,⟨[0,3],[0],[],[],[],[]⟩)] ZKN Tryz.f197=some ZKN:=by kernel_rfl
def Za2:=R [0,1] [I 4 (.mv (.v .nils)),K 5 0]
def Za3:=R [0,1,11] [M 6 0,W 7 .lss 6 0,M 8 7,U 9 8 false 1,G 10 8 false (.bin .lss (.s 9) (V 1)),I 11 (.pick (.s 8) (.v (.bool true)) (.s 10))]
def Za4:=R [4,5] [I 4 (.mv (.v .nils)),K 5 2]
def Za5:=R [0,1,13] [M 12 0,W 13 .gtr 12 65536]
def Za6:=R [4,5] [I 4 (.mv (.v .nils)),K 5 5]
def Za7:=R [4,5] [M 14 0,M 15 1,I 16 (C ZBJ [(.s 14),(.s 15)]),M 4 16,K 5 0]
def ZPV:PF:=⟨false,
 (D Za2
 (D (D Za3
 (E 11
 (D Za4
 .ret)
 .skip))
 (D (D Za5
 (E 13
 (D Za6
 .ret)
 .skip))
 (D Za7
 .ret)))),
 [.s 4,.s 5]⟩
theorem ZiQ:ck0 false [] ZPV Tryz.f198=some ZPV:=by kernel_rfl
def Za8:=R [0,2] [I 2 (.box (.v ZT))]
def Za9:=R [0,2,3] [M 4 0,I 5 (.len 1 (.s 4)),W 6 .eql 5 0,M 3 6]
def ZbA:=R [2] [I 7 (.build [(.int .u64 0),(.int .i64 0),(.int .i64 0),(.int .i64 0),(.int .i64 0),(.str []),.nils] []),N 7 2 7]
def ZbB:=R [0,2,8] [M 9 0,I 10 (.len 1 (.s 9)),W 11 .eql 10 1,M 8 11]
def ZbC:=R [2] [M 12 0,I 13 (.ixS 7 (.s 12) (V 0)),T 14 7 13,N 7 2 14]
def ZbD:=R [2] [M 15 0,I 16 (.ixS 7 (.s 15) (V 0)),F 17 1 16,L 18 17,W 19 .add 18 1,I 20 (.w .imm (.bslice false 7 [] [])),M 21 0,I 22 (.w .app0 (.app 7 80 (.s 20) (.s 21))),I 23 (.build [(.int .u64 0),(.int .i64 0),(.int .i64 0),(.int .i64 0),(.int .i64 0),(.str []),.nils] [(1,1,(.s 19)),(6,1,(.s 22))]),N 7 2 23]
def ZPW:PF:=⟨false,
 (D Za8
 (D (.block 0
 (D Za9
 (E 3
 (D ZbA
 .ret)
 (D ZbB
 (E 8
 (D ZbC
 .ret)
 .skip)))))
 (D ZbD
 .ret))),
 [.c 2 true 7]⟩
theorem ZiS:ck0 false [(5,⟨[2],[],[],[],[(7,.app0),(5,.imm)],[]⟩)] ZPW Tryz.f199=some ZPW:=by kernel_rfl
def ZV0:=R [0,1] [I 4 (.mv (.v (.int .u64 0))),K 5 0]
def ZV1:=R [0,1,19] [M 6 0,W 7 .lss 6 0,M 8 7,U 9 8 false 0,G 10 8 false (.bin .geq (.s 9) (V 16384)),I 11 (.pick (.s 8) (.v (.bool true)) (.s 10)),M 12 11,U 13 12 false 1,G 14 12 false (.bin .lss (.s 13) (.v (.int .u64 1))),I 15 (.pick (.s 12) (.v (.bool true)) (.s 14)),M 16 15,U 17 16 false 1,G 18 16 false (.bin .gtr (.s 17) (.v (.int .u64 4294967295))),I 19 (.pick (.s 16) (.v (.bool true)) (.s 18))]
def ZV2:=R [4,5] [I 4 (.mv (.v (.int .u64 0))),K 5 3]
def ZV3:=R [4,5] [M 20 1,I 21 (.bin .shl (.s 20) (.v (.int .u64 16))),M 22 0,I 23 (.cint .u64 (.s 22)),B 24 .or 21 23,M 4 24,K 5 0]
def ZLx:PF:=⟨false,
 (D ZV0
 (D (D ZV1
 (E 19
 (D ZV2
 .ret)
 .skip))
 (D ZV3
 .ret))),
 [.s 4,.s 5]⟩
theorem ZfR:ck0 false [] ZLx Tryz.f201=some ZLx:=by kernel_rfl
def ZV4:=R [0,4,5,6] [I 4 (.box (.s 1)),I 5 (.box (.s 2)),I 6 (.box (.v ZT)),K 7 0]
def ZV5:=R [0,4,5,6,12] [T 10 7 4,I 11 (C JH [(.s 10)]),W 12 .eql 11 1]
def ZV6:=R [6,7] [T 13 7 5,N 7 6 13,K 7 0]
def ZV7:=R [0,4,5,6,16] [T 14 7 5,I 15 (C JH [(.s 14)]),W 16 .eql 15 1]
def ZV8:=R [6,7] [T 17 7 4,N 7 6 17,K 7 0]
def ZV9:=R [6,8,9] [M 19 0,T 20 7 4,T 21 7 5,I 22 (C ZAV [(.s 19),(.s 20),(.s 21)]),M 18 22,X 23 18 0,X 24 18 1,M 8 23,M 9 24]
def ZWA:=R [6,8,9,26] [M 25 9,W 26 .neq 25 0]
def ZWB:=R [6,7] [I 27 (.build [(.int .u64 0),(.int .i64 0),(.int .i64 0),(.int .i64 0),(.int .i64 0),(.str []),.nils] []),M 28 9,N 7 6 27,M 7 28]
def ZWC:=R [6,7] [M 29 8,I 30 (C Qa [(.s 29)]),N 7 6 30,K 7 0]
def ZLy:PF:=⟨false,
 (D ZV4
 (D (D ZV5
 (E 12
 (D ZV6
 .ret)
 .skip))
 (D (D ZV7
 (E 16
 (D ZV8
 .ret)
 .skip))
 (D ZV9
 (D (D ZWA
 (E 26
 (D ZWB
 .ret)
 .skip))
 (D ZWC
 .ret)))))),
 [.c 6 true 7,.s 7]⟩
theorem ZfT:ck0 false [] ZLy Tryz.f203=some ZLy:=by kernel_rfl
def ZbE:=R [0,2,3,5] [I 5 (.box (.s 1)),K 8 0]
def ZbF:=R [0,2,3,5,9] [T 14 7 5,I 15 (C JH [(.s 14)]),M 9 15]
def ZbG:=R [0,2,5,9,30] [M 16 9,W 17 .eql 16 0,M 18 17,U 19 18 false 9,G 20 18 false (.bin .eql (.s 19) (V 1)),I 21 (.pick (.s 18) (.v (.bool true)) (.s 20)),M 22 21,U 23 22 false 2,U 24 22 false 23,G 25 24 true (.fadr 1 (.s 5)),G 26 24 true (.ld false 1 (.s 25)),U 27 24 true 3,G 28 24 true (.bin .neq (.s 26) (.s 27)),G 29 22 false (.pick (.s 24) (.s 28) (.v (.bool false))),I 30 (.pick (.s 22) (.v (.bool true)) (.s 29))]
def ZbH:=R [8] [K 8 23]
def ZbI:=R [0,2,5,32] [M 31 9,W 32 .eql 31 2]
def ZbJ:=R [0,2,5,10] [M 33 0,F 34 0 5,L 35 34,F 36 1 5,L 37 36,F 38 2 5,T 39 3 38,I 40 (C ZES [(.s 33),(.s 35),(.s 37),(.s 39)]),M 10 40]
def ZbK:=R [0,2,5,10,42] [M 41 10,W 42 .neq 41 0]
def ZbL:=R [8] [M 43 10,M 8 43]
def ZbM:=R [0,5,54] [M 44 2,M 45 44,G 46 45 true (.fadr 1 (.s 5)),G 47 45 true (.ld false 1 (.s 46)),G 48 45 true (.bin .eql (.s 47) (V 0)),I 49 (.pick (.s 45) (.s 48) (.v (.bool false))),M 50 49,G 51 50 true (.ld true 7 (.s 5)),G 52 50 true (C JB [(.s 51)]),G 53 50 true (.bin .lss (.s 52) (V 8)),I 54 (.pick (.s 50) (.s 53) (.v (.bool false)))]
def ZbN:=R [8] [K 8 23]
def ZWD:=R [0,5,56,57,58] [F 55 6 5,L 56 55,I 57 (.len 1 (.s 56)),K 58 0]
def ZWE:=R [0,5,56,57,58,59] [B 59 .lss 58 57]
def ZWF:=R [0,5,12,56,57,58] [I 60 (.ixS 7 (.s 56) (.s 58)),T 61 7 60,I 12 (.box (.v ZT)),N 7 12 61]
def ZWG:=R [0,5,13,56,57,58] [M 62 0,T 63 7 12,F 64 1 5,L 65 64,W 66 .sub 65 1,I 67 (C ZCL [(.s 62),(.s 63),(.v (.bool true)),(.s 66)]),M 13 67]
def ZWH:=R [0,5,13,56,57,58,69] [M 68 13,W 69 .neq 68 0]
def ZWI:=R [8] [M 70 13,M 8 70]
def ZWJ:=R [0,5,56,57,58] [W 71 .add 58 1,M 58 71]
def ZIU:PC:=(D ZWE
 (D (E 59
 .skip
 (.exit 0))
 (D (.block 1
 (D ZWF
 (D ZWG
 (D ZWH
 (E 69
 (D ZWI
 .ret)
 .skip)))))
 ZWJ)))
def ZWK:=R [8] [K 8 0]
def ZPX:PF:=⟨false,
 (D ZbE
 (D ZbF
 (D (D ZbG
 (E 30
 (D ZbH
 .ret)
 .skip))
 (D (D ZbI
 (E 32
 (D ZbJ
 (D ZbK
 (E 42
 (D ZbL
 .ret)
 .skip)))
 .skip))
 (D (D ZbM
 (E 54
 (D ZbN
 .ret)
 .skip))
 (D (D ZWD
 (.block 0
 (.loop ZIU)))
 (D ZWK
 .ret))))))),
 [.s 8]⟩
theorem ZiU:ck0 false [] ZPX Tryz.f204=some ZPX:=by kernel_rfl
def ZiV:=R [1] [I 1 (.box (.s 0)),K 2 0]
def ZiW:=R [1,3] [K 3 0]
def ZiX:=R [1,3,4] [T 7 7 1,I 8 (C JH [(.s 7)]),M 4 8]
def ZiY:=R [1,3,14] [M 9 4,W 10 .eql 9 3,M 11 10,U 12 11 false 4,G 13 11 false (.bin .eql (.s 12) (V 4)),I 14 (.pick (.s 11) (.v (.bool true)) (.s 13))]
def ZiZ:=R [1,3] [K 3 1]
def Zia:=R [3,16,17,18] [F 15 6 1,L 16 15,I 17 (.len 1 (.s 16)),K 18 0]
def Zib:=R [3,16,17,18,19] [B 19 .lss 18 17]
def Zic:=R [3,6,16,17,18] [I 20 (.ixS 7 (.s 16) (.s 18)),T 21 7 20,I 6 (.box (.v ZT)),N 7 6 21]
def Zid:=R [3,16,17,18] [M 22 3,T 23 7 6,I 24 (C ZA8 [(.s 23)]),B 25 .add 22 24,M 3 25]
def Zie:=R [3,16,17,18] [W 26 .add 18 1,M 18 26]
def ZfU:PC:=(D Zib
 (D (E 19
 .skip
 (.exit 0))
 (D (.block 1
 (D Zic
 Zid))
 Zie)))
def ZfV:=R [2] [M 27 3,M 2 27]
def ZbO:PF:=⟨false,
 (D ZiV
 (D ZiW
 (D (D ZiX
 (D ZiY
 (E 14
 ZiZ
 .skip)))
 (D (D Zia
 (.block 0
 (.loop ZfU)))
 (D ZfV
 .ret))))),
 [.s 2]⟩
theorem ZmU:ck0 false [] ZbO Tryz.f205=some ZbO:=by kernel_rfl
def ZSf:=R [0,3] [I 3 (.box (.s 1)),I 4 (.mv (.v .nilptr))]
def ZSg:=R [0,3,5] [F 11 1 3,L 12 11,F 13 2 3,T 14 3 13,F 15 0 3,L 16 15,I 17 (.build [(.int .u64 0),(.int .i64 0),(.int .i64 0),(.int .i64 0),(.int .i64 0)] [(1,1,(.s 12)),(2,3,(.s 14)),(0,1,(.s 16))]),I 18 (.box (.s 17)),M 5 18]
def ZSh:=R [0,3,5,80] [F 81 0 3,L 82 81,I 83 (.bin .neq (.s 82) (.v (.int .u64 0))),M 84 83,G 85 84 false (.fadr 5 (.s 3)),G 86 84 false (.ld false 1 (.s 85)),G 87 84 false (.bin .eql (.s 86) (.v (.str []))),U 88 84 false 87,G 89 88 true (.fadr 6 (.s 3)),G 90 88 true (.ld false 1 (.s 89)),G 91 88 true (.len 1 (.s 90)),G 92 88 true (.bin .eql (.s 91) (V 0)),G 93 84 false (.pick (.s 88) (.s 92) (.v (.bool false))),I 94 (.pick (.s 84) (.v (.bool true)) (.s 93)),M 80 94]
def ZSi:=R [0,3,5,95] [F 96 1 3,L 97 96,W 98 .eql 97 0,M 95 98]
def ZSj:=R [0,5,6] [F 99 5 3,L 100 99,I 101 (.build [(.int .i64 0),(.str []),.nils] [(1,1,(.s 100))]),I 6 (.box (.v ZN)),N 3 6 101]
def ZSk:=R [0,5,6] [M 103 5,T 104 3 6,I 105 (C YY [(.s 104)]),M 102 105,X 106 102 0,X 107 102 1,I 108 (.nilck (.s 103)),F 109 2 108,N 3 109 106]
def ZSl:=R [5] [M 110 0,M 111 5,I 112 (.mkf (.func J3) [] [(.s 6)]),I 113 (C ZAW [(.s 110),(.s 111),(.s 112)])]
def ZSm:=R [0,3,5,7] [I 7 (.boxnil 1)]
def ZSn:=R [0,3,5,7,20,21,22] [F 19 6 3,L 20 19,I 21 (.len 1 (.s 20)),K 22 0]
def ZSo:=R [0,3,5,7,20,21,22,23] [B 23 .lss 22 21]
def ZPY:=R [0,3,5,7,9,20,21,22] [I 24 (.ixS 7 (.s 20) (.s 22)),T 25 7 24,I 9 (.box (.v ZT)),N 7 9 25]
def ZPZ:=R [0,3,5,7,10,20,21,22] [M 26 0,T 27 7 9,I 28 (C Q7 [(.s 26),(.s 27)]),M 10 28]
def ZPa:=R [0,3,5,7,10,20,21,22] [L 29 7,M 30 10,I 31 (.bslice true 1 [.nilptr] [(0,(.s 30))]),I 32 (.app 1 8 (.s 29) (.s 31)),N 1 7 32]
def ZEY:=R [0,3,5,7,10,20,21,22] [M 33 5,I 34 (.nilck (.s 33)),F 35 2 34,F 36 0 35,L 37 36,M 38 10,I 39 (.nilck (.s 38)),F 40 2 39,F 41 0 40,L 42 41,B 43 .add 37 42,I 44 (.nilck (.s 33)),F 45 2 44,F 46 0 45,N 1 46 43]
def ZEZ:=R [0,3,5,7,10,20,21,22] [M 47 5,I 48 (.nilck (.s 47)),F 49 2 48,F 50 1 49,L 51 50,M 52 10,I 53 (.nilck (.s 52)),F 54 2 53,F 55 1 54,L 56 55,B 57 .add 51 56,I 58 (.nilck (.s 47)),F 59 2 58,F 60 1 59,N 1 60 57]
def ZEa:=R [0,3,5,7,20,21,22] [M 61 5,I 62 (.nilck (.s 61)),F 63 2 62,F 64 2 63,L 65 64,M 66 10,I 67 (.nilck (.s 66)),F 68 2 67,F 69 2 68,L 70 69,B 71 .add 65 70,I 72 (.nilck (.s 61)),F 73 2 72,F 74 2 73,N 1 74 71]
def ZPb:=R [0,3,5,7,20,21,22] [W 75 .add 22 1,M 22 75]
def ZPc:PC:=(D ZSo
 (D (E 23
 .skip
 (.exit 1))
 (D (.block 2
 (D ZPY
 (D ZPZ
 (D ZPa
 (D ZEY
 (D ZEZ
 ZEa))))))
 ZPb)))
def ZPd:=R [5] [M 76 0,M 77 5,I 78 (.mkf (.func JZ) [] [(.s 3),(.s 7)]),I 79 (C ZAW [(.s 76),(.s 77),(.s 78)])]
def ZPe:=R [4] [M 114 5,M 4 114]
def ZKO:PF:=⟨true,
 (D ZSf
 (D ZSg
 (D (.block 0
 (D ZSh
 (E 80
 .skip
 (D ZSi
 (E 95
 (D ZSj
 (D ZSk
 ZSl))
 (D ZSm
 (D (D ZSn
 (.block 1
 (.loop ZPc)))
 ZPd)))))))
 (D ZPe
 .ret)))),
 [.s 4]⟩
theorem ZbQ:ck0 true [(7,⟨[0,3,5,7],[0],[],[],[],[]⟩),(12,⟨[0,3,5,7,10,20,21,22],[2],[],[],[],[]⟩)] ZKO Tryz.f206=some ZKO:=by kernel_rfl
def ZWL:=R [] [I 1 (.box (.s 0))]
def ZLz:PF:=⟨false,
 ZWL,
 []⟩
theorem ZfX:ck0 false [] ZLz Tryz.f207=some ZLz:=by kernel_rfl
def ZM1:=R [0] [I 2 (.mv (.v (.bool false)))]
def ZM2:=R [2] [M 3 0,I 4 (.bin .lss (.s 3) (.v (.int .u8 128))),M 5 4,U 6 5 false 0,G 7 5 false (.bin .gtr (.s 6) (.v (.int .u8 191))),I 8 (.pick (.s 5) (.v (.bool true)) (.s 7)),M 2 8]
def ZFz:PF:=⟨false,
 (D ZM1
 (D ZM2
 .ret)),
 [.s 2]⟩
theorem ZSq:ck0 false [] ZFz Tryz.f208=some ZFz:=by kernel_rfl
def ZfY:=R [0,1] [I 4 (.mv (.v (.str []))),I 5 (.mv (.v (.str []))),K 6 0]
def ZfZ:=R [0,1,9] [M 7 0,I 8 (C ZAX [(.s 7)]),I 9 (.un .not (.s 8))]
def Zfa:=R [4,5,6] [I 4 (.mv (.v (.str []))),I 5 (.mv (.v (.str []))),K 6 2]
def Zfb:=R [0,1,17] [M 10 1,W 11 .lss 10 0,M 12 11,U 13 12 false 1,U 14 12 false 0,G 15 12 false (.len 0 (.s 14)),G 16 12 false (.bin .gtr (.s 13) (.s 15)),I 17 (.pick (.s 12) (.v (.bool true)) (.s 16))]
def Zfc:=R [4,5,6] [I 4 (.mv (.v (.str []))),I 5 (.mv (.v (.str []))),K 6 3]
def Zfd:=R [4,5,6] [M 18 0,M 19 1,I 20 (.slcS (.s 18) none (some (.s 19))),M 21 0,M 22 1,I 23 (.slcS (.s 21) (some (.s 22)) none),M 4 20,M 5 23,K 6 0]
def ZT6:PF:=⟨false,
 (D ZfY
 (D (D ZfZ
 (E 9
 (D Zfa
 .ret)
 .skip))
 (D (D Zfb
 (E 17
 (D Zfc
 .ret)
 .skip))
 (D Zfd
 .ret)))),
 [.s 4,.s 5,.s 6]⟩
theorem Zkf:ck0 false [] ZT6 Tryz.f213=some ZT6:=by kernel_rfl
def ZWM:=R [1,2,3,4] [I 4 (.box (.s 0))]
def ZWN:=R [1,2,3,4,16] [F 7 0 4,L 8 7,I 9 (.bin .neq (.s 8) (.v (.int .u64 0))),M 10 9,G 11 10 true (.ld false 1 (.s 1)),G 12 10 true (.fadr 0 (.s 4)),G 13 10 true (.ld false 1 (.s 12)),G 14 10 true (.look 0 (.bool false) false (.s 11) (.s 13)),G 15 10 true (.un .not (.s 14)),I 16 (.pick (.s 10) (.s 15) (.v (.bool false)))]
def ZWO:=R [2,3,4] [L 17 1,F 18 0 4,L 19 18,J (.mupd 0 (.s 17) (.s 19) (.v (.bool true)))]
def ZWP:=R [3,4] [L 20 2,F 21 0 4,L 22 21,I 23 (.bslice false 1 [(.int .u64 0)] [(0,(.s 22))]),I 24 (.app 1 8 (.s 20) (.s 23)),N 1 2 24]
def ZIV:=R [3,26,27,28] [F 25 6 4,L 26 25,I 27 (.len 1 (.s 26)),K 28 0]
def ZWQ:=R [3,26,27,28,29] [B 29 .lss 28 27]
def ZWR:=R [3,6,26,27,28] [I 30 (.ixS 7 (.s 26) (.s 28)),T 31 7 30,I 6 (.box (.v ZT)),N 7 6 31]
def ZWS:=R [3,26,27,28] [L 32 3,T 33 7 6,I 34 (.call .norm (.s 32) [(.s 33)])]
def ZWT:=R [3,26,27,28] [W 35 .add 28 1,M 28 35]
def ZB5:PC:=(D ZWQ
 (D (E 29
 .skip
 (.exit 0))
 (D (.block 1
 (D ZWR
 ZWS))
 ZWT)))
def ZL0:PF:=⟨false,
 (D ZWM
 (D (D ZWN
 (E 16
 (D ZWO
 ZWP)
 .skip))
 (D ZIV
 (.block 0
 (.loop ZB5))))),
 []⟩
theorem Zff:ck0 false [] ZL0 Tryz.f214=some ZL0:=by kernel_rfl
def Zfg:=R [0,2,4] [I 4 (.box (.s 1)),I 6 (.mv (.v (.int .u8 0))),K 7 0]
def Zfh:=R [8,9,11] [M 13 0,T 14 5 4,M 15 2,I 16 (C ZJe [(.s 13),(.s 14),(.s 15)]),M 12 16,X 17 12 0,X 18 12 1,X 19 12 2,X 20 12 3,M 8 17,M 9 18,M 10 19,M 11 20]
def Zfi:=R [8,9,11,22] [M 21 11,W 22 .neq 21 0]
def Zfj:=R [6,7] [M 23 11,I 6 (.mv (.v (.int .u8 0))),M 7 23]
def Zfk:=R [8,9,31] [M 24 9,W 25 .lss 24 0,M 26 25,U 27 26 false 9,U 28 26 false 8,G 29 26 false (.len 0 (.s 28)),G 30 26 false (.bin .geq (.s 27) (.s 29)),I 31 (.pick (.s 26) (.v (.bool true)) (.s 30))]
def Zfl:=R [6,7] [I 6 (.mv (.v (.int .u8 0))),K 7 23]
def Zfm:=R [6,7] [M 32 8,M 33 9,I 34 (.ixStr (.s 32) (.s 33)),M 6 34,K 7 0]
def ZT7:PF:=⟨false,
 (D Zfg
 (D Zfh
 (D (D Zfi
 (E 22
 (D Zfj
 .ret)
 .skip))
 (D (D Zfk
 (E 31
 (D Zfl
 .ret)
 .skip))
 (D Zfm
 .ret))))),
 [.s 6,.s 7]⟩
theorem Zkh:ck0 false [] ZT7 Tryz.f218=some ZT7:=by kernel_rfl
def ZSr:=R [1] [I 1 (.box (.s 0)),K 2 0]
def ZSs:=R [2] [F 3 0 1,L 4 3,M 2 4]
def ZKP:PF:=⟨false,
 (D ZSr
 (D ZSs
 .ret)),
 [.s 2]⟩
theorem ZbS:ck0 false [] ZKP Tryz.f219=some ZKP:=by kernel_rfl
def ZPf:=R [0,1] [K 4 0]
def ZPg:=R [0,1,5] [K 5 0]
def ZPh:=R [0,1,5,8,9] [M 7 0,I 8 (.len 0 (.s 7)),K 9 0]
def ZPi:=R [0,1,5,8,9,10] [B 10 .lss 9 8]
def ZPj:=R [0,1,5,6,8,9] [M 11 9,M 6 11]
def ZPk:=R [0,1,5,8,9,16] [M 12 1,M 13 0,M 14 6,I 15 (.ixStr (.s 13) (.s 14)),I 16 (.call .norm (.s 12) [(.s 15)])]
def ZPl:=R [0,1,5,8,9] [M 17 5,W 18 .add 17 1,M 5 18]
def ZPm:=R [0,1,5,8,9] [W 19 .add 9 1,M 9 19]
def ZPn:PC:=(D ZPi
 (D (E 10
 .skip
 (.exit 0))
 (D (.block 1
 (D ZPj
 (D ZPk
 (E 16
 ZPl
 .skip))))
 ZPm)))
def ZPo:=R [4] [M 20 5,M 4 20]
def ZIW:PF:=⟨false,
 (D ZPf
 (D ZPg
 (D (D ZPh
 (.block 0
 (.loop ZPn)))
 (D ZPo
 .ret)))),
 [.s 4]⟩
theorem ZWV:ck0 false [] ZIW Tryz.f220=some ZIW:=by kernel_rfl
def ZbT:=R [1] [I 1 (.box (.s 0)),K 2 0]
def ZbU:=R [1,5] [T 3 3 1,I 4 (C ZBK [(.s 3)]),I 5 (.un .not (.s 4))]
def ZbV:=R [2] [K 2 23]
def ZbW:=R [9] [T 6 3 1,I 7 (C ZDD [(.s 6)]),I 8 (.fld false 0 1 (.s 7)),W 9 .gtr 8 65536]
def ZbX:=R [2] [K 2 5]
def ZbY:=R [2] [K 2 0]
def ZPp:PF:=⟨false,
 (D ZbT
 (D (D ZbU
 (E 5
 (D ZbV
 .ret)
 .skip))
 (D (D ZbW
 (E 9
 (D ZbX
 .ret)
 .skip))
 (D ZbY
 .ret)))),
 [.s 2]⟩
theorem Zig:ck0 false [] ZPp Tryz.f221=some ZPp:=by kernel_rfl
def Zih:=R [1,2] [I 1 (.box (.s 0)),I 2 (.box (.v ZM))]
def Zii:=R [1,2,8] [F 6 0 1,L 7 6,W 8 .eql 7 0]
def Zij:=R [2] [F 9 1 1,L 10 9,I 11 (C ZGb [(.s 10)]),N 3 2 11]
def Zik:=R [1,2,3] [I 3 (.onil 3)]
def Zil:=R [2,3,13,14,15] [F 12 2 1,L 13 12,I 14 (.len 1 (.s 13)),K 15 0]
def Zim:=R [2,3,13,14,15,16] [B 16 .lss 15 14]
def Zin:=R [2,3,5,13,14,15] [I 17 (.ixS 4 (.s 13) (.s 15)),T 18 4 17,I 5 (.box (.v ZK)),N 4 5 18]
def Zio:=R [2,3,13,14,15] [M 19 3,F 20 1 5,T 21 3 20,I 22 (.bslice false 3 [ZM] [(0,(.s 21))]),I 23 (.app 3 24 (.s 19) (.s 22)),M 3 23]
def Zip:=R [2,3,13,14,15] [W 24 .add 15 1,M 15 24]
def Ziq:PC:=(D Zim
 (D (E 16
 .skip
 (.exit 0))
 (D (.block 1
 (D Zin
 Zio))
 Zip)))
def Zfn:=R [2] [M 25 3,I 26 (C ZEn [(.s 25)]),N 3 2 26]
def ZbZ:PF:=⟨false,
 (D Zih
 (D (D Zii
 (E 8
 (D Zij
 .ret)
 .skip))
 (D Zik
 (D (D Zil
 (.block 0
 (.loop Ziq)))
 (D Zfn
 .ret))))),
 [.c 2 true 3]⟩
theorem ZmW:ck0 false [(3,⟨[1,2,3],[0],[],[],[],[]⟩)] ZbZ Tryz.f222=some ZbZ:=by kernel_rfl
def ZWW:=R [1,2] [I 2 (.box (.s 0)),I 4 (.mv (.v .nils))]
def ZWX:=R [1,2,10] [L 9 2,W 10 .eql 9 0]
def ZWY:=R [4] [I 4 (.mv (.v .nils))]
def ZWZ:=R [1,2,5] [L 11 2,M 12 1,B 13 .quo 11 12,I 5 (.box (V 0)),N 1 5 13]
def ZWa:=R [2,5,17] [L 14 2,M 15 1,B 16 .rem 14 15,W 17 .gtr 16 0]
def ZWb:=R [2,5] [L 18 5,W 19 .add 18 1,N 1 5 19]
def ZWc:=R [5,6] [I 20 (.mkf (.func YF) [] [(.s 2),(.s 5)]),M 6 20]
def ZWd:=R [5,6,7] [L 21 5,I 22 (.mkslice 1 8 (.int .i64 0) (.s 21) (.s 21)),M 7 22]
def ZWe:=R [6,7,23,24] [L 23 5,K 24 0]
def ZWf:=R [6,7,23,24,25] [B 25 .lss 24 23]
def ZSt:=R [6,7,8,23,24] [M 26 24,M 8 26]
def ZSu:=R [6,7,23,24] [M 27 7,M 28 8,M 29 6,M 30 8,I 31 (.call .norm (.s 29) [(.s 30)]),I 32 (.ixS 1 (.s 27) (.s 28)),N 1 32 31]
def ZSv:=R [6,7,23,24] [W 33 .add 24 1,M 24 33]
def ZF0:PC:=(D ZWf
 (D (E 25
 .skip
 (.exit 0))
 (D (.block 1
 (D ZSt
 ZSu))
 ZSv)))
def ZSw:=R [4] [M 34 7,M 4 34]
def ZL1:PF:=⟨false,
 (D ZWW
 (D (D ZWX
 (E 10
 (D ZWY
 .ret)
 .skip))
 (D ZWZ
 (D (D ZWa
 (E 17
 ZWb
 .skip))
 (D ZWc
 (D ZWd
 (D (D ZWe
 (.block 0
 (.loop ZF0)))
 (D ZSw
 .ret)))))))),
 [.s 4]⟩
theorem Zfp:ck0 false [] ZL1 Tryz.f223=some ZL1:=by kernel_rfl
def Zba:=R [0,4,5] [I 4 (.box (.s 1)),I 5 (.box (.s 2)),I 6 (.mv (.v .nils)),K 7 0]
def Zbb:=R [0,4,5,22] [F 15 1 4,L 16 15,W 17 .eql 16 0,M 18 17,G 19 18 true (.fadr 1 (.s 5)),G 20 18 true (.ld false 1 (.s 19)),G 21 18 true (.bin .eql (.s 20) (V 0)),I 22 (.pick (.s 18) (.s 21) (.v (.bool false)))]
def Zbc:=R [6,7] [M 23 0,T 24 7 4,T 25 7 5,I 26 (C ZEo [(.s 23),(.s 24),(.s 25)]),X 27 26 0,X 28 26 1,M 6 27,M 7 28]
def Zbd:=R [0,4,5,8,9] [I 8 (.mv (.v .nils)),I 9 (.mv (.v .nils))]
def Zbe:=R [0,4,5,8,9] [K 10 0]
def Zbf:=R [0,4,5,8,9,33] [F 29 1 4,L 30 29,F 31 1 5,L 32 31,B 33 .geq 30 32]
def Zbg:=R [0,4,5,8,9,10] [M 35 0,T 36 7 4,I 37 (C Yu [(.s 35),(.s 36)]),M 34 37,X 38 34 0,X 39 34 1,M 8 38,M 10 39]
def Zbh:=R [0,4,5,8,9,10,41] [M 40 10,W 41 .neq 40 0]
def Zbi:=R [6,7] [M 42 10,I 6 (.mv (.v .nils)),M 7 42]
def Zbj:=R [0,4,5,8,9,47] [F 43 1 5,L 44 43,F 45 1 4,L 46 45,B 47 .geq 44 46]
def ZWg:=R [0,4,5,8,9,10] [M 49 0,T 50 7 5,I 51 (C Yu [(.s 49),(.s 50)]),M 48 51,X 52 48 0,X 53 48 1,M 9 52,M 10 53]
def ZWh:=R [0,4,5,8,9,10,55] [M 54 10,W 55 .neq 54 0]
def ZWi:=R [6,7] [M 56 10,I 6 (.mv (.v .nils)),M 7 56]
def ZWj:=R [0,4,5,8,9,57] [F 58 1 4,L 59 58,F 60 1 5,L 61 60,B 62 .eql 59 61,M 63 62,U 64 63 true 8,G 65 63 true (.len 1 (.s 64)),U 66 63 true 9,G 67 63 true (.len 1 (.s 66)),G 68 63 true (.bin .add (.s 65) (.s 67)),G 69 63 true (.bin .leq (.s 68) (V 4)),I 70 (.pick (.s 63) (.s 69) (.v (.bool false))),M 57 70]
def ZWk:=R [6,7] [I 71 (.bslice false 7 [] []),M 72 8,I 73 (.app 7 80 (.s 71) (.s 72)),M 74 9,I 75 (.app 7 80 (.s 73) (.s 74)),I 76 (C Qa [(.s 75)]),I 77 (.bslice false 7 [ZT] [(0,(.s 76))]),M 6 77,K 7 0]
def ZWl:=R [0,4,5,8,9,78] [F 79 1 4,L 80 79,F 81 1 5,L 82 81,B 83 .eql 80 82,M 78 83]
def ZWm:=R [6,7] [T 84 7 4,T 85 7 5,I 86 (.bslice false 7 [ZT,ZT] [(0,(.s 84)),(1,(.s 85))]),M 6 86,K 7 0]
def ZWn:=R [0,4,5,8,9,87] [F 88 1 4,L 89 88,F 90 1 5,L 91 90,B 92 .gtr 89 91,M 87 92]
def ZWo:=R [0,5,8,11] [M 93 8,I 94 (.len 1 (.s 93)),W 95 .sub 94 1,M 11 95]
def ZWp:=R [8,11,12,13] [M 97 0,M 98 8,M 99 11,I 100 (.ixS 7 (.s 98) (.s 99)),T 101 7 100,T 102 7 5,I 103 (C ZAV [(.s 97),(.s 101),(.s 102)]),M 96 103,X 104 96 0,X 105 96 1,M 12 104,M 13 105]
def ZWq:=R [8,11,12,13,107] [M 106 13,W 107 .neq 106 0]
def ZWr:=R [6,7] [M 108 13,I 6 (.mv (.v .nils)),M 7 108]
def ZWs:=R [6,7] [I 109 (.bslice false 7 [] []),M 110 8,M 111 11,I 112 (.slc 7 (.s 110) none (some (.s 111))),I 113 (.app 7 80 (.s 109) (.s 112)),M 114 12,I 115 (.app 7 80 (.s 113) (.s 114)),I 116 (C ZEV [(.s 115)]),M 6 116,K 7 0]
def ZWt:=R [9,10,14] [M 118 0,T 119 7 4,M 120 9,I 121 (.ixS 7 (.s 120) (V 0)),T 122 7 121,I 123 (C ZAV [(.s 118),(.s 119),(.s 122)]),M 117 123,X 124 117 0,X 125 117 1,M 14 124,M 10 125]
def ZWu:=R [9,10,14,127] [M 126 10,W 127 .neq 126 0]
def ZWv:=R [6,7] [M 128 10,I 6 (.mv (.v .nils)),M 7 128]
def ZWw:=R [6,7] [I 129 (.w .imm (.bslice false 7 [] [])),M 130 14,I 131 (.w .app0 (.app 7 80 (.s 129) (.s 130))),M 132 9,I 133 (.w .blind (.slc 7 (.s 132) (some (V 1)) none)),I 134 (.app 7 80 (.s 131) (.s 133)),I 135 (C ZEV [(.s 134)]),M 6 135,K 7 0]
def ZPq:PF:=⟨false,
 (D Zba
 (D (D Zbb
 (E 22
 (D Zbc
 .ret)
 .skip))
 (D Zbd
 (D Zbe
 (D (D Zbf
 (E 33
 (D Zbg
 (D Zbh
 (E 41
 (D Zbi
 .ret)
 .skip)))
 .skip))
 (D (D Zbj
 (E 47
 (D ZWg
 (D ZWh
 (E 55
 (D ZWi
 .ret)
 .skip)))
 .skip))
 (D (.block 0
 (D ZWj
 (E 57
 (D ZWk
 .ret)
 (D ZWl
 (E 78
 (D ZWm
 .ret)
 (D ZWn
 (E 87
 (D ZWo
 (D ZWp
 (D (D ZWq
 (E 107
 (D ZWr
 .ret)
 .skip))
 (D ZWs
 .ret))))
 .skip)))))))
 (D ZWt
 (D (D ZWu
 (E 127
 (D ZWv
 .ret)
 .skip))
 (D ZWw
 .ret)))))))))),
 [.s 6,.s 7]⟩
theorem Zis:ck0 false [(26,⟨[6,7],[],[],[],[(4,.blind),(2,.app0),(0,.imm)],[]⟩)] ZPq Tryz.f225=some ZPq:=by kernel_rfl
def ZSx:=R [3,4,5] [I 3 (.box (.s 0)),I 4 (.box (.s 1)),I 5 (.box (.s 2))]
def ZSy:=R [] [I 6 (.w (.only (.s 3)) (.ld false 1 (.s 3))),L 7 3,I 8 (.nilck (.s 7)),F 9 1 8,L 10 9,I 11 (.mkf (.func XP) [] [(.s 3),(.s 5),(.s 4)]),I 12 (.bslice true 1 [.nilfunc] [(0,(.s 11))]),I 13 (.w (.grow (.s 3)) (.app 1 8 (.s 10) (.s 12))),I 14 (.nilck (.s 6)),F 15 1 14,N 1 15 13]
def ZKQ:PF:=⟨true,
 (D ZSx
 ZSy),
 []⟩
theorem Zbl:ck0 true [(1,⟨[],[6],[],[],[(0,(.only (.s 3))),(7,(.grow (.s 3)))],[]⟩)] ZKQ Tryz.f226=some ZKQ:=by kernel_rfl
def ZM3:=R [0,1] [I 1 (.box (.v ZN))]
def ZM4:=R [1] [T 2 3 0,N 3 1 2]
def ZF1:PF:=⟨false,
 (D ZM3
 (D ZM4
 .ret)),
 [.c 1 true 3]⟩
theorem ZS0:ck0 false [] ZF1 Tryz.f227=some ZF1:=by kernel_rfl
def ZM5:=R [0,1,2] [I 2 (.box (.v ZN))]
def ZM6:=R [1,2,3] [F 6 1 0,L 7 6,I 8 (.build [(.int .i64 0),(.str []),.nils] [(0,1,(.s 7))]),I 3 (.box (.v ZN)),N 3 3 8]
def ZM7:=R [2,3,9,10,11] [L 9 1,I 10 (.len 1 (.s 9)),K 11 0]
def ZM8:=R [2,3,9,10,11,12] [B 12 .lss 11 10]
def ZM9:=R [2,3,5,9,10,11] [I 13 (.ixS 1 (.s 9) (.s 11)),L 14 13,M 5 14]
def ZNA:=R [2,3,9,10,11] [F 15 2 3,L 16 15,M 17 5,I 18 (.nilck (.s 17)),F 19 0 18,L 20 19,M 21 5,I 22 (.nilck (.s 21)),F 23 2 22,T 24 3 23,I 25 (.build [(.int .u64 0),(.int .i64 0),(.int .i64 0),(.int .i64 0)] [(0,1,(.s 20)),(1,3,(.s 24))]),I 26 (.w .imm (.bslice false 4 [ZK] [(0,(.s 25))])),I 27 (.app 4 32 (.s 16) (.s 26)),F 28 2 3,N 1 28 27]
def ZNB:=R [2,3,9,10,11] [W 29 .add 11 1,M 11 29]
def ZNC:PC:=(D ZM8
 (D (E 12
 .skip
 (.exit 0))
 (D (.block 1
 (D ZM9
 ZNA))
 ZNB)))
def ZND:=R [2] [T 30 3 3,N 3 2 30]
def ZF2:PF:=⟨false,
 (D ZM5
 (D ZM6
 (D (D ZM7
 (.block 0
 (.loop ZNC)))
 (D ZND
 .ret)))),
 [.c 2 true 3]⟩
theorem ZS2:ck0 false [(5,⟨[2,3,9,10,11],[],[],[],[(11,.imm)],[]⟩)] ZF2 Tryz.f228=some ZF2:=by kernel_rfl
def Zbm:=R [0] [I 2 (.mv (.v (.bool false)))]
def Zbn:=R [2] [M 3 0,I 4 (.len 0 (.s 3)),W 5 .geq 4 1,M 6 5,U 7 6 true 0,G 8 6 true (.len 0 (.s 7)),G 9 6 true (.bin .leq (.s 8) (V 16)),I 10 (.pick (.s 6) (.s 9) (.v (.bool false))),M 2 10]
def ZPr:PF:=⟨false,
 (D Zbm
 (D Zbn
 .ret)),
 [.s 2]⟩
theorem Ziu:ck0 false [] ZPr Tryz.f229=some ZPr:=by kernel_rfl
def ZWx:=R [1] [I 1 (.box (.s 0)),I 2 (.mv (.v (.bool false)))]
def ZWy:=R [1,9] [F 7 0 1,L 8 7,W 9 .eql 8 0]
def ZWz:=R [2] [F 10 1 1,L 11 10,I 12 (.len 0 (.s 11)),W 13 .geq 12 1,M 14 13,G 15 14 true (.fadr 1 (.s 1)),G 16 14 true (.ld false 1 (.s 15)),G 17 14 true (.len 0 (.s 16)),G 18 14 true (.bin .leq (.s 17) (V 16)),I 19 (.pick (.s 14) (.s 18) (.v (.bool false))),M 20 19,G 21 20 true (.fadr 2 (.s 1)),G 22 20 true (.ld false 1 (.s 21)),G 23 20 true (.len 1 (.s 22)),G 24 20 true (.bin .eql (.s 23) (V 0)),I 25 (.pick (.s 20) (.s 24) (.v (.bool false))),M 2 25]
def ZW0:=R [1,50] [F 26 0 1,L 27 26,W 28 .lss 27 1,M 29 28,G 30 29 false (.fadr 0 (.s 1)),G 31 29 false (.ld false 1 (.s 30)),G 32 29 false (.bin .gtr (.s 31) (V 16)),I 33 (.pick (.s 29) (.v (.bool true)) (.s 32)),M 34 33,G 35 34 false (.fadr 1 (.s 1)),G 36 34 false (.ld false 1 (.s 35)),G 37 34 false (.bin .neq (.s 36) (.v (.str []))),I 38 (.pick (.s 34) (.v (.bool true)) (.s 37)),M 39 38,G 40 39 false (.fadr 2 (.s 1)),G 41 39 false (.ld false 1 (.s 40)),G 42 39 false (.len 1 (.s 41)),G 43 39 false (.bin .lss (.s 42) (V 2)),I 44 (.pick (.s 39) (.v (.bool true)) (.s 43)),M 45 44,G 46 45 false (.fadr 2 (.s 1)),G 47 45 false (.ld false 1 (.s 46)),G 48 45 false (.len 1 (.s 47)),G 49 45 false (.bin .gtr (.s 48) (V 4)),I 50 (.pick (.s 45) (.v (.bool true)) (.s 49))]
def ZW1:=R [2] [I 2 (.mv (.v (.bool false)))]
def ZW2:=R [1,3,4] [F 52 0 1,L 53 52,W 54 .sub 53 1,I 55 (C ZEp [(.s 54)]),M 51 55,X 56 51 0,X 57 51 1,M 3 56,M 4 57]
def ZW3:=R [3,4,59,60,61] [F 58 2 1,L 59 58,I 60 (.len 1 (.s 59)),K 61 0]
def ZW4:=R [3,4,59,60,61,62] [B 62 .lss 61 60]
def ZW5:=R [3,4,6,59,60,61] [I 63 (.ixS 4 (.s 59) (.s 61)),T 64 4 63,I 6 (.box (.v ZK)),N 4 6 64]
def ZW6:=R [3,4,59,60,61,112] [F 65 0 6,L 66 65,I 67 (C ZDE [(.s 66)]),W 68 .neq 67 0,M 69 68,G 70 69 false (.fadr 1 (.s 6)),G 71 69 false (.fadr 0 (.s 70)),G 72 69 false (.ld false 1 (.s 71)),U 73 69 false 3,G 74 69 false (.bin .lss (.s 72) (.s 73)),I 75 (.pick (.s 69) (.v (.bool true)) (.s 74)),M 76 75,G 77 76 false (.fadr 1 (.s 6)),G 78 76 false (.fadr 0 (.s 77)),G 79 76 false (.ld false 1 (.s 78)),U 80 76 false 4,G 81 76 false (.bin .gtr (.s 79) (.s 80)),I 82 (.pick (.s 76) (.v (.bool true)) (.s 81)),M 83 82,G 84 83 false (.fadr 1 (.s 6)),G 85 83 false (.fadr 1 (.s 84)),G 86 83 false (.ld false 1 (.s 85)),G 87 83 false (.bin .lss (.s 86) (V 0)),I 88 (.pick (.s 83) (.v (.bool true)) (.s 87)),M 89 88,G 90 89 false (.fadr 1 (.s 6)),G 91 89 false (.fadr 1 (.s 90)),G 92 89 false (.ld false 1 (.s 91)),G 93 89 false (.fadr 1 (.s 6)),G 94 89 false (.fadr 0 (.s 93)),G 95 89 false (.ld false 1 (.s 94)),G 96 89 false (.bin .gtr (.s 92) (.s 95)),I 97 (.pick (.s 89) (.v (.bool true)) (.s 96)),M 98 97,G 99 98 false (.fadr 1 (.s 6)),G 100 98 false (.fadr 2 (.s 99)),G 101 98 false (.ld false 1 (.s 100)),G 102 98 false (.bin .lss (.s 101) (V 0)),I 103 (.pick (.s 98) (.v (.bool true)) (.s 102)),M 104 103,G 105 104 false (.fadr 1 (.s 6)),G 106 104 false (.fadr 2 (.s 105)),G 107 104 false (.ld false 1 (.s 106)),G 108 104 false (.fadr 1 (.s 6)),G 109 104 false (.fadr 1 (.s 108)),G 110 104 false (.ld false 1 (.s 109)),G 111 104 false (.bin .gtr (.s 107) (.s 110)),I 112 (.pick (.s 104) (.v (.bool true)) (.s 111))]
def ZS3:=R [2] [I 2 (.mv (.v (.bool false)))]
def ZS4:=R [3,4,59,60,61] [W 113 .add 61 1,M 61 113]
def ZS5:PC:=(D ZW4
 (D (E 62
 .skip
 (.exit 0))
 (D (.block 1
 (D ZW5
 (D ZW6
 (E 112
 (D ZS3
 .ret)
 .skip))))
 ZS4)))
def ZS6:=R [2] [I 2 (.mv (.v (.bool true)))]
def ZL2:PF:=⟨false,
 (D ZWx
 (D (D ZWy
 (E 9
 (D ZWz
 .ret)
 .skip))
 (D (D ZW0
 (E 50
 (D ZW1
 .ret)
 .skip))
 (D ZW2
 (D (D ZW3
 (.block 0
 (.loop ZS5)))
 (D ZS6
 .ret)))))),
 [.s 2]⟩
theorem Zfr:ck0 false [] ZL2 Tryz.f240=some ZL2:=by kernel_rfl
def Zbo:=R [0,2] [I 2 (.box (.v ZM))]
def Zbp:=R [0,2,3] [I 3 (.box (.v ZM))]
def Zbq:=R [0,2,3,6,7] [I 6 (.build [.nilfunc,.nilfunc,.nilfunc] [(0,1,(.v (.func (.func Xs) [] []))),(1,1,(.v (.func (.func XO) [] []))),(2,1,(.v (.func (.func YE) [] [])))]),K 7 0]
def Zbr:=R [0,2,3,6,7,8] [W 8 .lss 7 3]
def Zbs:=R [0,2,3,4,5,6,7] [M 9 7,I 10 (.ixArr false 3 1 (.s 6) (.s 7)),M 4 9,M 5 10]
def Zbt:=R [0,2,3,6,7] [M 11 4,M 12 0,M 13 5,I 14 (C Xr [(.s 12),(.s 13)]),I 15 (.ixA 3 1 (.s 3) (.s 11)),N 1 15 14]
def Zbu:=R [0,2,3,6,7] [W 16 .add 7 1,M 7 16]
def Zbv:PC:=(D Zbr
 (D (E 8
 .skip
 (.exit 0))
 (D (.block 1
 (D Zbs
 Zbt))
 Zbu)))
def Zbw:=R [2] [T 17 3 3,I 18 (C Yo [(.s 17)]),N 3 2 18]
def ZPs:PF:=⟨false,
 (D Zbo
 (D Zbp
 (D (D Zbq
 (.block 0
 (.loop Zbv)))
 (D Zbw
 .ret)))),
 [.c 2 true 3]⟩
theorem Ziw:ck0 false [] ZPs Tryz.f241=some ZPs:=by kernel_rfl
def ZW7:=R [0,2] [I 2 (.box (.v ZM))]
def ZW8:=R [0,2,3] [I 3 (.box (.v ZM))]
def ZW9:=R [2,3,8,9,10] [M 8 0,I 9 (.len 1 (.s 8)),K 10 0]
def ZXA:=R [2,3,8,9,10,11] [B 11 .lss 10 9]
def ZXB:=R [2,3,5,8,9,10] [I 12 (.ixS 3 (.s 8) (.s 10)),T 13 3 12,I 5 (.box (.v ZM)),N 3 5 13]
def ZXC:=R [2,3,8,9,10,20,21] [F 14 0 5,L 15 14,F 16 1 5,L 17 16,F 18 2 5,L 19 18,I 20 (.build [(.int .i64 0),(.int .i64 0),(.int .i64 0)] [(0,1,(.s 15)),(1,1,(.s 17)),(2,1,(.s 19))]),K 21 0]
def ZXD:=R [2,3,8,9,10,20,21,22] [W 22 .lss 21 3]
def ZXE:=R [2,3,6,7,8,9,10,20,21] [M 23 21,I 24 (.ixArr false 3 1 (.s 20) (.s 21)),M 6 23,M 7 24]
def ZXF:=R [2,3,8,9,10,20,21] [M 25 6,I 26 (.ixA 3 1 (.s 3) (.s 25)),L 27 26,M 28 7,B 29 .add 27 28,I 30 (.ixA 3 1 (.s 3) (.s 25)),N 1 30 29]
def ZXG:=R [2,3,8,9,10,20,21] [W 31 .add 21 1,M 21 31]
def ZS7:PC:=(D ZXD
 (D (E 22
 .skip
 (.exit 2))
 (D (.block 3
 (D ZXE
 ZXF))
 ZXG)))
def ZS8:=R [2,3,8,9,10] [W 32 .add 10 1,M 10 32]
def ZS9:PC:=(D ZXA
 (D (E 11
 .skip
 (.exit 0))
 (D (.block 1
 (D ZXB
 (D ZXC
 (.block 2
 (.loop ZS7)))))
 ZS8)))
def ZTA:=R [2] [T 33 3 3,I 34 (C Yo [(.s 33)]),N 3 2 34]
def ZL3:PF:=⟨false,
 (D ZW7
 (D ZW8
 (D (D ZW9
 (.block 0
 (.loop ZS9)))
 (D ZTA
 .ret)))),
 [.c 2 true 3]⟩
theorem Zft:ck0 false [] ZL3 Tryz.f242=some ZL3:=by kernel_rfl
def ZPt:=R [0,1,2] [K 4 0]
def ZPu:=R [1,2,9] [M 5 0,L 6 1,L 7 2,B 8 .rem 6 7,B 9 .lss 5 8]
def ZPv:=R [4] [L 10 1,L 11 2,B 12 .quo 10 11,W 13 .add 12 1,M 4 13]
def ZPw:=R [4] [L 14 1,L 15 2,B 16 .quo 14 15,M 4 16]
def ZIX:PF:=⟨false,
 (D ZPt
 (D (D ZPu
 (E 9
 (D ZPv
 .ret)
 .skip))
 (D ZPw
 .ret))),
 [.s 4]⟩
theorem ZXI:ck0 false [] ZIX Tryz.f243=some ZIX:=by kernel_rfl
def ZXJ:=R [0,4,5] [I 4 (.box (.s 1)),I 5 (.box (.s 2)),I 6 (.mv (.v .nils)),K 7 0]
def ZXK:=R [0,4,5,8,9] [T 17 7 4,I 18 (.call .pure (.v (.func (.func JB) [] [])) [(.s 17)]),T 19 7 5,I 20 (C JB [(.s 19)]),M 8 18,M 9 20]
def ZXL:=R [0,4,5,32] [M 21 8,M 22 9,B 23 .add 21 22,W 24 .gtr 23 16,M 25 24,U 26 25 true 8,G 27 25 true (.bin .geq (.s 26) (V 8)),I 28 (.pick (.s 25) (.s 27) (.v (.bool false))),M 29 28,U 30 29 true 9,G 31 29 true (.bin .geq (.s 30) (V 8)),I 32 (.pick (.s 29) (.s 31) (.v (.bool false)))]
def ZXM:=R [6,7] [T 33 7 4,T 34 7 5,I 35 (.bslice false 7 [ZT,ZT] [(0,(.s 33)),(1,(.s 34))]),M 6 35,K 7 0]
def ZXN:=R [0,5,10,11] [M 37 0,T 38 7 4,I 39 (C ZBW [(.s 37),(.s 38)]),M 36 39,X 40 36 0,X 41 36 1,M 10 40,M 11 41]
def ZXO:=R [0,5,10,11,43] [M 42 11,W 43 .neq 42 0]
def ZXP:=R [6,7] [M 44 11,I 6 (.mv (.v .nils)),M 7 44]
def ZXQ:=R [10,11,12] [M 46 0,T 47 7 5,I 48 (C ZBW [(.s 46),(.s 47)]),M 45 48,X 49 45 0,X 50 45 1,M 12 49,M 11 50]
def ZXR:=R [10,11,12,52] [M 51 11,W 52 .neq 51 0]
def ZXS:=R [6,7] [M 53 11,I 6 (.mv (.v .nils)),M 7 53]
def ZTB:=R [11,13] [M 55 10,M 56 12,I 57 (C ZGc [(.s 55),(.s 56)]),M 54 57,X 58 54 0,X 59 54 1,M 13 58,M 11 59]
def ZTC:=R [11,13,61] [M 60 11,W 61 .neq 60 0]
def ZTD:=R [6,7] [M 62 11,I 6 (.mv (.v .nils)),M 7 62]
def ZTE:=R [13,14] [I 14 (.onil 7)]
def ZTF:=R [14,63,64,65] [M 63 13,I 64 (.len 1 (.s 63)),K 65 0]
def ZTG:=R [14,63,64,65,66] [B 66 .lss 65 64]
def ZTH:=R [14,16,63,64,65] [I 67 (.ixS 1 (.s 63) (.s 65)),L 68 67,M 16 68]
def ZTI:=R [14,63,64,65] [M 69 14,M 70 16,I 71 (.build [(.int .u64 0),(.int .i64 0),(.int .i64 0),(.int .i64 0),(.int .i64 0),(.str []),.nils] [(5,1,(.s 70))]),I 72 (.bslice false 7 [ZT] [(0,(.s 71))]),I 73 (.app 7 80 (.s 69) (.s 72)),M 14 73]
def ZTJ:=R [14,63,64,65] [W 74 .add 65 1,M 65 74]
def ZF3:PC:=(D ZTG
 (D (E 66
 .skip
 (.exit 0))
 (D (.block 1
 (D ZTH
 ZTI))
 ZTJ)))
def ZTK:=R [6,7] [M 75 14,M 6 75,K 7 0]
def ZL4:PF:=⟨false,
 (D ZXJ
 (D ZXK
 (D (D ZXL
 (E 32
 (D ZXM
 .ret)
 .skip))
 (D ZXN
 (D (D ZXO
 (E 43
 (D ZXP
 .ret)
 .skip))
 (D ZXQ
 (D (D ZXR
 (E 52
 (D ZXS
 .ret)
 .skip))
 (D ZTB
 (D (D ZTC
 (E 61
 (D ZTD
 .ret)
 .skip))
 (D ZTE
 (D (D ZTF
 (.block 0
 (.loop ZF3)))
 (D ZTK
 .ret)))))))))))),
 [.s 6,.s 7]⟩
theorem Zfv:ck0 false [(1,⟨[0,4,5,8,9],[],[(1,.pure)],[],[],[]⟩),(13,⟨[13,14],[0],[],[],[],[]⟩)] ZL4 Tryz.f245=some ZL4:=by kernel_rfl
def Zfw:=R [0] [I 2 (.mv (.v .nils))]
def Zfx:=R [0,6] [M 4 0,I 5 (.len 1 (.s 4)),W 6 .leq 5 4]
def Zfy:=R [2] [M 7 0,I 8 (C Qa [(.s 7)]),I 9 (.bslice false 7 [ZT] [(0,(.s 8))]),M 2 9]
def Zfz:=R [0,3] [M 10 0,I 11 (.len 1 (.s 10)),W 12 .add 11 1,W 13 .quo 12 2,M 3 13]
def Zf0:=R [2] [M 14 0,M 15 3,I 16 (.slc 7 (.s 14) none (some (.s 15))),I 17 (.call .pure (.v (.func (.func Qa) [] [])) [(.s 16)]),M 18 0,M 19 3,I 20 (.slc 7 (.s 18) (some (.s 19)) none),I 21 (C Qa [(.s 20)]),I 22 (.bslice false 7 [ZT,ZT] [(0,(.s 17)),(1,(.s 21))]),M 2 22]
def ZT8:PF:=⟨false,
 (D Zfw
 (D (D Zfx
 (E 6
 (D Zfy
 .ret)
 .skip))
 (D Zfz
 (D Zf0
 .ret)))),
 [.s 2]⟩
theorem Zkj:ck0 false [(4,⟨[2],[],[(3,.pure)],[],[],[]⟩)] ZT8 Tryz.f246=some ZT8:=by kernel_rfl
def ZNE:=R [0,1,2] [I 3 (.mv (.v (.int .u64 0))),K 4 0]
def ZNF:=R [2,5,6] [L 8 0,I 9 (.nilck (.s 8)),F 10 0 9,L 11 10,L 12 1,I 13 (.call .pure (.s 12) []),I 14 (C Jq [(.s 11),(.s 13)]),M 7 14,X 15 7 0,X 16 7 1,M 5 15,M 6 16]
def ZNG:=R [2,5,6,18] [M 17 6,W 18 .eql 17 0]
def ZNH:=R [5,6] [L 19 2,M 20 5,I 21 (.nilck (.s 19)),F 22 0 21,N 1 22 20]
def ZNI:=R [3,4] [M 23 5,M 24 6,M 3 23,M 4 24]
def ZF4:PF:=⟨false,
 (D ZNE
 (D ZNF
 (D (D ZNG
 (E 18
 ZNH
 .skip))
 (D ZNI
 .ret)))),
 [.s 3,.s 4]⟩
theorem ZTM:ck0 false [(1,⟨[2,5,6],[],[(5,.pure)],[],[],[]⟩)] ZF4 Tryz.f247=some ZF4:=by kernel_rfl
def ZJJ:=R [0,3] [I 3 (.box (.s 1)),I 4 (.mv (.v (.int .u64 0))),K 5 0]
def ZJK:=R [0,3,16] [M 15 0,I 16 (.eqs false 3 [] (.s 15) (.v .nilptr))]
def ZJL:=R [4,5] [I 4 (.mv (.v (.int .u64 0))),K 5 1]
def ZJM:=R [0,3,6] [T 17 3 3,I 18 (C ZAU [(.s 17)]),M 6 18]
def ZJN:=R [0,3,6,20] [M 19 6,W 20 .neq 19 0]
def ZJO:=R [4,5] [M 21 6,I 4 (.mv (.v (.int .u64 0))),M 5 21]
def ZJP:=R [0,3,23,24,25] [F 22 2 3,L 23 22,I 24 (.len 1 (.s 23)),K 25 0]
def ZJQ:=R [0,3,23,24,25,26] [B 26 .lss 25 24]
def ZJR:=R [0,3,8,23,24,25] [I 27 (.ixS 4 (.s 23) (.s 25)),T 28 4 27,I 8 (.box (.v ZK)),N 4 8 28]
def ZJS:=R [0,3,8,9,10,23,24,25] [M 30 0,I 31 (.nilck (.s 30)),F 32 2 31,L 33 32,F 34 0 8,L 35 34,I 36 (.look 0 ZN true (.s 33) (.s 35)),M 29 36,X 37 29 0,X 38 29 1,I 9 (.box (.v ZN)),N 3 9 37,M 10 38]
def ZHm:=R [0,3,8,9,23,24,25,40] [M 39 10,I 40 (.un .not (.s 39))]
def ZHn:=R [4,5] [I 4 (.mv (.v (.int .u64 0))),K 5 10]
def ZHo:=R [0,3,8,9,11,12,23,24,25] [T 42 3 9,I 43 (C YY [(.s 42)]),M 41 43,X 44 41 0,X 45 41 1,I 11 (.box (.v ZM)),N 3 11 44,M 12 45]
def ZHp:=R [0,3,23,24,25,61] [M 46 12,W 47 .neq 46 0,M 48 47,G 49 48 false (.fadr 0 (.s 9)),G 50 48 false (.ld false 1 (.s 49)),G 51 48 false (.fadr 0 (.s 3)),G 52 48 false (.ld false 1 (.s 51)),G 53 48 false (.bin .sub (.s 52) (V 1)),G 54 48 false (.bin .neq (.s 50) (.s 53)),I 55 (.pick (.s 48) (.v (.bool true)) (.s 54)),M 56 55,G 57 56 false (.ld true 3 (.s 11)),G 58 56 false (.fadr 1 (.s 8)),G 59 56 false (.ld true 3 (.s 58)),G 60 56 false (.eqs true 0 [(0,0),(1,0),(2,0)] (.s 57) (.s 59)),I 61 (.pick (.s 56) (.v (.bool true)) (.s 60))]
def ZHq:=R [4,5] [I 4 (.mv (.v (.int .u64 0))),K 5 23]
def ZHr:=R [0,3,23,24,25] [W 62 .add 25 1,M 25 62]
def ZHs:PC:=(D ZJQ
 (D (E 26
 .skip
 (.exit 0))
 (D (.block 1
 (D ZJR
 (D ZJS
 (D (D ZHm
 (E 40
 (D ZHn
 .ret)
 .skip))
 (D ZHo
 (D ZHp
 (E 61
 (D ZHq
 .ret)
 .skip)))))))
 ZHr)))
def ZHt:=R [0,3,13,14] [M 64 0,I 65 (.nilck (.s 64)),F 66 1 65,L 67 66,I 68 (C XE [(.s 67)]),M 63 68,X 69 63 0,X 70 63 1,M 13 69,M 14 70]
def ZHu:=R [0,3,13,14,72] [M 71 14,W 72 .neq 71 0]
def ZHv:=R [4,5] [M 73 14,I 4 (.mv (.v (.int .u64 0))),M 5 73]
def ZAb:=R [0,3,13] [F 74 2 3,L 75 74,I 76 (C QD [(.s 75)]),F 77 2 3,N 1 77 76]
def ZAc:=R [0,13] [M 78 0,I 79 (.nilck (.s 78)),F 80 2 79,L 81 80,M 82 13,T 83 3 3,J (.mupd 0 (.s 81) (.s 82) (.s 83))]
def ZAd:=R [13] [M 84 0,I 85 (.nilck (.s 84)),F 86 3 85,L 87 86,W 88 .add 87 1,I 89 (.nilck (.s 84)),F 90 3 89,N 1 90 88]
def ZAe:=R [4,5] [M 91 13,M 4 91,K 5 0]
def ZCC:PF:=⟨false,
 (D ZJJ
 (D (D ZJK
 (E 16
 (D ZJL
 .ret)
 .skip))
 (D (D ZJM
 (D ZJN
 (E 20
 (D ZJO
 .ret)
 .skip)))
 (D (D ZJP
 (.block 0
 (.loop ZHs)))
 (D ZHt
 (D (D ZHu
 (E 72
 (D ZHv
 .ret)
 .skip))
 (D ZAb
 (D ZAc
 (D ZAd
 (D ZAe
 .ret)))))))))),
 [.s 4,.s 5]⟩
theorem ZLe:ck0 false [] ZCC Tryz.f248=some ZCC:=by kernel_rfl
def ZXT:=R [0] [K 2 0,K 3 0]
def ZXU:=R [0,2,3] [K 2 8,K 3 16]
def ZXV:=R [2,3,4,5] [M 4 0,K 5 0]
def ZXW:=R [2,3,4,5,6] [B 6 .lss 5 4]
def ZXX:=R [2,3,4,5] [M 7 2,W 8 .mul 7 2,M 2 8]
def ZXY:=R [2,3,4,5] [M 9 3,W 10 .mul 9 4,I 11 (.mnx false (.s 10) (V 65536)),M 3 11]
def ZXZ:=R [2,3,4,5] [W 12 .add 5 1,M 5 12]
def ZXa:PC:=(D ZXW
 (D (E 6
 .skip
 (.exit 0))
 (D (.block 1
 (D ZXX
 ZXY))
 ZXZ)))
def ZXb:=R [2,3] [M 13 2,M 14 3,I 15 (.mnx false (.s 14) (V 65536)),M 2 13,M 3 15]
def ZL5:PF:=⟨false,
 (D ZXT
 (D ZXU
 (D (D ZXV
 (.block 0
 (.loop ZXa)))
 (D ZXb
 .ret)))),
 [.s 2,.s 3]⟩
theorem Zf2:ck0 false [] ZL5 Tryz.f254=some ZL5:=by kernel_rfl
def ZTN:=R [0] [K 2 0]
def ZTO:=R [3,4] [M 6 0,I 7 (C ZDF [(.s 6)]),M 5 7,X 8 5 0,X 9 5 1,M 3 8,M 4 9]
def ZTP:=R [19] [M 10 3,W 11 .geq 10 16384,M 12 11,U 13 12 false 4,G 14 12 false (.bin .lss (.s 13) (.v (.int .u64 1))),I 15 (.pick (.s 12) (.v (.bool true)) (.s 14)),M 16 15,U 17 16 false 4,G 18 16 false (.bin .gtr (.s 17) (.v (.int .u64 4294967295))),I 19 (.pick (.s 16) (.v (.bool true)) (.s 18))]
def ZTQ:=R [2] [K 2 2]
def ZTR:=R [2] [K 2 0]
def ZKR:PF:=⟨false,
 (D ZTN
 (D (D ZTO
 (D ZTP
 (E 19
 (D ZTQ
 .ret)
 .skip)))
 (D ZTR
 .ret))),
 [.s 2]⟩
theorem Zby:ck0 false [] ZKR Tryz.f255=some ZKR:=by kernel_rfl
def ZPx:=R [] [I 2 (.mv (.v (.bool false)))]
def ZPy:=R [2] [I 2 (.mv (.v (.bool true)))]
def ZIY:PF:=⟨false,
 (D ZPx
 (D ZPy
 .ret)),
 [.s 2]⟩
theorem ZXd:ck0 false [] ZIY Tryz.f256=some ZIY:=by kernel_rfl
def ZKS:=R [1,2] [I 1 (.box (.s 0)),I 2 (.box (.v ZM))]
def ZKT:=R [1,2,5] [T 3 3 1,I 4 (.build [(.int .i64 0),(.int .i64 0),(.int .i64 0)] []),I 5 (.eqs false 0 [(0,0),(1,0),(2,0)] (.s 3) (.s 4))]
def ZKU:=R [2] [I 6 (.build [(.int .i64 0),(.int .i64 0),(.int .i64 0)] []),N 3 2 6]
def ZKV:=R [2] [I 7 (.ixA 3 1 (.s 1) (V 0)),L 8 7,I 9 (.ixA 3 1 (.s 1) (V 1)),L 10 9,I 11 (.ixA 3 1 (.s 1) (V 2)),L 12 11,I 13 (.build [(.int .i64 0),(.int .i64 0),(.int .i64 0)] [(0,1,(.s 8)),(1,1,(.s 10)),(2,1,(.s 12))]),N 3 2 13]
def ZDm:PF:=⟨false,
 (D ZKS
 (D (D ZKT
 (E 5
 (D ZKU
 .ret)
 .skip))
 (D ZKV
 .ret))),
 [.c 2 true 3]⟩
theorem ZNK:ck0 false [] ZDm Tryz.f257=some ZDm:=by kernel_rfl
def Zbz:=R [0,1] [I 4 (.mv (.v .nils)),K 5 0]
def Zb0:=R [0,1,15] [M 8 0,I 9 (C ZAX [(.s 8)]),I 10 (.un .not (.s 9)),M 11 10,U 12 11 false 1,G 13 11 false (C ZAX [(.s 12)]),G 14 11 false (.un .not (.s 13)),I 15 (.pick (.s 11) (.v (.bool true)) (.s 14))]
def Zb1:=R [4,5] [I 4 (.mv (.v .nils)),K 5 2]
def Zb2:=R [0,1,6] [M 16 0,M 17 1,B 18 .add 16 17,M 6 18]
def Zb3:=R [0,1,6,21] [M 19 6,I 20 (.len 0 (.s 19)),W 21 .leq 20 16]
def Zb4:=R [4,5] [M 22 6,I 23 (.bslice false 1 [(.str [])] [(0,(.s 22))]),M 4 23,K 5 0]
def Zb5:=R [0,1,6,31] [M 24 0,I 25 (.len 0 (.s 24)),W 26 .geq 25 8,M 27 26,U 28 27 true 1,G 29 27 true (.len 0 (.s 28)),G 30 27 true (.bin .geq (.s 29) (V 8)),I 31 (.pick (.s 27) (.s 30) (.v (.bool false)))]
def Zb6:=R [4,5] [M 32 0,M 33 1,I 34 (.bslice false 1 [(.str []),(.str [])] [(0,(.s 32)),(1,(.s 33))]),M 4 34,K 5 0]
def Zb7:=R [6,7] [M 35 6,I 36 (.len 0 (.s 35)),W 37 .add 36 1,W 38 .quo 37 2,M 7 38]
def Zb8:=R [4,5] [M 39 6,M 40 7,I 41 (.slcS (.s 39) none (some (.s 40))),M 42 6,M 43 7,I 44 (.slcS (.s 42) (some (.s 43)) none),I 45 (.bslice false 1 [(.str []),(.str [])] [(0,(.s 41)),(1,(.s 44))]),M 4 45,K 5 0]
def ZPz:PF:=⟨false,
 (D Zbz
 (D (D Zb0
 (E 15
 (D Zb1
 .ret)
 .skip))
 (D Zb2
 (D (D Zb3
 (E 21
 (D Zb4
 .ret)
 .skip))
 (D (D Zb5
 (E 31
 (D Zb6
 .ret)
 .skip))
 (D Zb7
 (D Zb8
 .ret))))))),
 [.s 4,.s 5]⟩
theorem Ziy:ck0 false [] ZPz Tryz.f260=some ZPz:=by kernel_rfl
def ZHw:=R [0] [I 2 (.mv (.v (.int .u64 0))),K 3 0]
def ZHx:=R [0,6] [M 5 0,I 6 (.eqs false 3 [] (.s 5) (.v .nilptr))]
def ZHy:=R [2,3] [I 2 (.mv (.v (.int .u64 0))),K 3 1]
def ZHz:=R [0,12] [M 7 0,I 8 (.nilck (.s 7)),F 9 0 8,L 10 9,I 11 (.len 1 (.s 10)),W 12 .eql 11 0]
def ZH0:=R [2,3] [I 2 (.mv (.v (.int .u64 0))),K 3 6]
def ZH1:=R [0,4] [M 13 0,I 14 (.nilck (.s 13)),F 15 0 14,L 16 15,M 17 0,I 18 (.nilck (.s 17)),F 19 0 18,L 20 19,I 21 (.len 1 (.s 20)),W 22 .sub 21 1,I 23 (.ixS 1 (.s 16) (.s 22)),L 24 23,M 4 24]
def ZH2:=R [0,4] [M 25 0,M 26 0,I 27 (.nilck (.s 26)),F 28 0 27,L 29 28,M 30 0,I 31 (.nilck (.s 30)),F 32 0 31,L 33 32,I 34 (.len 1 (.s 33)),W 35 .sub 34 1,I 36 (.slc 1 (.s 29) none (some (.s 35))),I 37 (.nilck (.s 25)),F 38 0 37,N 1 38 36]
def ZH3:=R [0,4] [M 39 0,I 40 (.nilck (.s 39)),F 41 1 40,L 42 41,M 43 4,I 44 (.ixS 1 (.s 42) (.s 43)),J (.st 1 (.s 44) (.v (.int .u8 1)))]
def ZH4:=R [2,3] [M 45 4,M 46 0,I 47 (.nilck (.s 46)),F 48 2 47,L 49 48,M 50 4,I 51 (.ixS 1 (.s 49) (.s 50)),L 52 51,I 53 (C ZEm [(.s 45),(.s 52)]),X 54 53 0,X 55 53 1,M 2 54,M 3 55]
def ZBd:PF:=⟨false,
 (D ZHw
 (D (D ZHx
 (E 6
 (D ZHy
 .ret)
 .skip))
 (D (D ZHz
 (E 12
 (D ZH0
 .ret)
 .skip))
 (D ZH1
 (D ZH2
 (D ZH3
 (D ZH4
 .ret))))))),
 [.s 2,.s 3]⟩
theorem ZKX:ck0 false [] ZBd Tryz.f261=some ZBd:=by kernel_rfl
def ZTS:=R [0] [K 2 0,I 3 (.mv (.v (.int .u64 0)))]
def ZTT:=R [2,3] [M 4 0,I 5 (.bin .and (.s 4) (.v (.int .u64 65535))),I 6 (.cint .i64 (.s 5)),M 7 0,I 8 (.bin .shr (.s 7) (.v (.int .u64 16))),M 2 6,M 3 8]
def ZKY:PF:=⟨false,
 (D ZTS
 (D ZTT
 .ret)),
 [.s 2,.s 3]⟩
theorem ZcA:ck0 false [] ZKY Tryz.f263=some ZKY:=by kernel_rfl
end Go.Q15
