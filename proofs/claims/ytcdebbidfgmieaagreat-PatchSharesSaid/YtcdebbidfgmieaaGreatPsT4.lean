/- Resolved code, printed by program. No condition. -/
import Derived.Test.YtcdebbidfgmieaaGreatProg
import Derived.KernelRfl
import Derived.Test.YtcdebbidfgmieaaGreatPsT3
set_option linter.unusedVariables false
set_option linter.unusedSimpArgs false
namespace Go.Q15
open Go Go.QAbs Go.Proofs
set_option maxRecDepth 100000
noncomputable abbrev c0(b:Bool)(h:List Hint)(f:Func):=Zw Proofs.Tryz.prog b h f
def kp0:PC->List (List Nat)
 | .seq a b=>kp0 a++kp0 b
 | .reg k _=>[k]
 | .regH _ k _=>[k]
 | .ite _ a b=>kp0 a++kp0 b
 | .loop b=>kp0 b
 | .block _ b=>kp0 b
 | _=>[]
def hz0(ov:List (Nat × Hint)):Nat->List (List Nat)->List Hint
 | _,[]=>[]
 | n,k::l=>((ov.find? fun p=>p.1==n).map (·.2)).getD ⟨k,[],[],[],[],[]⟩::hz0 ov (n+1) l
def h0(ov:List (Nat × Hint))(p:PF):List Hint:=hz0 ov 0 (kp0 p.body)
def h0R(ov:List (Nat × Hint))(p:RF):List Hint:=hz0 ov 0 (kp0 p.pre++kp0 p.rng.assign++kp0 p.rng.body++kp0 p.post)
noncomputable abbrev ck0 (b:Bool) (o:List (Nat × Hint)) (p:PF) (f:Func):=c0 b (h0 o p) f
abbrev QS:FuncId:=3
abbrev Y7:FuncId:=7
abbrev JE:FuncId:=8
abbrev Yb:FuncId:=9
abbrev Jv:FuncId:=10
abbrev ZAO:FuncId:=11
abbrev YP:FuncId:=12
abbrev Jf:FuncId:=13
abbrev XN:FuncId:=14
abbrev YB:FuncId:=15
abbrev Yu:FuncId:=16
abbrev Xc:FuncId:=25
abbrev X4:FuncId:=30
abbrev X5:FuncId:=31
abbrev YJ:FuncId:=32
abbrev ZA2:FuncId:=33
abbrev Yc:FuncId:=34
abbrev ZAP:FuncId:=35
abbrev Yd:FuncId:=36
abbrev Xd:FuncId:=37
abbrev ZHC:FuncId:=38
abbrev Ye:FuncId:=39
abbrev JN:FuncId:=40
abbrev ZA3:FuncId:=41
abbrev YQ:FuncId:=42
abbrev ZHD:FuncId:=43
abbrev ZAQ:FuncId:=44
abbrev XO:FuncId:=46
abbrev ZAR:FuncId:=47
abbrev Y8:FuncId:=54
abbrev J2:FuncId:=55
abbrev ZaZ:FuncId:=58
abbrev ZDO:FuncId:=59
abbrev ZCj:FuncId:=60
abbrev J7:FuncId:=61
abbrev ZBQ:FuncId:=62
abbrev Q1:FuncId:=63
abbrev ZAS:FuncId:=64
abbrev XP:FuncId:=65
abbrev ZAT:FuncId:=66
abbrev JS:FuncId:=67
abbrev Yn:FuncId:=68
abbrev ZAE:FuncId:=69
abbrev J3:FuncId:=70
abbrev Qb:FuncId:=71
abbrev XQ:FuncId:=72
abbrev Xp:FuncId:=73
abbrev ZBR:FuncId:=74
abbrev JX:FuncId:=79
abbrev YS:FuncId:=80
abbrev Qo:FuncId:=81
abbrev Yq:FuncId:=83
abbrev ZDh:FuncId:=84
abbrev ZCk:FuncId:=87
abbrev ZDP:FuncId:=88
abbrev ZDi:FuncId:=89
abbrev ZDj:FuncId:=90
abbrev ZKS:FuncId:=91
abbrev ZDk:FuncId:=92
abbrev ZHF:FuncId:=93
abbrev JT:FuncId:=94
abbrev YT:FuncId:=95
abbrev YU:FuncId:=96
abbrev ZCl:FuncId:=97
abbrev ZEr:FuncId:=98
abbrev QM:FuncId:=99
abbrev QV:FuncId:=100
abbrev Y9:FuncId:=101
abbrev X6:FuncId:=102
abbrev YC:FuncId:=103
abbrev ZB1:FuncId:=104
abbrev ZAt:FuncId:=105
abbrev Qs:FuncId:=106
abbrev Z8:FuncId:=109
abbrev XA:FuncId:=113
abbrev ZHG:FuncId:=114
abbrev Yo:FuncId:=115
abbrev ZA4:FuncId:=116
abbrev ZHH:FuncId:=117
abbrev ZAU:FuncId:=118
abbrev ZAV:FuncId:=119
abbrev Jr:FuncId:=120
abbrev JO:FuncId:=121
abbrev ZCm:FuncId:=132
abbrev ZCn:FuncId:=133
abbrev ZB2:FuncId:=134
abbrev ZCo:FuncId:=135
abbrev J4:FuncId:=136
abbrev ZAW:FuncId:=137
abbrev ZDl:FuncId:=138
abbrev ZDR:FuncId:=139
abbrev XR:FuncId:=140
abbrev Ji:FuncId:=141
abbrev ZA5:FuncId:=147
abbrev ZEs:FuncId:=148
abbrev ZDm:FuncId:=149
abbrev ZEt:FuncId:=150
abbrev XB:FuncId:=151
abbrev ZDn:FuncId:=153
abbrev Xq:FuncId:=154
abbrev XS:FuncId:=155
abbrev Xr:FuncId:=156
abbrev ZBS:FuncId:=157
abbrev Yf:FuncId:=158
abbrev I(d:Nat)(o:PO):PI:=⟨some d,none,false,o⟩
abbrev G(d g:Nat)(b:Bool)(o:PO):PI:=⟨some d,some (g,b),false,o⟩
abbrev J(o:PO):PI:=⟨none,none,false,o⟩
abbrev C(f:FuncId)(a:List Opd):PO:=.call .norm (.v (.func (.func f) [] [])) a
abbrev H(k:List Nat):Hint:=⟨k,[],[],[],[],[]⟩
abbrev V(i:Int):Opd:=.v (.int .i64 i)
abbrev M(d s:Nat):PI:=I d (.mv (.s s))
abbrev X(d s i:Nat):PI:=I d (.ext (.s s) i)
abbrev L(d s:Nat):PI:=I d (.ld false 1 (.s s))
abbrev T(d n s:Nat):PI:=I d (.ld true n (.s s))
abbrev F(d n s:Nat):PI:=I d (.fadr n (.s s))
abbrev U(d g:Nat)(b:Bool)(s:Nat):PI:=G d g b (.mv (.s s))
abbrev W(d:Nat)(o:BinOp)(s:Nat)(i:Int):PI:=I d (.bin o (.s s) (V i))
abbrev B(d:Nat)(o:BinOp)(s t:Nat):PI:=I d (.bin o (.s s) (.s t))
abbrev K(d:Nat)(i:Int):PI:=I d (.mv (V i))
abbrev N(n a x:Nat):PI:=J (.st n (.s a) (.s x))
abbrev E(c:Nat)(a b:PC):PC:=.ite (.s c) a b
abbrev D(a b:PC):PC:=.seq a b
abbrev R(k:List Nat)(l:List PI):PC:=.reg k l
abbrev ZT:AV:=.agg [(.int .u64 0),(.int .i64 0),(.int .i64 0),(.int .i64 0),(.int .i64 0),(.str []),.nils]
abbrev ZR:AV:=.agg [(.int .u64 0),(.int .i64 0),(.int .i64 0),(.int .i64 0),(.int .i64 0)]
abbrev ZM:AV:=.agg [(.int .i64 0),(.int .i64 0),(.int .i64 0)]
abbrev ZN:AV:=.agg [(.int .i64 0),(.str []),.nils]
abbrev ZK:AV:=.agg [(.int .u64 0),(.int .i64 0),(.int .i64 0),(.int .i64 0)]
def ZB3:=R [0,1,2,3,4,5] [I 12 (.mv (.v (.bool false)))]
def ZB4:=R [0,1,2,3,4,5,37] [M 30 0,M 31 1,I 32 (C Y7 [(.s 30),(.s 31)]),M 33 32,U 34 33 false 5,G 35 33 false (.len 0 (.s 34)),G 36 33 false (.bin .gtr (.s 35) (V 300)),I 37 (.pick (.s 33) (.v (.bool true)) (.s 36))]
def ZB5:=R [12] [I 38 (C JE []),M 12 38]
def ZB6:=R [2,3,4,5,13,14,15,16] [M 40 0,M 41 1,I 42 (C Yb [(.s 40),(.s 41)]),M 39 42,X 43 39 0,X 44 39 1,X 45 39 2,X 46 39 3,M 13 43,M 14 44,M 15 45,M 16 46]
def ZB7:=R [2,3,4,5,13,14,15,48] [M 47 16,I 48 (.un .not (.s 47))]
def ZB8:=R [12] [I 12 (.mv (.v (.bool false)))]
def ZB9:=R [2,3,4,5,13,14,15,51] [M 49 14,I 50 (.len 1 (.s 49)),W 51 .eql 50 0]
def ZCA:=R [12] [I 52 (C JE []),M 12 52]
def ZCB:=R [3,4,5,13,14,15,17] [M 53 2,M 54 14,I 55 (.len 1 (.s 54)),W 56 .sub 55 1,I 57 (C Jv [(.s 53),(.s 56)]),M 17 57]
def ZCC:=R [3,4,5,13,14,15,17] [M 58 3,M 59 15,M 60 17,I 61 (.ixS 1 (.s 59) (.s 60)),L 62 61,I 63 (.len 0 (.s 62)),I 64 (C Jv [(.s 58),(.s 63)]),M 3 64]
def ZBT:=R [3,4,5,13,14,17] [M 65 4,M 66 15,M 67 17,I 68 (.ixS 1 (.s 66) (.s 67)),L 69 68,I 70 (.len 0 (.s 69)),M 71 3,B 72 .sub 70 71,I 73 (C Jv [(.s 65),(.s 72)]),M 4 73]
def ZBU:=R [13,14,17,18,19] [M 75 13,M 76 14,M 77 17,I 78 (.ixS 5 (.s 76) (.s 77)),T 79 5 78,M 80 3,M 81 4,M 82 5,I 83 (C ZAO [(.s 75),(.s 79),(.s 80),(.s 81),(.s 82)]),M 74 83,X 84 74 0,X 85 74 1,I 18 (.box (.v (.agg [(.int .u64 0),(.int .i64 0),(.int .i64 0),(.int .i64 0),(.int .i64 0),.nils,.nils]))),N 7 18 84,M 19 85]
def ZBV:=R [13,14,17,18,19,87] [M 86 19,W 87 .eql 86 6]
def ZBW:=R [12] [I 88 (C JE []),M 12 88]
def ZBX:=R [13,14,17,18,90] [M 89 19,W 90 .neq 89 0]
def ZBY:=R [12] [I 12 (.mv (.v (.bool false)))]
def ZBZ:=R [13,14,17,18,19,20] [M 92 13,M 93 14,M 94 17,I 95 (.ixS 5 (.s 93) (.s 94)),T 96 5 95,F 97 0 18,T 98 5 97,I 99 (C YP [(.s 92),(.s 96),(.s 98)]),M 91 99,X 100 91 0,X 101 91 1,M 20 100,M 19 101]
def ZBa:=R [13,14,17,18,19,20,21,22] [M 103 13,F 104 0 18,T 105 5 104,M 106 14,M 107 17,I 108 (.ixS 5 (.s 106) (.s 107)),T 109 5 108,I 110 (C YP [(.s 103),(.s 105),(.s 109)]),M 102 110,X 111 102 0,X 112 102 1,M 21 111,M 22 112]
def ZBb:=R [13,14,17,18,19,20,21,22,23,24] [M 114 13,M 115 14,M 116 17,I 117 (.ixS 5 (.s 115) (.s 116)),T 118 5 117,F 119 0 18,T 120 5 119,I 121 (C Jf [(.s 114),(.s 118),(.s 120)]),M 113 121,X 122 113 0,X 123 113 1,M 23 122,M 24 123]
def ZBc:=R [13,18,19,20,21,22,23,24,25,26] [M 125 13,M 126 14,M 127 17,I 128 (.ixS 5 (.s 126) (.s 127)),T 129 5 128,I 130 (C XN [(.s 125),(.s 129)]),M 124 130,X 131 124 0,X 132 124 1,M 25 131,M 26 132]
def ZBd:=R [18,19,20,21,22,23,24,25,26,27,28] [M 134 13,F 135 0 18,T 136 5 135,I 137 (C XN [(.s 134),(.s 136)]),M 133 137,X 138 133 0,X 139 133 1,M 27 138,M 28 139]
def ZBe:=R [18,20,25,27,174] [M 140 19,W 141 .neq 140 0,M 142 141,U 143 142 false 22,G 144 142 false (.bin .neq (.s 143) (V 0)),I 145 (.pick (.s 142) (.v (.bool true)) (.s 144)),M 146 145,U 147 146 false 24,G 148 146 false (.bin .neq (.s 147) (V 0)),I 149 (.pick (.s 146) (.v (.bool true)) (.s 148)),M 150 149,U 151 150 false 26,G 152 150 false (.bin .neq (.s 151) (V 0)),I 153 (.pick (.s 150) (.v (.bool true)) (.s 152)),M 154 153,U 155 154 false 28,G 156 154 false (.bin .neq (.s 155) (V 0)),I 157 (.pick (.s 154) (.v (.bool true)) (.s 156)),M 158 157,U 159 158 false 20,U 160 158 false 21,G 161 158 false (C YB [(.s 159),(.s 160)]),G 162 158 false (.un .not (.s 161)),I 163 (.pick (.s 158) (.v (.bool true)) (.s 162)),M 164 163,U 165 164 false 23,G 166 164 false (.fadr 5 (.s 18)),G 167 164 false (.ld false 1 (.s 166)),G 168 164 false (.len 1 (.s 167)),G 169 164 false (.fadr 6 (.s 18)),G 170 164 false (.ld false 1 (.s 169)),G 171 164 false (.len 1 (.s 170)),G 172 164 false (.bin .add (.s 168) (.s 171)),G 173 164 false (.bin .neq (.s 165) (.s 172)),I 174 (.pick (.s 164) (.v (.bool true)) (.s 173))]
def ZBf:=R [12] [I 12 (.mv (.v (.bool false)))]
def ZBg:=R [18,20,25,27,29] [K 29 0]
def ZBh:=R [18,20,25,27,29,178] [M 175 29,M 176 20,I 177 (.len 1 (.s 176)),B 178 .lss 175 177]
def ZBi:=R [18,20,25,27,29,214] [M 181 29,W 182 .gtr 181 0,M 183 182,U 184 183 true 20,U 185 183 true 29,G 186 183 true (.bin .sub (.s 185) (V 1)),G 187 183 true (.ixS 1 (.s 184) (.s 186)),G 188 183 true (.ld false 1 (.s 187)),G 189 183 true (.bin .rem (.s 188) (.v (.int .u64 65536))),U 190 183 true 20,U 191 183 true 29,G 192 183 true (.ixS 1 (.s 190) (.s 191)),G 193 183 true (.ld false 1 (.s 192)),G 194 183 true (.bin .rem (.s 193) (.v (.int .u64 65536))),G 195 183 true (.bin .geq (.s 189) (.s 194)),I 196 (.pick (.s 183) (.s 195) (.v (.bool false))),M 197 196,U 198 197 false 25,U 199 197 false 20,U 200 197 false 29,G 201 197 false (.ixS 1 (.s 199) (.s 200)),G 202 197 false (.ld false 1 (.s 201)),G 203 197 false (C Yu [(.s 198),(.s 202)]),G 204 197 false (.un .not (.s 203)),I 205 (.pick (.s 197) (.v (.bool true)) (.s 204)),M 206 205,U 207 206 false 27,U 208 206 false 20,U 209 206 false 29,G 210 206 false (.ixS 1 (.s 208) (.s 209)),G 211 206 false (.ld false 1 (.s 210)),G 212 206 false (C Yu [(.s 207),(.s 211)]),G 213 206 false (.un .not (.s 212)),I 214 (.pick (.s 206) (.v (.bool true)) (.s 213))]
def ZBj:=R [12] [I 12 (.mv (.v (.bool false)))]
def ZBk:=R [18,20,25,27,29] [M 179 29,W 180 .add 179 1,M 29 180]
def p_quartolaw20_PatchShares_28:PC:=(D (D ZBh
 (E 178
 .skip
 (.exit 0)))
 (D (.block 1
 (D ZBi
 (E 214
 (D ZBj
 .ret)
 .skip)))
 ZBk))
def ZBl:=R [12] [M 215 25,I 216 (.len 1 (.s 215)),M 217 20,I 218 (.len 1 (.s 217)),F 219 6 18,L 220 219,I 221 (.len 1 (.s 220)),B 222 .add 218 221,B 223 .eql 216 222,M 224 223,U 225 224 true 27,G 226 224 true (.len 1 (.s 225)),U 227 224 true 20,G 228 224 true (.len 1 (.s 227)),G 229 224 true (.fadr 5 (.s 18)),G 230 224 true (.ld false 1 (.s 229)),G 231 224 true (.len 1 (.s 230)),G 232 224 true (.bin .add (.s 228) (.s 231)),G 233 224 true (.bin .eql (.s 226) (.s 232)),I 234 (.pick (.s 224) (.s 233) (.v (.bool false))),M 235 234,G 236 235 true (C JE []),I 237 (.pick (.s 235) (.s 236) (.v (.bool false))),M 12 237]
def Qk:PF:=⟨false,
 (D ZB3
 (D (D ZB4
 (E 37
 (D ZB5
 .ret)
 .skip))
 (D ZB6
 (D (D ZB7
 (E 48
 (D ZB8
 .ret)
 .skip))
 (D (D ZB9
 (E 51
 (D ZCA
 .ret)
 .skip))
 (D ZCB
 (D ZCC
 (D ZBT
 (D ZBU
 (D (D ZBV
 (E 87
 (D ZBW
 .ret)
 .skip))
 (D (D ZBX
 (E 90
 (D ZBY
 .ret)
 .skip))
 (D ZBZ
 (D ZBa
 (D ZBb
 (D ZBc
 (D ZBd
 (D (D ZBe
 (E 174
 (D ZBf
 .ret)
 .skip))
 (D (D ZBg
 (.block 0
 (.loop p_quartolaw20_PatchShares_28)))
 (D ZBl
 .ret))))))))))))))))))),
 [.s 12]⟩
theorem ZDH:ck0 false [] Qk Tryz.f3=some Qk:=by kernel_rfl
def ZEu:=R [0,1] [I 4 (.mv (.v (.bool false)))]
def ZEv:=R [4] [M 5 0,I 6 (C X4 [(.s 5)]),M 7 6,U 8 7 false 1,G 9 7 false (C X5 [(.s 8)]),I 10 (.pick (.s 7) (.v (.bool true)) (.s 9)),M 11 10,U 12 11 false 1,G 13 11 false (.len 1 (.s 12)),G 14 11 false (.bin .gtr (.s 13) (V 12)),I 15 (.pick (.s 11) (.v (.bool true)) (.s 14)),M 4 15]
def ZBE:PF:=⟨false,
 (D ZEu
 (D ZEv
 .ret)),
 [.s 4]⟩
theorem ZHK:ck0 false [] ZBE Tryz.f7=some ZBE:=by kernel_rfl
def ZGA:=R [] [I 0 (.mv (.v (.bool false)))]
def ZGB:=R [1,2,3] [I 9 (C YJ []),M 8 9,X 10 8 0,X 11 8 1,X 12 8 2,I 2 (.box (.v ZR)),M 1 10,N 5 2 11,M 3 12]
def ZGC:=R [1,2,14] [M 13 3,I 14 (.un .not (.s 13))]
def ZGD:=R [0] [I 0 (.mv (.v (.bool false)))]
def ZGE:PC:=(.regH [10] [1,2,4,5] [M 16 1,T 17 5 2,I 18 (.call .pin (.v (.func (.func Yc) [] [])) [(V 9)]),I 19 (.call .pin (.v (.func (.func ZAP) [] [])) [(.v (.str [120,121,122]))]),I 20 (.call .pin (.v (.func (.func Yc) [] [])) [(V 8)]),I 21 (.w .imm (.bslice false 3 [(.agg [(.int .u8 0),(.int .i64 0),(.str [])]),(.agg [(.int .u8 0),(.int .i64 0),(.str [])]),(.agg [(.int .u8 0),(.int .i64 0),(.str [])])] [(0,(.s 18)),(1,(.s 19)),(2,(.s 20))])),I 22 (.call .inner (.v (.func (.func ZA2) [] [])) [(.s 16),(.s 17),(.s 21)]),M 15 22,X 23 15 0,X 24 15 1,I 4 (.w (.here 10) (.box (.v (.agg [(.int .u64 0),(.int .i64 0),(.int .i64 0),(.int .i64 0),(.int .i64 0),.nils,.nils])))),N 7 4 23,M 5 24])
def ZGF:=R [5,6,7] [M 26 1,T 27 5 2,F 28 0 4,T 29 5 28,I 30 (C Jf [(.s 26),(.s 27),(.s 29)]),M 25 30,X 31 25 0,X 32 25 1,M 6 31,M 7 32]
def ZGG:=R [0] [M 33 5,W 34 .eql 33 0,M 35 34,U 36 35 true 7,G 37 35 true (.bin .eql (.s 36) (V 0)),I 38 (.pick (.s 35) (.s 37) (.v (.bool false))),M 39 38,U 40 39 true 6,G 41 39 true (.bin .eql (.s 40) (V 4)),I 42 (.pick (.s 39) (.s 41) (.v (.bool false))),M 0 42]
def ZBo:PF:=⟨false,
 (D ZGA
 (D ZGB
 (D (D ZGC
 (E 14
 (D ZGD
 .ret)
 .skip))
 (D ZGE
 (D ZGF
 (D ZGG
 .ret)))))),
 [.s 0]⟩
theorem ZJE:ck0 false [(4,⟨[1,2,4,5],[],[(6,.inner),(4,.pin),(3,.pin),(2,.pin)],[],[(10,(.here 10)),(5,.imm)],[10]⟩)] ZBo Tryz.f8=some ZBo:=by kernel_rfl
def ZHL:=R [0,1] [I 4 (.mv (.v .nilptr)),I 5 (.mv (.v .nils)),I 6 (.mv (.v .nils)),I 7 (.mv (.v (.bool false)))]
def ZHM:=R [0,1,8,9,10] [M 20 0,I 21 (C Yd [(.s 20)]),M 19 21,X 22 19 0,X 23 19 1,X 24 19 2,M 8 22,M 9 23,M 10 24]
def ZHN:=R [0,1,8,9,26] [M 25 10,I 26 (.un .not (.s 25))]
def ZHO:=R [4,5,6,7] [I 4 (.mv (.v .nilptr)),I 5 (.mv (.v .nils)),I 6 (.mv (.v .nils)),I 7 (.mv (.v (.bool false)))]
def ZHP:=R [1,8,9,11] [I 27 (.bslice false 1 [] []),M 28 0,I 29 (.app 1 16 (.s 27) (.s 28)),M 11 29]
def ZHQ:=R [1,8,9,11,12] [K 12 0]
def ZHR:=R [1,8,9,11,12,33] [M 30 12,M 31 1,I 32 (.len 1 (.s 31)),B 33 .lss 30 32]
def ZHS:=R [1,8,9,11,12,13,14] [M 37 8,M 38 9,M 39 1,M 40 12,M 41 12,W 42 .add 41 1,I 43 (.slc 5 (.s 39) (some (.s 40)) (some (.s 42))),I 44 (C Xd [(.s 37),(.s 38),(.s 43)]),M 36 44,X 45 36 0,X 46 36 1,M 13 45,M 14 46]
def ZHT:=R [1,8,9,11,12,13,48] [M 47 14,I 48 (.un .not (.s 47))]
def ZHU:=R [4,5,6,7] [I 4 (.mv (.v .nilptr)),I 5 (.mv (.v .nils)),I 6 (.mv (.v .nils)),I 7 (.mv (.v (.bool false)))]
def ZGH:=R [1,8,9,11,12,13,15,16] [M 50 8,M 51 13,I 52 (.ixS 7 (.s 51) (V 0)),T 53 7 52,I 54 (C ZHC [(.s 50),(.s 53)]),M 49 54,X 55 49 0,X 56 49 1,M 15 55,M 16 56]
def ZGI:=R [1,8,9,11,12,13,15,58] [M 57 16,W 58 .neq 57 0]
def ZGJ:=R [4,5,6,7] [I 4 (.mv (.v .nilptr)),I 5 (.mv (.v .nils)),I 6 (.mv (.v .nils)),I 7 (.mv (.v (.bool false)))]
def ZGK:=R [1,8,9,11,12,15,16,17] [M 60 8,M 61 13,I 62 (.ixS 7 (.s 61) (V 0)),T 63 7 62,I 64 (C Ye [(.s 60),(.s 63)]),M 59 64,X 65 59 0,X 66 59 1,X 67 59 2,I 17 (.box (.v ZR)),N 5 17 65,M 18 66,M 16 67]
def ZGL:=R [1,8,9,11,12,15,16,17,69] [M 68 16,W 69 .eql 68 6]
def ZGM:=R [1,8,9,11,12,15,17,71] [M 70 16,W 71 .neq 70 0]
def ZGN:=R [4,5,6,7] [I 4 (.mv (.v .nilptr)),I 5 (.mv (.v .nils)),I 6 (.mv (.v .nils)),I 7 (.mv (.v (.bool false)))]
def ZGO:=R [1,8,9,11,12,15] [M 72 9,T 73 5 17,I 74 (.bslice false 5 [ZR] [(0,(.s 73))]),I 75 (.app 5 40 (.s 72) (.s 74)),M 9 75]
def ZGP:=R [1,8,9,11,12] [M 76 11,M 77 15,I 78 (.bslice false 1 [(.str [])] [(0,(.s 77))]),I 79 (.app 1 16 (.s 76) (.s 78)),M 11 79]
def ZGQ:=R [1,8,9,11,12] [M 34 12,W 35 .add 34 1,M 12 35]
def ZGR:PC:=(D (D ZHR
 (E 33
 .skip
 (.exit 0)))
 (D (.block 1
 (D ZHS
 (D (D ZHT
 (E 48
 (D ZHU
 .ret)
 .skip))
 (D ZGH
 (D (D ZGI
 (E 58
 (D ZGJ
 .ret)
 .skip))
 (D ZGK
 (D (D ZGL
 (E 69
 (.exit 1)
 .skip))
 (D (D ZGM
 (E 71
 (D ZGN
 .ret)
 .skip))
 (D ZGO
 ZGP)))))))))
 ZGQ))
def ZGS:=R [4,5,6,7] [M 80 8,M 81 9,M 82 11,M 4 80,M 5 81,M 6 82,I 7 (.mv (.v (.bool true)))]
def X7:PF:=⟨true,
 (D ZHL
 (D ZHM
 (D (D ZHN
 (E 26
 (D ZHO
 .ret)
 .skip))
 (D ZHP
 (D (D ZHQ
 (.block 0
 (.loop ZGR)))
 (D ZGS
 .ret)))))),
 [.s 4,.s 5,.s 6,.s 7]⟩
theorem ZKV:ck0 true [] X7 Tryz.f9=some X7:=by kernel_rfl
def ZHV:=R [0,1] [K 4 0]
def ZHW:=R [4] [M 5 0,M 6 1,I 7 (C JN [(.s 5),(.s 6)]),M 4 7]
def ZCp:PF:=⟨false,
 (D ZHV
 (D ZHW
 .ret)),
 [.s 4]⟩
theorem ZKX:ck0 false [] ZCp Tryz.f10=some ZCp:=by kernel_rfl
def ZO3:=R [5,6,7,8,9,10] [I 5 (.box (.s 0)),I 6 (.box (.s 1)),I 7 (.box (.s 2)),I 8 (.box (.s 3)),I 9 (.box (.s 4)),I 10 (.box (.v (.agg [(.int .u64 0),(.int .i64 0),(.int .i64 0),(.int .i64 0),(.int .i64 0),.nils,.nils]))),K 11 0]
def ZO4:=R [10,11] [L 12 5,I 13 (.mkf (.func YQ) [] [(.s 5),(.s 6),(.s 7),(.s 8),(.s 9)]),T 14 5 6,I 15 (.bslice false 5 [ZR] [(0,(.s 14))]),I 16 (C ZA3 [(.s 12),(.s 13),(.s 15)]),X 17 16 0,X 18 16 1,N 7 10 17,M 11 18]
def ZHX:PF:=⟨false,
 (D ZO3
 (D ZO4
 .ret)),
 [.c 10 true 7,.s 11]⟩
theorem ZWw:ck0 false [] ZHX Tryz.f11=some ZHX:=by kernel_rfl
def ZWx:=R [0,3,20] [I 3 (.box (.s 1)),I 4 (.mv (.v .nils)),K 5 0]
def ZWy:=R [0,3,6,20] [M 10 0,T 11 5 3,I 12 (C XO [(.s 10),(.s 11)]),M 6 12]
def ZWz:=R [0,3,6,14,20] [M 13 6,W 14 .neq 13 0]
def ZW0:=R [4,5] [M 15 6,I 4 (.mv (.v .nils)),M 5 15]
def ZW1:=R [0,3,7,20] [I 7 (.boxnil 1)]
def ZW2:=R [0,3,7,8,20] [I 16 (.mkmap),I 8 (.box (.v .nilmap)),N 1 8 16]
def ZW3:=R [7,8,19,20] [M 17 0,T 18 5 3,I 19 (C ZAR [(.s 17),(.s 18)])]
def ZW4:=R [7,8,9] [M 9 20]
def ZW5:=R [7,8,9,25] [L 22 8,M 23 9,I 24 (.look 0 (.bool false) false (.s 22) (.s 23)),I 25 (.un .not (.s 24))]
def ZW6:=R [7,9] [L 26 8,M 27 9,J (.mupd 0 (.s 26) (.s 27) (.v (.bool true)))]
def ZSX:=R [7] [L 28 7,M 29 9,I 30 (.bslice false 1 [(.int .u64 0)] [(0,(.s 29))]),I 31 (.app 1 8 (.s 28) (.s 30)),N 1 7 31]
def ZSY:=R [4,5] [L 32 7,M 4 32,K 5 0]
def p_rope_Nodes:RF:=⟨33,
 (D ZWx
 (D (D ZWy
 (D ZWz
 (E 14
 (D ZW0
 .ret)
 .skip)))
 (D ZW1
 (D ZW2
 (D ZW3
 .skip))))),
 ⟨(.s 19),[20,21],
 ZW4,
 (.block 1
 (D ZW5
 (E 25
 (D ZW6
 ZSX)
 .skip)))⟩,
 (D .skip
 (D ZSY
 .ret)),
 [.s 4,.s 5]⟩
theorem ZeX:ZWn Proofs.Tryz.prog (h0R [(4,⟨[0,3,7,20],[0],[],[],[],[]⟩)] p_rope_Nodes) Proofs.Tryz.f14=some p_rope_Nodes:=by kernel_rfl
def ZCq:=R [0,1] [I 4 (.mv (.v (.bool false)))]
def ZCr:=R [0,1,10] [M 6 0,I 7 (.len 1 (.s 6)),M 8 1,I 9 (.len 1 (.s 8)),B 10 .neq 7 9]
def ZCs:=R [4] [I 4 (.mv (.v (.bool false)))]
def ZCt:=R [0,1,5] [K 5 0]
def ZCu:=R [0,1,5,14] [M 11 5,M 12 0,I 13 (.len 1 (.s 12)),B 14 .lss 11 13]
def ZCv:=R [0,1,5,25] [M 17 0,M 18 5,I 19 (.ixS 1 (.s 17) (.s 18)),L 20 19,M 21 1,M 22 5,I 23 (.ixS 1 (.s 21) (.s 22)),L 24 23,B 25 .neq 20 24]
def ZCw:=R [4] [I 4 (.mv (.v (.bool false)))]
def ZCx:=R [0,1,5] [M 15 5,W 16 .add 15 1,M 5 16]
def ZCy:PC:=(D (D ZCu
 (E 14
 .skip
 (.exit 0)))
 (D (.block 1
 (D ZCv
 (E 25
 (D ZCw
 .ret)
 .skip)))
 ZCx))
def ZCz:=R [4] [I 4 (.mv (.v (.bool true)))]
def Xg:PF:=⟨false,
 (D ZCq
 (D (D ZCr
 (E 10
 (D ZCs
 .ret)
 .skip))
 (D (D ZCt
 (.block 0
 (.loop ZCy)))
 (D ZCz
 .ret)))),
 [.s 4]⟩
theorem ZDp:ck0 false [] Xg Tryz.f15=some Xg:=by kernel_rfl
def ZJF:=R [0,1] [I 4 (.mv (.v (.bool false)))]
def ZJG:=R [0,1,5] [K 5 0]
def ZJH:=R [0,1,5,9] [M 6 5,M 7 0,I 8 (.len 1 (.s 7)),B 9 .lss 6 8]
def ZJI:=R [0,1,5,17] [M 12 0,M 13 5,I 14 (.ixS 1 (.s 12) (.s 13)),L 15 14,M 16 1,B 17 .eql 15 16]
def ZJJ:=R [4] [I 4 (.mv (.v (.bool true)))]
def ZJK:=R [0,1,5] [M 10 5,W 11 .add 10 1,M 5 11]
def ZJL:PC:=(D (D ZJH
 (E 9
 .skip
 (.exit 0)))
 (D (.block 1
 (D ZJI
 (E 17
 (D ZJJ
 .ret)
 .skip)))
 ZJK))
def ZJM:=R [4] [I 4 (.mv (.v (.bool false)))]
def ZDS:PF:=⟨false,
 (D ZJF
 (D (D ZJG
 (.block 0
 (.loop ZJL)))
 (D ZJM
 .ret))),
 [.s 4]⟩
theorem ZL7:ck0 false [] ZDS Tryz.f16=some ZDS:=by kernel_rfl
def ZGT:=R [0,2] [I 2 (.box (.v (.agg [(.int .i64 0),(.int .i64 0),(.int .i64 0),(.int .i64 0),(.int .i64 0),(.int .i64 0),(.int .i64 0)])))]
def ZGU:=R [0,2,4] [M 3 0,I 4 (.eqs false 3 [] (.s 3) (.v .nilptr))]
def ZGV:=R [2] [I 5 (.build [(.int .i64 0),(.int .i64 0),(.int .i64 0),(.int .i64 0),(.int .i64 0),(.int .i64 0),(.int .i64 0)] []),N 7 2 5]
def ZGW:=R [2] [M 6 0,I 7 (.nilck (.s 6)),F 8 0 7,L 9 8,M 10 0,I 11 (.nilck (.s 10)),F 12 1 11,L 13 12,I 14 (.call .pure (.v (.func (.func Y8) [] [])) [(.s 13)]),I 15 (.len 1 (.s 14)),M 16 0,I 17 (.nilck (.s 16)),F 18 2 17,L 19 18,I 20 (.len 2 (.s 19)),M 21 0,I 22 (.nilck (.s 21)),F 23 1 22,L 24 23,I 25 (.call .pure (.v (.func (.func J2) [] [])) [(.s 24)]),I 26 (.len 1 (.s 25)),M 27 0,I 28 (.nilck (.s 27)),F 29 3 28,L 30 29,M 31 0,I 32 (.nilck (.s 31)),F 33 4 32,L 34 33,M 35 0,I 36 (.nilck (.s 35)),F 37 5 36,L 38 37,I 39 (.build [(.int .i64 0),(.int .i64 0),(.int .i64 0),(.int .i64 0),(.int .i64 0),(.int .i64 0),(.int .i64 0)] [(0,1,(.s 9)),(1,1,(.s 15)),(2,1,(.s 20)),(3,1,(.s 26)),(4,1,(.s 30)),(5,1,(.s 34)),(6,1,(.s 38))]),N 7 2 39]
def ZBp:PF:=⟨false,
 (D ZGT
 (D (D ZGU
 (E 4
 (D ZGV
 .ret)
 .skip))
 (D ZGW
 .ret))),
 [.c 2 true 7]⟩
theorem ZJO:ck0 false [(3,⟨[2],[],[(8,.pure),(19,.pure)],[],[],[]⟩)] ZBp Tryz.f25=some ZBp:=by kernel_rfl
def ZHY:=R [0] [I 2 (.mv (.v (.bool false)))]
def ZHZ:=R [0,3] [K 3 0]
def ZHa:=R [0,3,4] [K 4 0]
def ZHb:=R [0,3,4,12] [M 5 4,M 6 0,I 7 (.len 1 (.s 6)),B 8 .lss 5 7,M 9 8,U 10 9 true 3,G 11 9 true (.bin .leq (.s 10) (V 900)),I 12 (.pick (.s 9) (.s 11) (.v (.bool false)))]
def ZHc:=R [0,3,4] [M 15 3,M 16 0,M 17 4,I 18 (.ixS 1 (.s 16) (.s 17)),L 19 18,I 20 (.len 0 (.s 19)),I 21 (.mnx false (.s 20) (V 1000)),B 22 .add 15 21,M 3 22]
def ZHd:=R [0,3,4] [M 13 4,W 14 .add 13 1,M 4 14]
def ZHe:PC:=(D (D ZHb
 (E 12
 .skip
 (.exit 0)))
 (D (.block 1
 ZHc)
 ZHd))
def ZHf:=R [2] [M 23 0,I 24 (.len 1 (.s 23)),W 25 .gtr 24 4,M 26 25,U 27 26 false 3,G 28 26 false (.bin .gtr (.s 27) (V 900)),I 29 (.pick (.s 26) (.v (.bool true)) (.s 28)),M 2 29]
def ZC0:PF:=⟨false,
 (D ZHY
 (D ZHZ
 (D (D ZHa
 (.block 0
 (.loop ZHe)))
 (D ZHf
 .ret)))),
 [.s 2]⟩
theorem ZKZ:ck0 false [] ZC0 Tryz.f30=some ZC0:=by kernel_rfl
def ZHg:=R [0] [I 2 (.mv (.v (.bool false)))]
def ZHh:=R [0,3] [K 3 0]
def ZHi:=R [0,3,11] [M 4 3,M 5 0,I 6 (.len 1 (.s 5)),B 7 .lss 4 6,M 8 7,U 9 8 true 3,G 10 8 true (.bin .lss (.s 9) (V 100)),I 11 (.pick (.s 8) (.s 10) (.v (.bool false)))]
def ZHj:=R [0,3,20] [M 14 0,M 15 3,I 16 (.ixS 5 (.s 14) (.s 15)),F 17 4 16,L 18 17,I 19 (.len 0 (.s 18)),W 20 .gtr 19 200]
def ZHk:=R [2] [I 2 (.mv (.v (.bool true)))]
def ZHl:=R [0,3] [M 12 3,W 13 .add 12 1,M 3 13]
def ZHm:PC:=(D (D ZHi
 (E 11
 .skip
 (.exit 0)))
 (D (.block 1
 (D ZHj
 (E 20
 (D ZHk
 .ret)
 .skip)))
 ZHl))
def ZHn:=R [2] [M 21 0,I 22 (.len 1 (.s 21)),W 23 .gtr 22 60,M 2 23]
def ZC1:PF:=⟨false,
 (D ZHg
 (D (D ZHh
 (.block 0
 (.loop ZHm)))
 (D ZHn
 .ret))),
 [.s 2]⟩
theorem ZKb:ck0 false [] ZC1 Tryz.f31=some ZC1:=by kernel_rfl
def ZGX:=R [1] [I 0 (.mv (.v .nilptr)),I 1 (.box (.v ZR)),I 2 (.mv (.v (.bool false)))]
def ZGY:=R [1,3,4] [I 7 (C ZDO [(V 8),(.v (.int .u64 4))]),M 6 7,X 8 6 0,X 9 6 1,M 3 8,M 4 9]
def ZGZ:=R [1,3,15] [M 10 3,I 11 (.eqs false 3 [] (.s 10) (.v .nilptr)),M 12 11,U 13 12 false 4,G 14 12 false (.bin .neq (.s 13) (V 0)),I 15 (.pick (.s 12) (.v (.bool true)) (.s 14))]
def ZGa:=R [0,1,2] [I 16 (.build [(.int .u64 0),(.int .i64 0),(.int .i64 0),(.int .i64 0),(.int .i64 0)] []),I 0 (.mv (.v .nilptr)),N 5 1 16,I 2 (.mv (.v (.bool false)))]
def ZGb:=R [1,3,4,5] [M 18 3,I 19 (C ZCj [(.s 18),(.v (.str [97,98,99,100,101,102,103,104,105,106,107,108,109,110,111,112,113]))]),M 17 19,X 20 17 0,X 21 17 1,I 5 (.box (.v ZR)),N 5 5 20,M 4 21]
def ZGc:=R [0,1,2] [M 22 3,T 23 5 5,M 24 4,W 25 .eql 24 0,M 26 25,G 27 26 true (.fadr 0 (.s 5)),G 28 26 true (.w (.hide [(.s 1)]) (.ld false 1 (.s 27))),G 29 26 true (.bin .eql (.s 28) (.v (.int .u64 65538))),I 30 (.pick (.s 26) (.s 29) (.v (.bool false))),M 0 22,J (.w (.plain (.s 1)) (.st 5 (.s 1) (.s 23))),M 2 30]
def ZBq:PF:=⟨true,
 (D ZGX
 (D ZGY
 (D (D ZGZ
 (E 15
 (D ZGa
 .ret)
 .skip))
 (D ZGb
 (D ZGc
 .ret))))),
 [.s 0,.c 1 true 5,.s 2]⟩
theorem ZJQ:ck0 true [(5,⟨[0,1,2],[],[],[],[(6,(.hide [(.s 1)])),(10,(.plain (.s 1)))],[]⟩)] ZBq Tryz.f32=some ZBq:=by kernel_rfl
def ZSZ:=R [0,2,4,6] [I 4 (.box (.s 1)),I 6 (.box (.v (.agg [(.int .u64 0),(.int .i64 0),(.int .i64 0),(.int .i64 0),(.int .i64 0),.nils,.nils]))),K 7 0]
def ZSa:=R [0,2,4,6,8,9] [M 20 0,T 21 5 4,I 22 (C J7 [(.s 20),(.s 21)]),M 19 22,X 23 19 0,X 24 19 1,I 8 (.box (.v ZT)),N 7 8 23,M 9 24]
def ZSb:=R [0,2,4,6,8,9,26] [M 25 9,W 26 .neq 25 0]
def ZSc:=R [6,7] [I 27 (.build [(.int .u64 0),(.int .i64 0),(.int .i64 0),(.int .i64 0),(.int .i64 0),.nils,.nils] []),M 28 9,N 7 6 27,M 7 28]
def ZSd:=R [0,2,4,6,8,9,10,11] [M 30 2,I 31 (C ZBQ [(.s 30)]),M 29 31,X 32 29 0,X 33 29 1,X 34 29 2,M 10 32,M 11 33,M 9 34]
def ZSe:=R [0,2,4,6,8,9,10,11,35] [M 36 9,W 37 .neq 36 0,M 35 37]
def ZSf:=R [6,7] [I 38 (.build [(.int .u64 0),(.int .i64 0),(.int .i64 0),(.int .i64 0),(.int .i64 0),.nils,.nils] []),M 39 9,N 7 6 38,M 7 39]
def ZSg:=R [0,2,4,6,8,11,40] [M 41 10,F 42 2 4,F 43 0 42,L 44 43,B 45 .neq 41 44,M 40 45]
def ZSh:=R [6,7] [I 46 (.build [(.int .u64 0),(.int .i64 0),(.int .i64 0),(.int .i64 0),(.int .i64 0),.nils,.nils] []),N 7 6 46,K 7 21]
def ZSi:=R [0,2,4,6,8,47] [M 48 11,W 49 .gtr 48 65536,M 47 49]
def ZO5:=R [6,7] [I 50 (.build [(.int .u64 0),(.int .i64 0),(.int .i64 0),(.int .i64 0),(.int .i64 0),.nils,.nils] []),N 7 6 50,K 7 5]
def ZO6:=R [0,2,4,6,12] [M 51 0,T 52 7 8,I 53 (.build [.nilptr,(.int .u64 0),(.int .i64 0),(.int .i64 0),(.int .i64 0),(.int .i64 0),(.str []),.nils,(.int .u64 0),(.int .i64 0),(.int .i64 0),(.int .i64 0),(.int .i64 0),(.str []),.nils] [(0,1,(.s 51)),(8,7,(.s 52))]),I 54 (.box (.s 53)),M 12 54]
def ZO7:=R [0,4,6,12,55,56,57] [M 55 2,I 56 (.len 1 (.s 55)),K 57 0]
def ZO8:=R [0,4,6,12,55,56,57,58] [B 58 .lss 57 56]
def ZO9:=R [0,4,6,12,14,55,56,57] [I 59 (.ixS 3 (.s 55) (.s 57)),T 60 3 59,I 14 (.box (.v (.agg [(.int .u8 0),(.int .i64 0),(.str [])]))),N 3 14 60]
def ZPA:=R [0,4,6,12,15,55,56,57] [M 61 12,T 62 3 14,I 63 (C Q1 [(.s 61),(.s 62)]),M 15 63]
def ZPB:=R [0,4,6,12,15,55,56,57,65] [M 64 15,W 65 .neq 64 0]
def ZPC:=R [6,7] [I 66 (.build [(.int .u64 0),(.int .i64 0),(.int .i64 0),(.int .i64 0),(.int .i64 0),.nils,.nils] []),M 67 15,N 7 6 66,M 7 67]
def ZPD:=R [0,4,6,12,55,56,57] [W 68 .add 57 1,M 57 68]
def ZPE:PC:=(D ZO8
 (D (E 58
 .skip
 (.exit 1))
 (D (.block 2
 (D ZO9
 (D ZPA
 (D ZPB
 (E 65
 (D ZPC
 .ret)
 .skip)))))
 ZPD)))
def ZPF:=R [0,6,9,12,16] [M 70 0,T 71 5 4,M 72 12,I 73 (.nilck (.s 72)),F 74 1 73,T 75 7 74,I 76 (C ZAS [(.s 70),(.s 71),(.s 75)]),M 69 76,X 77 69 0,X 78 69 1,M 16 77,M 9 78]
def ZPG:=R [0,6,9,12,16,80] [M 79 9,W 80 .neq 79 0]
def ZPH:=R [6,7] [I 81 (.build [(.int .u64 0),(.int .i64 0),(.int .i64 0),(.int .i64 0),(.int .i64 0),.nils,.nils] []),M 82 9,N 7 6 81,M 7 82]
def ZPI:=R [6,9,16,17,18] [M 84 0,M 85 12,I 86 (.nilck (.s 85)),F 87 1 86,T 88 7 87,I 89 (C Ye [(.s 84),(.s 88)]),M 83 89,X 90 83 0,X 91 83 1,X 92 83 2,I 17 (.box (.v ZR)),N 5 17 90,M 18 91,M 9 92]
def ZPJ:=R [6,9,16,17,18,94] [M 93 9,W 94 .neq 93 0]
def ZPK:=R [6,7] [I 95 (.build [(.int .u64 0),(.int .i64 0),(.int .i64 0),(.int .i64 0),(.int .i64 0),.nils,.nils] []),M 96 9,N 7 6 95,M 7 96]
def ZPL:=R [6,7] [T 97 5 17,M 98 18,M 99 16,I 100 (.build [(.int .u64 0),(.int .i64 0),(.int .i64 0),(.int .i64 0),(.int .i64 0),.nils,.nils] [(0,5,(.s 97)),(5,1,(.s 98)),(6,1,(.s 99))]),N 7 6 100,K 7 0]
def ZJs:PF:=⟨false,
 (D ZSZ
 (D ZSa
 (D (D ZSb
 (E 26
 (D ZSc
 .ret)
 .skip))
 (D ZSd
 (D (.block 0
 (D ZSe
 (E 35
 (D ZSf
 .ret)
 (D ZSg
 (E 40
 (D ZSh
 .ret)
 (D ZSi
 (E 47
 (D ZO5
 .ret)
 .skip)))))))
 (D ZO6
 (D (D ZO7
 (.block 1
 (.loop ZPE)))
 (D ZPF
 (D (D ZPG
 (E 80
 (D ZPH
 .ret)
 .skip))
 (D ZPI
 (D (D ZPJ
 (E 94
 (D ZPK
 .ret)
 .skip))
 (D ZPL
 .ret)))))))))))),
 [.c 6 true 7,.s 7]⟩
theorem Zab:ck0 false [] ZJs Tryz.f33=some ZJs:=by kernel_rfl
def ZHo:=R [0,2] [I 2 (.box (.v (.agg [(.int .u8 0),(.int .i64 0),(.str [])])))]
def ZHp:=R [2] [M 3 0,I 4 (.build [(.int .u8 0),(.int .i64 0),(.str [])] [(0,1,(.v (.int .u8 1))),(1,1,(.s 3))]),N 3 2 4]
def ZC2:PF:=⟨false,
 (D ZHo
 (D ZHp
 .ret)),
 [.c 2 true 3]⟩
theorem ZKd:ck0 false [] ZC2 Tryz.f34=some ZC2:=by kernel_rfl
def ZJR:=R [0,2] [I 2 (.box (.v (.agg [(.int .u8 0),(.int .i64 0),(.str [])])))]
def ZJS:=R [2] [M 3 0,I 4 (.build [(.int .u8 0),(.int .i64 0),(.str [])] [(0,1,(.v (.int .u8 2))),(2,1,(.s 3))]),N 3 2 4]
def ZDT:PF:=⟨false,
 (D ZJR
 (D ZJS
 .ret)),
 [.c 2 true 3]⟩
theorem ZL9:ck0 false [] ZDT Tryz.f35=some ZDT:=by kernel_rfl
def ZHq:=R [0] [I 2 (.mv (.v .nilptr)),I 3 (.mv (.v .nils)),I 4 (.mv (.v (.bool false)))]
def ZHr:=R [0,5,6] [I 12 (C ZDO [(V 1500),(.v (.int .u64 3))]),M 11 12,X 13 11 0,X 14 11 1,M 5 13,M 6 14]
def ZHs:=R [0,5,20] [M 15 5,I 16 (.eqs false 3 [] (.s 15) (.v .nilptr)),M 17 16,U 18 17 false 6,G 19 17 false (.bin .neq (.s 18) (V 0)),I 20 (.pick (.s 17) (.v (.bool true)) (.s 19))]
def ZHt:=R [2,3,4] [I 2 (.mv (.v .nilptr)),I 3 (.mv (.v .nils)),I 4 (.mv (.v (.bool false)))]
def ZHu:=R [0,5,7] [I 7 (.onil 5)]
def ZHv:=R [0,5,7,8] [K 8 0]
def ZHw:=R [0,5,7,8,24] [M 21 8,M 22 0,I 23 (.len 1 (.s 22)),B 24 .lss 21 23]
def ZHx:=R [0,5,7,8,9,10] [M 28 5,M 29 0,M 30 8,I 31 (.ixS 1 (.s 29) (.s 30)),L 32 31,I 33 (C ZCj [(.s 28),(.s 32)]),M 27 33,X 34 27 0,X 35 27 1,I 9 (.box (.v ZR)),N 5 9 34,M 10 35]
def ZHy:=R [0,5,7,8,9,37] [M 36 10,W 37 .neq 36 0]
def ZHz:=R [2,3,4] [I 2 (.mv (.v .nilptr)),I 3 (.mv (.v .nils)),I 4 (.mv (.v (.bool false)))]
def ZGd:=R [0,5,7,8] [M 38 7,T 39 5 9,I 40 (.bslice false 5 [ZR] [(0,(.s 39))]),I 41 (.app 5 40 (.s 38) (.s 40)),M 7 41]
def ZGe:=R [0,5,7,8] [M 25 8,W 26 .add 25 1,M 8 26]
def ZGf:PC:=(D (D ZHw
 (E 24
 .skip
 (.exit 0)))
 (D (.block 1
 (D ZHx
 (D (D ZHy
 (E 37
 (D ZHz
 .ret)
 .skip))
 ZGd)))
 ZGe))
def ZGg:=R [2,3,4] [M 42 5,M 43 7,M 2 42,M 3 43,I 4 (.mv (.v (.bool true)))]
def ZC3:PF:=⟨true,
 (D ZHq
 (D ZHr
 (D (D ZHs
 (E 20
 (D ZHt
 .ret)
 .skip))
 (D ZHu
 (D (D ZHv
 (.block 0
 (.loop ZGf)))
 (D ZGg
 .ret)))))),
 [.s 2,.s 3,.s 4]⟩
theorem ZKf:ck0 true [(4,⟨[0,5,7],[0],[],[],[],[]⟩)] ZC3 Tryz.f36=some ZC3:=by kernel_rfl
def ZGh:=R [0,1,2] [I 6 (.mv (.v .nils)),I 7 (.mv (.v (.bool false)))]
def ZGi:=R [0,1,2,8] [I 8 (.onil 7)]
def ZGj:=R [0,1,2,8,9] [K 9 0]
def ZGk:=R [0,1,2,8,9,19] [M 16 9,M 17 2,I 18 (.len 1 (.s 17)),B 19 .lss 16 18]
def ZGl:=R [0,1,2,8,9,24] [M 22 1,I 23 (.len 1 (.s 22)),W 24 .eql 23 0]
def ZGm:=R [0,1,2,8,9,10,11] [M 26 2,M 27 9,I 28 (.ixS 5 (.s 26) (.s 27)),F 29 4 28,L 30 29,I 31 (C XP [(.s 30)]),M 25 31,X 32 25 0,X 33 25 1,I 10 (.box (.v ZT)),N 7 10 32,M 11 33]
def ZGn:=R [0,1,2,8,9,10,35] [M 34 11,W 35 .neq 34 0]
def ZGo:=R [6,7] [I 6 (.mv (.v .nils)),I 7 (.mv (.v (.bool false)))]
def ZGp:=R [0,1,2,8,9] [M 36 8,T 37 7 10,I 38 (.bslice false 7 [ZT] [(0,(.s 37))]),I 39 (.app 7 80 (.s 36) (.s 38)),M 8 39]
def ZGq:=R [0,1,2,8,9,12] [M 40 1,M 41 2,M 42 9,I 43 (.ixS 5 (.s 41) (.s 42)),F 44 1 43,L 45 44,M 46 1,I 47 (.len 1 (.s 46)),W 48 .sub 47 1,I 49 (C JN [(.s 45),(.s 48)]),I 50 (.ixS 5 (.s 40) (.s 49)),T 51 5 50,I 12 (.box (.v ZR)),N 5 12 51]
def ZEw:=R [0,1,2,8,9,12,13,14] [M 53 0,T 54 5 12,I 55 (C J7 [(.s 53),(.s 54)]),M 52 55,X 56 52 0,X 57 52 1,I 13 (.box (.v ZT)),N 7 13 56,M 14 57]
def ZEx:=R [0,1,2,8,9,12,13,59] [M 58 14,W 59 .neq 58 0]
def ZEy:=R [6,7] [I 6 (.mv (.v .nils)),I 7 (.mv (.v (.bool false)))]
def ZEz:=R [0,1,2,8,9,12,13,15] [M 60 2,M 61 9,I 62 (.ixS 5 (.s 60) (.s 61)),F 63 2 62,L 64 63,F 65 2 12,F 66 0 65,L 67 66,I 68 (C JN [(.s 64),(.s 67)]),M 15 68]
def ZE0:=R [0,1,2,8,9,13,14] [M 70 0,T 71 7 13,M 72 15,M 73 2,M 74 9,I 75 (.ixS 5 (.s 73) (.s 74)),F 76 3 75,L 77 76,F 78 2 12,F 79 0 78,L 80 79,M 81 15,B 82 .sub 80 81,I 83 (.call .pure (.v (.func (.func JN) [] [])) [(.s 77),(.s 82)]),M 84 2,M 85 9,I 86 (.ixS 5 (.s 84) (.s 85)),F 87 4 86,L 88 87,I 89 (C ZAT [(.s 70),(.s 71),(.s 72),(.s 83),(.s 88)]),M 69 89,X 90 69 0,X 91 69 1,N 7 13 90,M 14 91]
def ZE1:=R [0,1,2,8,9,13,93] [M 92 14,W 93 .neq 92 0]
def ZE2:=R [6,7] [I 6 (.mv (.v .nils)),I 7 (.mv (.v (.bool false)))]
def ZE3:=R [0,1,2,8,9] [M 94 8,T 95 7 13,I 96 (.bslice false 7 [ZT] [(0,(.s 95))]),I 97 (.app 7 80 (.s 94) (.s 96)),M 8 97]
def ZE4:=R [0,1,2,8,9] [M 20 9,W 21 .add 20 1,M 9 21]
def ZE5:PC:=(D (D ZGk
 (E 19
 .skip
 (.exit 0)))
 (D (.block 1
 (D (D ZGl
 (E 24
 (D ZGm
 (D (D ZGn
 (E 35
 (D ZGo
 .ret)
 .skip))
 (D ZGp
 (.exit 1))))
 .skip))
 (D ZGq
 (D ZEw
 (D (D ZEx
 (E 59
 (D ZEy
 .ret)
 .skip))
 (D ZEz
 (D ZE0
 (D (D ZE1
 (E 93
 (D ZE2
 .ret)
 .skip))
 ZE3))))))))
 ZE4))
def ZE6:=R [6,7] [M 98 8,M 6 98,I 7 (.mv (.v (.bool true)))]
def ZBr:PF:=⟨false,
 (D ZGh
 (D ZGi
 (D (D ZGj
 (.block 0
 (.loop ZE5)))
 (D ZE6
 .ret)))),
 [.s 6,.s 7]⟩
theorem ZJU:ck0 false [(1,⟨[0,1,2,8],[0],[],[],[],[]⟩),(14,⟨[0,1,2,8,9,13,14],[],[(13,.pure)],[],[],[]⟩)] ZBr Tryz.f37=some ZBr:=by kernel_rfl
def Zac:=R [2,3] [I 2 (.box (.s 0)),I 3 (.box (.s 1)),I 4 (.mv (.v (.str []))),K 5 0]
def Zad:=R [2,3,6] [L 10 2,T 11 7 3,I 12 (C JS [(.s 10),(.s 11)]),M 6 12]
def Zae:=R [2,3,6,14] [M 13 6,W 14 .neq 13 0]
def Zaf:=R [4,5] [M 15 6,I 4 (.mv (.v (.str []))),M 5 15]
def Zag:=R [2,3,7] [I 7 (.boxnil 1)]
def Zah:=R [2,3,7,8] [I 8 (.box (.v .nilfunc))]
def Zai:=R [3,7,8] [I 16 (.mkf (.func Yn) [] [(.s 2),(.s 7),(.s 8)]),N 1 8 16]
def Zaj:=R [3,7,8,19] [T 17 7 3,I 18 (C Qb [(.s 17)]),W 19 .eql 18 1]
def Zak:=R [4,5] [I 4 (.mv (.v (.str []))),K 5 0]
def Zal:=R [7,9] [L 20 8,T 21 7 3,I 22 (.call .norm (.s 20) [(.s 21)]),M 9 22]
def ZW7:=R [7,9,24] [M 23 9,W 24 .neq 23 0]
def ZW8:=R [4,5] [M 25 9,I 4 (.mv (.v (.str []))),M 5 25]
def ZW9:=R [4,5] [L 26 7,I 27 (.b2s (.s 26)),M 4 27,K 5 0]
def ZR0:PF:=⟨false,
 (D Zac
 (D (D Zad
 (D Zae
 (E 14
 (D Zaf
 .ret)
 .skip)))
 (D Zag
 (D Zah
 (D Zai
 (D (D Zaj
 (E 19
 (D Zak
 .ret)
 .skip))
 (D (D Zal
 (D ZW7
 (E 24
 (D ZW8
 .ret)
 .skip)))
 (D ZW9
 .ret)))))))),
 [.s 4,.s 5]⟩
theorem ZhC:ck0 false [(4,⟨[2,3,7],[0],[],[],[],[]⟩)] ZR0 Tryz.f38=some ZR0:=by kernel_rfl
def ZXA:=R [0,3,4,5] [I 3 (.box (.s 1)),I 4 (.box (.v ZR)),I 5 (.onil 1),K 6 0]
def ZXB:=R [4,5,6,7] [M 12 0,T 13 7 3,I 14 (C XQ [(.s 12),(.s 13)]),M 11 14,X 15 11 0,X 16 11 1,M 7 15,M 6 16]
def ZXC:=R [4,5,6,7,18] [M 17 6,W 18 .neq 17 0]
def ZXD:=R [4,5,6] [I 19 (.build [(.int .u64 0),(.int .i64 0),(.int .i64 0),(.int .i64 0),(.int .i64 0)] []),M 20 6,N 5 4 19,I 5 (.onil 1),M 6 20]
def ZXE:=R [4,5,7,26] [M 21 7,I 22 (.nilck (.s 21)),F 23 1 22,L 24 23,I 25 (.len 1 (.s 24)),W 26 .gtr 25 0]
def ZXF:=R [4,5,7,8,10] [M 28 7,I 29 (C Xp [(.s 28)]),M 27 29,X 30 27 0,X 31 27 1,X 32 27 2,M 8 30,M 9 31,M 10 32]
def ZXG:=R [4,5,7,8,10,34] [M 33 10,W 34 .neq 33 0]
def ZXH:=R [4,5,6] [I 35 (.build [(.int .u64 0),(.int .i64 0),(.int .i64 0),(.int .i64 0),(.int .i64 0)] []),M 36 10,N 5 4 35,I 5 (.onil 1),M 6 36]
def ZXI:=R [4,5,7] [M 37 5,M 38 8,I 39 (.bslice false 1 [(.int .u64 0)] [(0,(.s 38))]),I 40 (.app 1 8 (.s 37) (.s 39)),M 5 40]
def ZXJ:PC:=(D (D ZXE
 (E 26
 .skip
 (.exit 0)))
 (.block 1
 (D ZXF
 (D (D ZXG
 (E 34
 (D ZXH
 .ret)
 .skip))
 ZXI))))
def ZSj:=R [4,5,6] [M 42 7,I 43 (C ZBR [(.s 42)]),M 41 43,X 44 41 0,X 45 41 1,N 5 4 44,M 6 45]
def ZSk:=R [4,5,6] [T 46 5 4,M 47 5,M 48 6,N 5 4 46,M 5 47,M 6 48]
def ZMA:PF:=⟨false,
 (D ZXA
 (D ZXB
 (D (D ZXC
 (E 18
 (D ZXD
 .ret)
 .skip))
 (D (.block 0
 (.loop ZXJ))
 (D ZSj
 (D ZSk
 .ret)))))),
 [.c 4 true 5,.s 5,.s 6]⟩
theorem ZeZ:ck0 false [(0,⟨[0,3,4,5],[2],[],[],[],[]⟩),(3,⟨[4,5,6],[3],[],[],[],[]⟩),(7,⟨[4,5,6],[3],[],[],[],[]⟩)] ZMA Tryz.f39=some ZMA:=by kernel_rfl
def ZH0:=R [0,1] [K 4 0]
def ZH1:=R [4] [M 5 0,I 6 (.cint .u64 (.s 5)),M 7 1,W 8 .add 7 1,I 9 (.cint .u64 (.s 8)),B 10 .rem 6 9,I 11 (.cint .i64 (.s 10)),M 4 11]
def ZC4:PF:=⟨false,
 (D ZH0
 (D ZH1
 .ret)),
 [.s 4]⟩
theorem ZKh:ck0 false [] ZC4 Tryz.f40=some ZC4:=by kernel_rfl
def ZSl:=R [0,1,2,6] [I 6 (.box (.v (.agg [(.int .u64 0),(.int .i64 0),(.int .i64 0),(.int .i64 0),(.int .i64 0),.nils,.nils]))),K 7 0]
def ZSm:=R [0,2,6,8,9] [M 19 1,I 20 (.call .norm (.s 19) []),M 18 20,X 21 18 0,X 22 18 1,I 8 (.box (.v ZT)),N 7 8 21,M 9 22]
def ZSn:=R [0,2,6,8,9,24] [M 23 9,W 24 .neq 23 0]
def ZSo:=R [6,7] [I 25 (.build [(.int .u64 0),(.int .i64 0),(.int .i64 0),(.int .i64 0),(.int .i64 0),.nils,.nils] []),M 26 9,N 7 6 25,M 7 26]
def ZSp:=R [0,2,6,8,10] [I 27 (.build [(.int .u64 0),(.int .i64 0),(.int .i64 0),(.int .i64 0),(.int .i64 0),.nils,.nils] []),I 10 (.box (.v (.agg [(.int .u64 0),(.int .i64 0),(.int .i64 0),(.int .i64 0),(.int .i64 0),.nils,.nils]))),N 7 10 27]
def ZSq:=R [0,2,6,8,10,11] [I 28 (.mkmap),M 11 28]
def ZSr:=R [0,6,8,10,11,29,30,31] [M 29 2,I 30 (.len 1 (.s 29)),K 31 0]
def ZSs:=R [0,6,8,10,11,29,30,31,32] [B 32 .lss 31 30]
def ZSt:=R [0,6,8,10,11,13,29,30,31] [I 33 (.ixS 5 (.s 29) (.s 31)),T 34 5 33,I 13 (.box (.v ZR)),N 5 13 34]
def ZSu:=R [0,6,8,10,11,14,15,29,30,31] [M 36 0,T 37 5 13,T 38 7 8,I 39 (C ZAS [(.s 36),(.s 37),(.s 38)]),M 35 39,X 40 35 0,X 41 35 1,M 14 40,M 15 41]
def ZPM:=R [0,6,8,10,11,14,15,29,30,31,43] [M 42 15,W 43 .neq 42 0]
def ZPN:=R [6,7] [I 44 (.build [(.int .u64 0),(.int .i64 0),(.int .i64 0),(.int .i64 0),(.int .i64 0),.nils,.nils] []),M 45 15,N 7 6 44,M 7 45]
def ZPO:=R [0,6,8,10,11,29,30,31,46,47,48] [M 46 14,I 47 (.len 1 (.s 46)),K 48 0]
def ZPP:=R [0,6,8,10,11,29,30,31,46,47,48,49] [B 49 .lss 48 47]
def ZPQ:=R [0,6,8,10,11,17,29,30,31,46,47,48] [I 50 (.ixS 1 (.s 46) (.s 48)),L 51 50,M 17 51]
def ZPR:=R [0,6,8,10,11,17,29,30,31,46,47,48,55] [M 52 11,M 53 17,I 54 (.look 0 (.bool false) false (.s 52) (.s 53)),I 55 (.un .not (.s 54))]
def ZPS:=R [0,6,8,10,11,17,29,30,31,46,47,48] [M 56 11,M 57 17,J (.mupd 0 (.s 56) (.s 57) (.v (.bool true)))]
def ZPT:=R [0,6,8,10,11,29,30,31,46,47,48] [F 58 6 10,L 59 58,M 60 17,I 61 (.bslice false 1 [(.int .u64 0)] [(0,(.s 60))]),I 62 (.app 1 8 (.s 59) (.s 61)),F 63 6 10,N 1 63 62]
def ZPU:=R [0,6,8,10,11,29,30,31,46,47,48] [W 64 .add 48 1,M 48 64]
def p_edit_change_19:PC:=(D ZPP
 (D (E 49
 .skip
 (.exit 2))
 (D (.block 3
 (D ZPQ
 (D ZPR
 (E 55
 (D ZPS
 ZPT)
 .skip))))
 ZPU)))
def ZPV:=R [0,6,8,10,11,29,30,31] [W 65 .add 31 1,M 31 65]
def p_edit_change_21:PC:=(D ZSs
 (D (E 32
 .skip
 (.exit 0))
 (D (.block 1
 (D ZSt
 (D ZSu
 (D (D ZPM
 (E 43
 (D ZPN
 .ret)
 .skip))
 (D ZPO
 (.block 2
 (.loop p_edit_change_19)))))))
 ZPV)))
def ZPW:=R [6,9,10] [M 67 0,T 68 7 8,I 69 (C Ye [(.s 67),(.s 68)]),M 66 69,X 70 66 0,X 71 66 1,X 72 66 2,F 73 0 10,N 5 73 70,F 74 5 10,N 1 74 71,M 9 72]
def ZPX:=R [6,9,10,76] [M 75 9,W 76 .neq 75 0]
def ZPY:=R [6,7] [I 77 (.build [(.int .u64 0),(.int .i64 0),(.int .i64 0),(.int .i64 0),(.int .i64 0),.nils,.nils] []),M 78 9,N 7 6 77,M 7 78]
def ZPZ:=R [6,7] [T 79 7 10,N 7 6 79,K 7 0]
def ZJt:PF:=⟨false,
 (D ZSl
 (D ZSm
 (D (D ZSn
 (E 24
 (D ZSo
 .ret)
 .skip))
 (D ZSp
 (D ZSq
 (D (D ZSr
 (.block 0
 (.loop p_edit_change_21)))
 (D (D ZPW
 (D ZPX
 (E 76
 (D ZPY
 .ret)
 .skip)))
 (D ZPZ
 .ret)))))))),
 [.c 6 true 7,.s 7]⟩
theorem Zan:ck0 false [] ZJt Tryz.f41=some ZJt:=by kernel_rfl
def ZKi:=R [0,1,2,3,4,5] [I 5 (.box (.v ZT)),K 6 0]
def ZKj:=R [5,6] [L 7 0,T 8 5 1,L 9 2,L 10 3,L 11 4,I 12 (C ZHD [(.s 7),(.s 8),(.s 9),(.s 10),(.s 11)]),X 13 12 0,X 14 12 1,N 7 5 13,M 6 14]
def ZD2:PF:=⟨false,
 (D ZKi
 (D ZKj
 .ret)),
 [.c 5 true 7,.s 6]⟩
theorem ZPb:ck0 false [] ZD2 Tryz.f42=some ZD2:=by kernel_rfl
def Zao:=R [0,2,3,4,6,10] [I 6 (.box (.s 1)),I 10 (.box (.v ZT)),K 11 0]
def Zap:=R [0,2,3,4,10,12,13] [M 15 0,T 16 5 6,I 17 (C J7 [(.s 15),(.s 16)]),M 14 17,X 18 14 0,X 19 14 1,I 12 (.box (.v ZT)),N 7 12 18,M 13 19]
def Zaq:=R [0,2,3,4,10,12,13,21] [M 20 13,W 21 .neq 20 0]
def Zar:=R [10,11] [I 22 (.build [(.int .u64 0),(.int .i64 0),(.int .i64 0),(.int .i64 0),(.int .i64 0),(.str []),.nils] []),M 23 13,N 7 10 22,M 11 23]
def Zas:=R [10,11] [M 24 0,T 25 7 12,M 26 2,M 27 3,M 28 4,I 29 (C ZAT [(.s 24),(.s 25),(.s 26),(.s 27),(.s 28)]),X 30 29 0,X 31 29 1,N 7 10 30,M 11 31]
def ZR1:PF:=⟨false,
 (D Zao
 (D Zap
 (D (D Zaq
 (E 21
 (D Zar
 .ret)
 .skip))
 (D Zas
 .ret)))),
 [.c 10 true 7,.s 11]⟩
theorem ZhE:ck0 false [] ZR1 Tryz.f43=some ZR1:=by kernel_rfl
def ZPc:=R [0,4,5] [I 4 (.box (.s 1)),I 5 (.box (.s 2)),I 6 (.mv (.v .nilmap)),K 7 0]
def ZPd:=R [0,4,5,8] [I 18 (.mkmap),M 8 18]
def ZPe:=R [0,4,5,8,21,22,23] [T 19 5 4,T 20 5 5,I 21 (.bslice false 5 [ZR,ZR] [(0,(.s 19)),(1,(.s 20))]),I 22 (.len 1 (.s 21)),K 23 0]
def ZPf:=R [0,4,5,8,21,22,23,24] [B 24 .lss 23 22]
def ZPg:=R [0,4,5,8,10,21,22,23] [I 25 (.ixS 5 (.s 21) (.s 23)),T 26 5 25,I 10 (.box (.v ZR)),N 5 10 26]
def ZPh:=R [0,4,5,8,11,21,22,23] [M 27 0,T 28 5 10,I 29 (C XO [(.s 27),(.s 28)]),M 11 29]
def ZPi:=R [0,4,5,8,11,21,22,23,31] [M 30 11,W 31 .neq 30 0]
def ZPj:=R [6,7] [M 32 11,I 6 (.mv (.v .nilmap)),M 7 32]
def ZPk:=R [0,4,5,8,21,22,23] [W 33 .add 23 1,M 23 33]
def ZPl:PC:=(D ZPf
 (D (E 24
 .skip
 (.exit 0))
 (D (.block 1
 (D ZPg
 (D ZPh
 (D ZPi
 (E 31
 (D ZPj
 .ret)
 .skip)))))
 ZPk)))
def ZMB:=R [0,8,36,37,38] [T 34 5 4,T 35 5 5,I 36 (.bslice false 5 [ZR,ZR] [(0,(.s 34)),(1,(.s 35))]),I 37 (.len 1 (.s 36)),K 38 0]
def ZMC:=R [0,8,36,37,38,39] [B 39 .lss 38 37]
def ZMD:=R [0,8,13,36,37,38] [I 40 (.ixS 5 (.s 36) (.s 38)),T 41 5 40,I 13 (.box (.v ZR)),N 5 13 41]
def ZME:=R [0,8,14,15,36,37,38] [M 43 0,T 44 5 13,I 45 (C XN [(.s 43),(.s 44)]),M 42 45,X 46 42 0,X 47 42 1,M 14 46,M 15 47]
def ZMF:=R [0,8,14,15,36,37,38,49] [M 48 15,W 49 .neq 48 0]
def ZMG:=R [6,7] [M 50 15,I 6 (.mv (.v .nilmap)),M 7 50]
def ZMH:=R [0,8,36,37,38,51,52,53] [M 51 14,I 52 (.len 1 (.s 51)),K 53 0]
def ZMI:=R [0,8,36,37,38,51,52,53,54] [B 54 .lss 53 52]
def ZMJ:=R [0,8,17,36,37,38,51,52,53] [I 55 (.ixS 1 (.s 51) (.s 53)),L 56 55,M 17 56]
def ZMK:=R [0,8,36,37,38,51,52,53] [M 57 8,M 58 17,I 59 (.look 0 (.int .i64 0) false (.s 57) (.s 58)),W 60 .add 59 1,J (.mupd 0 (.s 57) (.s 58) (.s 60))]
def ZML:=R [0,8,36,37,38,51,52,53] [W 61 .add 53 1,M 53 61]
def ZMM:PC:=(D ZMI
 (D (E 54
 .skip
 (.exit 4))
 (D (.block 5
 (D ZMJ
 ZMK))
 ZML)))
def ZMN:=R [0,8,36,37,38] [W 62 .add 38 1,M 38 62]
def ZMO:PC:=(D ZMC
 (D (E 39
 .skip
 (.exit 2))
 (D (.block 3
 (D ZMD
 (D ZME
 (D (D ZMF
 (E 49
 (D ZMG
 .ret)
 .skip))
 (D ZMH
 (.block 4
 (.loop ZMM)))))))
 ZMN)))
def ZMP:=R [6,7] [M 63 8,M 6 63,K 7 0]
def ZH2:PF:=⟨true,
 (D ZPc
 (D ZPd
 (D (D ZPe
 (.block 0
 (.loop ZPl)))
 (D (D ZMB
 (.block 2
 (.loop ZMO)))
 (D ZMP
 .ret))))),
 [.s 6,.s 7]⟩
theorem ZXL:ck0 true [] ZH2 Tryz.f44=some ZH2:=by kernel_rfl
def ZXM:=R [0,3,23] [I 3 (.box (.s 1)),K 4 0]
def ZXN:=R [0,3,6,23] [M 11 0,T 12 5 3,I 13 (C J7 [(.s 11),(.s 12)]),M 10 13,X 14 10 0,X 15 10 1,I 5 (.box (.v ZT)),N 7 5 14,M 6 15]
def ZXO:=R [0,3,6,17,23] [M 16 6,W 17 .neq 16 0]
def ZXP:=R [4] [M 18 6,M 4 18]
def ZXQ:=R [0,3,7,23] [I 7 (.box (V 0)),J (.st 1 (.s 7) (V 0))]
def ZXR:=R [7,21,23] [M 19 0,T 20 5 3,I 21 (C ZAR [(.s 19),(.s 20)])]
def ZXS:=R [7,9] [I 9 (.box (.v (.agg [(.int .i64 0),(.str []),.nils,(.int .i64 0)]))),N 4 9 23]
def ZXT:=R [7,9,26] [F 24 3 9,L 25 24,W 26 .neq 25 0]
def ZXU:=R [7] [F 27 3 9,L 28 27,N 1 7 28]
def ZXV:=R [4] [L 29 7,M 4 29]
def p_rope_Check:RF:=⟨30,
 (D ZXM
 (D (D ZXN
 (D ZXO
 (E 17
 (D ZXP
 .ret)
 .skip)))
 (D ZXQ
 (D .skip
 (D ZXR
 .skip))))),
 ⟨(.s 21),[22,23],
 ZXS,
 (.block 1
 (D ZXT
 (E 26
 (D ZXU
 (.exit 0))
 .skip)))⟩,
 (D .skip
 (D ZXV
 .ret)),
 [.s 4]⟩
theorem Zeb:ZWn Proofs.Tryz.prog (h0R [] p_rope_Check) Proofs.Tryz.f46=some p_rope_Check:=by kernel_rfl
def ZXW:=R [2,3] [I 2 (.box (.s 0)),I 3 (.box (.s 1)),I 4 (.mv (.v .nilfunc))]
def ZXX:=R [4] [I 5 (.mkf (.func JX) [] [(.s 2),(.s 3)]),M 4 5]
def ZMQ:PF:=⟨true,
 (D ZXW
 (D ZXX
 .ret)),
 [.s 4]⟩
theorem Zed:ck0 true [] ZMQ Tryz.f47=some ZMQ:=by kernel_rfl
def ZE7:=R [0] [I 2 (.mv (.v .nils))]
def ZE8:=R [0,7] [M 6 0,I 7 (.eqs false 3 [] (.s 6) (.v .nilptr))]
def ZE9:=R [2] [I 2 (.mv (.v .nils))]
def ZFA:=R [0,3] [M 8 0,I 9 (.nilck (.s 8)),F 10 0 9,L 11 10,I 12 (.len 1 (.s 11)),I 13 (.mkslice 1 8 (.int .i64 0) (.s 12) (.s 12)),M 3 13]
def ZFB:=R [3] [M 14 3,M 15 0,I 16 (.nilck (.s 15)),F 17 0 16,L 18 17,I 19 (.cpy 1 (.s 14) (.s 18))]
def ZFC:=R [3,4,5] [M 20 3,I 21 (.len 1 (.s 20)),W 22 .sub 21 1,K 4 0,M 5 22]
def ZFD:=R [3,4,5,25] [M 23 4,M 24 5,B 25 .lss 23 24]
def ZFE:=R [3,4,5] [M 30 3,M 31 4,M 32 3,M 33 5,M 34 3,M 35 5,I 36 (.ixS 1 (.s 34) (.s 35)),L 37 36,M 38 3,M 39 4,I 40 (.ixS 1 (.s 38) (.s 39)),L 41 40,I 42 (.ixS 1 (.s 30) (.s 31)),N 1 42 37,I 43 (.ixS 1 (.s 32) (.s 33)),N 1 43 41]
def ZFF:=R [3,4,5] [M 26 4,W 27 .add 26 1,M 28 5,W 29 .sub 28 1,M 4 27,M 5 29]
def ZFG:PC:=(D (D ZFD
 (E 25
 .skip
 (.exit 0)))
 (D (.block 1
 ZFE)
 ZFF))
def ZD3:=R [2] [M 44 3,M 2 44]
def ZBF:PF:=⟨false,
 (D ZE7
 (D (D ZE8
 (E 7
 (D ZE9
 .ret)
 .skip))
 (D ZFA
 (D ZFB
 (D (D ZFC
 (.block 0
 (.loop ZFG)))
 (D ZD3
 .ret)))))),
 [.s 2]⟩
theorem ZH4:ck0 false [] ZBF Tryz.f54=some ZBF:=by kernel_rfl
def ZCD:=R [0] [I 2 (.mv (.v .nils))]
def ZCE:=R [2] [M 3 0,I 4 (C Yq [(.s 3),(.v (.int .u8 2))]),M 2 4]
def XY:PF:=⟨false,
 (D ZCD
 (D ZCE
 .ret)),
 [.s 2]⟩
theorem ZDJ:ck0 false [] XY Tryz.f55=some XY:=by kernel_rfl
def ZSv:=R [0,3,20] [I 3 (.box (.s 1)),I 4 (.mv (.v .nils)),K 5 0]
def ZSw:=R [0,3,6,20] [M 10 0,T 11 5 3,I 12 (C XO [(.s 10),(.s 11)]),M 6 12]
def ZSx:=R [0,3,6,14,20] [M 13 6,W 14 .neq 13 0]
def ZSy:=R [4,5] [M 15 6,I 4 (.mv (.v .nils)),M 5 15]
def ZSz:=R [0,3,7,20] [I 7 (.boxnil 1)]
def ZS0:=R [7,18,20] [M 16 0,T 17 5 3,I 18 (C ZAR [(.s 16),(.s 17)])]
def ZS1:=R [7,9] [I 9 (.box (.v (.agg [(.int .i64 0),(.str []),.nils,(.int .i64 0)]))),N 4 9 20]
def ZS2:=R [7,9,24] [F 21 0 9,F 22 0 21,L 23 22,W 24 .eql 23 0]
def ZS3:=R [7] [L 25 7,F 26 0 9,F 27 1 26,L 28 27,I 29 (.bslice false 1 [(.str [])] [(0,(.s 28))]),I 30 (.app 1 16 (.s 25) (.s 29)),N 1 7 30]
def ZS4:=R [4,5] [L 31 7,M 4 31,K 5 0]
def ZJu:RF:=⟨32,
 (D ZSv
 (D (D ZSw
 (D ZSx
 (E 14
 (D ZSy
 .ret)
 .skip)))
 (D ZSz
 (D ZS0
 .skip)))),
 ⟨(.s 18),[19,20],
 ZS1,
 (.block 1
 (D ZS2
 (E 24
 ZS3
 .skip)))⟩,
 (D .skip
 (D ZS4
 .ret)),
 [.s 4,.s 5]⟩
theorem Zau:ZWn Proofs.Tryz.prog (h0R [(4,⟨[0,3,7,20],[0],[],[],[],[]⟩)] ZJu) Proofs.Tryz.f58=some ZJu:=by kernel_rfl
def Zav:=R [0,1] [I 4 (.mv (.v .nilptr)),K 5 0]
def Zaw:=R [0,6,7] [M 9 0,M 10 1,I 11 (C ZCk [(.s 9),(.s 10)]),M 8 11,X 12 8 0,X 13 8 1,M 6 12,M 7 13]
def Zax:=R [0,6,7,15] [M 14 7,W 15 .neq 14 0]
def Zay:=R [4,5] [M 16 7,I 4 (.mv (.v .nilptr)),M 5 16]
def Zaz:=R [4,5] [M 17 0,M 18 6,I 19 (.mkmap),I 20 (.build [(.int .i64 0),.nilptr,.nilmap,(.int .i64 0),(.int .i64 0),(.int .i64 0)] [(0,1,(.s 17)),(1,1,(.s 18)),(2,1,(.s 19))]),I 21 (.box (.s 20)),M 4 21,K 5 0]
def ZR2:PF:=⟨true,
 (D Zav
 (D Zaw
 (D (D Zax
 (E 15
 (D Zay
 .ret)
 .skip))
 (D Zaz
 .ret)))),
 [.s 4,.s 5]⟩
theorem ZhG:ck0 true [] ZR2 Tryz.f59=some ZR2:=by kernel_rfl
def Zee:=R [0,1,4] [I 4 (.box (.v ZR)),K 5 0]
def Zef:=R [0,1,4,11] [M 10 0,I 11 (.eqs false 3 [] (.s 10) (.v .nilptr))]
def Zeg:=R [4,5] [I 12 (.build [(.int .u64 0),(.int .i64 0),(.int .i64 0),(.int .i64 0),(.int .i64 0)] []),N 5 4 12,K 5 1]
def Zeh:=R [0,4,6,7] [M 14 1,I 15 (C XP [(.s 14)]),M 13 15,X 16 13 0,X 17 13 1,I 6 (.box (.v ZT)),N 7 6 16,M 7 17]
def Zei:=R [0,4,6,7,19] [M 18 7,W 19 .neq 18 0]
def Zej:=R [4,5] [I 20 (.build [(.int .u64 0),(.int .i64 0),(.int .i64 0),(.int .i64 0),(.int .i64 0)] []),M 21 7,N 5 4 20,M 5 21]
def Zek:=R [4,7,8] [M 23 0,T 24 7 6,I 25 (C Ye [(.s 23),(.s 24)]),M 22 25,X 26 22 0,X 27 22 1,X 28 22 2,I 8 (.box (.v ZR)),N 5 8 26,M 9 27,M 7 28]
def Zel:=R [4,5] [T 29 5 8,M 30 7,N 5 4 29,M 5 30]
def ZXY:PF:=⟨false,
 (D Zee
 (D (D Zef
 (E 11
 (D Zeg
 .ret)
 .skip))
 (D Zeh
 (D (D Zei
 (E 19
 (D Zej
 .ret)
 .skip))
 (D Zek
 (D Zel
 .ret)))))),
 [.c 4 true 5,.s 5]⟩
theorem Zi5:ck0 false [] ZXY Tryz.f60=some ZXY:=by kernel_rfl
def Za0:=R [0,3,4] [I 3 (.box (.s 1)),I 4 (.box (.v ZT)),K 5 0]
def Za1:=R [0,3,4,8] [M 7 0,I 8 (.eqs false 3 [] (.s 7) (.v .nilptr))]
def Za2:=R [4,5] [I 9 (.build [(.int .u64 0),(.int .i64 0),(.int .i64 0),(.int .i64 0),(.int .i64 0),(.str []),.nils] []),N 7 4 9,K 5 1]
def Za3:=R [0,3,4,12] [T 10 5 3,I 11 (.build [(.int .u64 0),(.int .i64 0),(.int .i64 0),(.int .i64 0),(.int .i64 0)] []),I 12 (.eqs false 0 [(0,0),(1,0),(2,0),(3,0),(4,0)] (.s 10) (.s 11))]
def Za4:=R [4,5] [I 13 (.build [(.int .u64 0),(.int .i64 0),(.int .i64 0),(.int .i64 0),(.int .i64 0),(.str []),.nils] []),N 7 4 13,K 5 0]
def Za5:=R [0,3,4,16] [F 14 0 3,L 15 14,I 16 (.bin .eql (.s 15) (.v (.int .u64 0)))]
def Za6:=R [4,5] [I 17 (.build [(.int .u64 0),(.int .i64 0),(.int .i64 0),(.int .i64 0),(.int .i64 0),(.str []),.nils] []),N 7 4 17,K 5 2]
def Za7:=R [3,4,6] [M 18 0,F 19 0 3,L 20 19,F 21 1 3,L 22 21,F 23 2 3,T 24 3 23,I 25 (C ZDP [(.s 18),(.s 20),(.s 22),(.s 24)]),M 6 25]
def Za8:=R [3,4,6,27] [M 26 6,W 27 .neq 26 0]
def Za9:=R [4,5] [I 28 (.build [(.int .u64 0),(.int .i64 0),(.int .i64 0),(.int .i64 0),(.int .i64 0),(.str []),.nils] []),M 29 6,N 7 4 28,M 5 29]
def ZXZ:=R [4,5] [F 30 0 3,L 31 30,F 32 1 3,L 33 32,F 34 2 3,T 35 3 34,I 36 (.build [(.int .u64 0),(.int .i64 0),(.int .i64 0),(.int .i64 0),(.int .i64 0),(.str []),.nils] [(0,1,(.s 31)),(1,1,(.s 33)),(2,3,(.s 35))]),N 7 4 36,K 5 0]
def ZR3:PF:=⟨false,
 (D Za0
 (D (D Za1
 (E 8
 (D Za2
 .ret)
 .skip))
 (D (D Za3
 (E 12
 (D Za4
 .ret)
 .skip))
 (D (D Za5
 (E 16
 (D Za6
 .ret)
 .skip))
 (D (D Za7
 (D Za8
 (E 27
 (D Za9
 .ret)
 .skip)))
 (D ZXZ
 .ret)))))),
 [.c 4 true 7,.s 5]⟩
theorem ZhI:ck0 false [] ZR3 Tryz.f61=some ZR3:=by kernel_rfl
def ZMR:=R [0,2,3] [K 2 0,K 3 0,K 4 0]
def ZMS:=R [0,2,3,11] [M 9 0,I 10 (.len 1 (.s 9)),W 11 .gtr 10 4096]
def ZMT:=R [2,3,4] [K 2 0,K 3 0,K 4 5]
def ZMU:=R [2,3,12,13,14] [M 12 0,I 13 (.len 1 (.s 12)),K 14 0]
def ZMV:=R [2,3,12,13,14,15] [B 15 .lss 14 13]
def ZMW:=R [2,3,6,12,13,14] [I 16 (.ixS 3 (.s 12) (.s 14)),T 17 3 16,I 6 (.box (.v (.agg [(.int .u8 0),(.int .i64 0),(.str [])]))),N 3 6 17]
def ZMX:=R [2,3,6,12,13,14,20] [T 18 3 6,I 19 (C ZDi [(.s 18)]),I 20 (.un .not (.s 19))]
def ZMY:=R [2,3,4] [K 2 0,K 3 0,K 4 2]
def ZMZ:=R [2,3,7,8,12,13,14] [T 22 3 6,I 23 (C ZDj [(.s 22)]),M 21 23,X 24 21 0,X 25 21 1,M 7 24,M 8 25]
def ZMa:=R [2,3,7,8,12,13,14,35] [M 26 7,M 27 2,I 28 (.bin .sub (V 1048576) (.s 27)),B 29 .gtr 26 28,M 30 29,U 31 30 false 8,U 32 30 false 3,G 33 30 false (.bin .sub (V 1048576) (.s 32)),G 34 30 false (.bin .gtr (.s 31) (.s 33)),I 35 (.pick (.s 30) (.v (.bool true)) (.s 34))]
def ZKk:=R [2,3,4] [K 2 0,K 3 0,K 4 5]
def ZKl:=R [2,3,8,12,13,14] [M 36 2,M 37 7,B 38 .add 36 37,M 2 38]
def ZKm:=R [2,3,12,13,14] [M 39 3,M 40 8,B 41 .add 39 40,M 3 41]
def ZKn:=R [2,3,12,13,14] [W 42 .add 14 1,M 14 42]
def ZKo:PC:=(D ZMV
 (D (E 15
 .skip
 (.exit 0))
 (D (.block 1
 (D ZMW
 (D (D ZMX
 (E 20
 (D ZMY
 .ret)
 .skip))
 (D ZMZ
 (D (D ZMa
 (E 35
 (D ZKk
 .ret)
 .skip))
 (D ZKl
 ZKm))))))
 ZKn)))
def ZKp:=R [2,3,4] [M 43 2,M 44 3,M 2 43,M 3 44,K 4 0]
def ZFv:PF:=⟨false,
 (D ZMR
 (D (D ZMS
 (E 11
 (D ZMT
 .ret)
 .skip))
 (D (D ZMU
 (.block 0
 (.loop ZKo)))
 (D ZKp
 .ret)))),
 [.s 2,.s 3,.s 4]⟩
theorem ZS6:ck0 false [] ZFv Tryz.f62=some ZFv:=by kernel_rfl
def ZH5:=R [0,3] [I 3 (.box (.s 1)),K 4 0]
def ZH6:=R [0,3,5] [I 7 (.build [(.int .u64 0),(.int .i64 0),(.int .i64 0),(.int .i64 0),(.int .i64 0),(.str []),.nils] []),I 5 (.box (.v ZT)),N 7 5 7,K 6 0]
def ZH7:=R [0,3,5,10] [F 8 0 3,L 9 8,I 10 (.bin .eql (.s 9) (.v (.int .u8 2)))]
def ZH8:=R [0,3,5,6] [F 12 2 3,L 13 12,I 14 (C XP [(.s 13)]),M 11 14,X 15 11 0,X 16 11 1,N 7 5 15,M 6 16]
def ZH9:=R [0,3,5,6] [M 18 0,M 19 0,I 20 (.nilck (.s 19)),F 21 0 20,L 22 21,M 23 0,I 24 (.nilck (.s 23)),F 25 8 24,T 26 7 25,F 27 1 3,L 28 27,I 29 (C ZKS [(.s 22),(.s 26),(.s 28)]),M 17 29,X 30 17 0,X 31 17 1,X 32 17 2,N 7 5 30,I 33 (.nilck (.s 18)),F 34 8 33,N 7 34 31,M 6 32]
def ZIA:=R [0,5,6,41] [M 35 6,W 36 .neq 35 0,M 37 36,G 38 37 false (.fadr 0 (.s 3)),G 39 37 false (.ld false 1 (.s 38)),G 40 37 false (.bin .eql (.s 39) (.v (.int .u8 3))),I 41 (.pick (.s 37) (.v (.bool true)) (.s 40))]
def ZIB:=R [4] [M 42 6,M 4 42]
def ZIC:=R [6] [M 44 0,M 45 0,I 46 (.nilck (.s 45)),F 47 0 46,L 48 47,M 49 0,I 50 (.nilck (.s 49)),F 51 1 50,T 52 7 51,T 53 7 5,I 54 (C ZDk [(.s 48),(.s 52),(.s 53)]),M 43 54,X 55 43 0,X 56 43 1,I 57 (.nilck (.s 44)),F 58 1 57,N 7 58 55,M 6 56]
def ZID:=R [4] [M 59 6,M 4 59]
def ZC5:PF:=⟨false,
 (D ZH5
 (D ZH6
 (D (D ZH7
 (E 10
 ZH8
 ZH9))
 (D (D ZIA
 (E 41
 (D ZIB
 .ret)
 .skip))
 (D ZIC
 (D ZID
 .ret)))))),
 [.s 4]⟩
theorem ZKr:ck0 false [] ZC5 Tryz.f63=some ZC5:=by kernel_rfl
def ZPm:=R [0,4,5] [I 4 (.box (.s 1)),I 5 (.box (.s 2)),I 6 (.mv (.v .nils)),K 7 0]
def ZPn:=R [0,4,5,9] [M 18 0,T 19 5 4,I 20 (C J7 [(.s 18),(.s 19)]),M 17 20,X 21 17 0,X 22 17 1,I 8 (.box (.v ZT)),N 7 8 21,M 9 22]
def ZPo:=R [0,4,5,9,24] [M 23 9,W 24 .neq 23 0]
def ZPp:=R [6,7] [M 25 9,I 6 (.mv (.v .nils)),M 7 25]
def ZPq:=R [0,4,5,10] [M 26 0,T 27 7 5,I 28 (C JS [(.s 26),(.s 27)]),M 10 28]
def ZPr:=R [0,4,5,10,30] [M 29 10,W 30 .neq 29 0]
def ZPs:=R [6,7] [M 31 10,I 6 (.mv (.v .nils)),M 7 31]
def ZPt:=R [0,4,5,11] [I 32 (.mkmap),I 11 (.box (.v .nilmap)),N 1 11 32]
def ZPu:=R [0,4,11,34,35,36] [T 33 7 5,I 34 (C ZHF [(.s 33)]),I 35 (.len 1 (.s 34)),K 36 0]
def ZPv:=R [0,4,11,34,35,36,37] [B 37 .lss 36 35]
def ZMb:=R [0,4,11,13,34,35,36] [I 38 (.ixS 1 (.s 34) (.s 36)),L 39 38,M 13 39]
def ZMc:=R [0,4,11,14,34,35,36] [M 40 0,M 41 13,L 42 11,I 43 (C JT [(.s 40),(.s 41),(.s 42),(.v (.func (.func YT) [] []))]),M 14 43]
def ZMd:=R [0,4,11,14,34,35,36,45] [M 44 14,W 45 .neq 44 0]
def ZMe:=R [6,7] [M 46 14,I 6 (.mv (.v .nils)),M 7 46]
def ZMf:=R [0,4,11,34,35,36] [W 47 .add 36 1,M 36 47]
def ZMg:PC:=(D ZPv
 (D (E 37
 .skip
 (.exit 0))
 (D (.block 1
 (D ZMb
 (D ZMc
 (D ZMd
 (E 45
 (D ZMe
 .ret)
 .skip)))))
 ZMf)))
def ZMh:=R [0,4,11,15] [I 15 (.boxnil 1)]
def ZMi:=R [0,4,11,15,50] [F 48 0 4,L 49 48,I 50 (.bin .eql (.s 49) (.v (.int .u64 0)))]
def ZMj:=R [6,7] [I 6 (.mv (.v .nils)),K 7 0]
def ZMk:=R [15,16] [M 51 0,F 52 0 4,L 53 52,I 54 (.mkmap),I 55 (.mkf (.func YU) [] [(.s 11),(.s 15)]),I 56 (C JT [(.s 51),(.s 53),(.s 54),(.s 55)]),M 16 56]
def ZMl:=R [15,16,58] [M 57 16,W 58 .neq 57 0]
def ZMm:=R [6,7] [M 59 16,I 6 (.mv (.v .nils)),M 7 59]
def ZMn:=R [6,7] [L 60 15,M 6 60,K 7 0]
def ZIE:PF:=⟨false,
 (D ZPm
 (D (D ZPn
 (D ZPo
 (E 24
 (D ZPp
 .ret)
 .skip)))
 (D (D ZPq
 (D ZPr
 (E 30
 (D ZPs
 .ret)
 .skip)))
 (D ZPt
 (D (D ZPu
 (.block 0
 (.loop ZMg)))
 (D ZMh
 (D (D ZMi
 (E 50
 (D ZMj
 .ret)
 .skip))
 (D ZMk
 (D (D ZMl
 (E 58
 (D ZMm
 .ret)
 .skip))
 (D ZMn
 .ret)))))))))),
 [.s 6,.s 7]⟩
theorem ZXb:ck0 false [(15,⟨[0,4,11,15],[0],[],[],[],[]⟩)] ZIE Tryz.f64=some ZIE:=by kernel_rfl
def ZXc:=R [0,2] [I 2 (.box (.v ZT)),K 3 0]
def ZXd:=R [0,2,14] [M 12 0,I 13 (.len 0 (.s 12)),W 14 .gtr 13 65536]
def ZXe:=R [2,3] [I 15 (.build [(.int .u64 0),(.int .i64 0),(.int .i64 0),(.int .i64 0),(.int .i64 0),(.str []),.nils] []),N 7 2 15,K 3 5]
def ZXf:=R [0,2,4] [I 4 (.onil 7)]
def ZXg:=R [2,4,17,18,19] [M 16 0,I 17 (C ZCl [(.s 16)]),I 18 (.len 1 (.s 17)),K 19 0]
def ZXh:=R [2,4,17,18,19,20] [B 20 .lss 19 18]
def ZXi:=R [2,4,6,17,18,19] [I 21 (.ixS 1 (.s 17) (.s 19)),L 22 21,M 6 22]
def ZXj:=R [2,4,17,18,19] [M 23 4,M 24 6,I 25 (.build [(.int .u64 0),(.int .i64 0),(.int .i64 0),(.int .i64 0),(.int .i64 0),(.str []),.nils] [(5,1,(.s 24))]),I 26 (.bslice false 7 [ZT] [(0,(.s 25))]),I 27 (.app 7 80 (.s 23) (.s 26)),M 4 27]
def ZXk:=R [2,4,17,18,19] [W 28 .add 19 1,M 19 28]
def ZXl:PC:=(D ZXh
 (D (E 20
 .skip
 (.exit 0))
 (D (.block 1
 (D ZXi
 ZXj))
 ZXk)))
def ZS7:=R [2,4,31] [M 29 4,I 30 (.len 1 (.s 29)),W 31 .gtr 30 1]
def ZS8:=R [2,4,7,8] [M 33 4,I 34 (.len 1 (.s 33)),I 35 (C ZEr [(.s 34),(V 4)]),M 32 35,X 36 32 0,X 37 32 1,M 7 36,M 8 37]
def ZS9:=R [2,4,7,8,39] [M 38 8,W 39 .neq 38 0]
def ZTA:=R [2,3] [I 40 (.build [(.int .u64 0),(.int .i64 0),(.int .i64 0),(.int .i64 0),(.int .i64 0),(.str []),.nils] []),M 41 8,N 7 2 40,M 3 41]
def ZTB:=R [2,4,7,9] [I 9 (.onil 7)]
def ZTC:=R [2,4,9,42,43,44] [M 42 7,I 43 (.len 1 (.s 42)),K 44 0]
def ZTD:=R [2,4,9,42,43,44,45] [B 45 .lss 44 43]
def ZTE:=R [2,4,9,11,42,43,44] [I 46 (.ixS 1 (.s 42) (.s 44)),L 47 46,M 11 47]
def ZTF:=R [2,4,9,11,42,43,44] [M 48 9,M 49 4,M 50 11,I 51 (.slc 7 (.s 49) none (some (.s 50))),I 52 (C QM [(.s 51)]),I 53 (.bslice false 7 [ZT] [(0,(.s 52))]),I 54 (.app 7 80 (.s 48) (.s 53)),M 9 54]
def ZTG:=R [2,4,9,42,43,44] [M 55 4,M 56 11,I 57 (.slc 7 (.s 55) (some (.s 56)) none),M 4 57]
def ZTH:=R [2,4,9,42,43,44] [W 58 .add 44 1,M 44 58]
def ZTI:PC:=(D ZTD
 (D (E 45
 .skip
 (.exit 4))
 (D (.block 5
 (D ZTE
 (D ZTF
 ZTG)))
 ZTH)))
def ZTJ:=R [2,4] [M 59 9,M 4 59]
def ZFw:PC:=(D (D ZS7
 (E 31
 .skip
 (.exit 2)))
 (.block 3
 (D ZS8
 (D (D ZS9
 (E 39
 (D ZTA
 .ret)
 .skip))
 (D ZTB
 (D (D ZTC
 (.block 4
 (.loop ZTI)))
 ZTJ))))))
def ZFx:=R [2,3] [M 60 4,I 61 (C QM [(.s 60)]),N 7 2 61,K 3 0]
def ZMo:PF:=⟨false,
 (D ZXc
 (D (D ZXd
 (E 14
 (D ZXe
 .ret)
 .skip))
 (D ZXf
 (D (D ZXg
 (.block 0
 (.loop ZXl)))
 (D (.block 2
 (.loop ZFw))
 (D ZFx
 .ret)))))),
 [.c 2 true 7,.s 3]⟩
theorem Zen:ck0 false [(3,⟨[0,2,4],[0],[],[],[],[]⟩),(13,⟨[2,4,7,9],[0],[],[],[],[]⟩)] ZMo Tryz.f65=some ZMo:=by kernel_rfl
def ZPw:=R [0,2,3,4,6,10] [I 6 (.box (.s 1)),I 10 (.box (.v ZT)),K 11 0]
def ZPx:=R [0,2,3,4,6,10,12] [M 20 0,T 21 7 6,I 22 (C JS [(.s 20),(.s 21)]),M 12 22]
def ZPy:=R [0,2,3,4,6,10,12,24] [M 23 12,W 24 .neq 23 0]
def ZPz:=R [10,11] [I 25 (.build [(.int .u64 0),(.int .i64 0),(.int .i64 0),(.int .i64 0),(.int .i64 0),(.str []),.nils] []),M 26 12,N 7 10 25,M 11 26]
def ZP0:=R [0,2,3,4,6,10,13] [T 27 7 6,I 28 (C QV [(.s 27)]),M 13 28]
def ZP1:=R [0,2,3,4,6,10,13,46] [M 29 2,W 30 .lss 29 0,M 31 30,U 32 31 false 2,U 33 31 false 13,G 34 31 false (.bin .gtr (.s 32) (.s 33)),I 35 (.pick (.s 31) (.v (.bool true)) (.s 34)),M 36 35,U 37 36 false 3,G 38 36 false (.bin .lss (.s 37) (V 0)),I 39 (.pick (.s 36) (.v (.bool true)) (.s 38)),M 40 39,U 41 40 false 3,U 42 40 false 13,U 43 40 false 2,G 44 40 false (.bin .sub (.s 42) (.s 43)),G 45 40 false (.bin .gtr (.s 41) (.s 44)),I 46 (.pick (.s 40) (.v (.bool true)) (.s 45))]
def ZP2:=R [10,11] [I 47 (.build [(.int .u64 0),(.int .i64 0),(.int .i64 0),(.int .i64 0),(.int .i64 0),(.str []),.nils] []),N 7 10 47,K 11 3]
def ZP3:=R [0,2,3,4,6,10,60] [M 48 13,M 49 3,B 50 .sub 48 49,M 51 4,I 52 (.len 0 (.s 51)),I 53 (.mnx false (.s 52) (V 65536)),I 54 (.bin .sub (V 65536) (.s 53)),B 55 .gtr 50 54,M 56 55,U 57 56 false 4,G 58 56 false (.len 0 (.s 57)),G 59 56 false (.bin .gtr (.s 58) (V 65536)),I 60 (.pick (.s 56) (.v (.bool true)) (.s 59))]
def ZP4:=R [10,11] [I 61 (.build [(.int .u64 0),(.int .i64 0),(.int .i64 0),(.int .i64 0),(.int .i64 0),(.str []),.nils] []),N 7 10 61,K 11 5]
def ZP5:=R [0,2,3,4,6,10,67] [M 62 3,W 63 .eql 62 0,M 64 63,U 65 64 true 4,G 66 64 true (.bin .eql (.s 65) (.v (.str []))),I 67 (.pick (.s 64) (.s 66) (.v (.bool false)))]
def ZMp:=R [10,11] [T 68 7 6,I 69 (C Y9 [(.s 68)]),N 7 10 69,K 11 0]
def ZMq:=R [0,3,4,10,14,15,16] [M 71 0,T 72 7 6,M 73 2,I 74 (C X6 [(.s 71),(.s 72),(.s 73)]),M 70 74,X 75 70 0,X 76 70 1,X 77 70 2,I 14 (.box (.v ZT)),I 15 (.box (.v ZT)),N 7 14 75,N 7 15 76,M 16 77]
def ZMr:=R [0,3,4,10,14,15,16,79] [M 78 16,W 79 .neq 78 0]
def ZMs:=R [10,11] [I 80 (.build [(.int .u64 0),(.int .i64 0),(.int .i64 0),(.int .i64 0),(.int .i64 0),(.str []),.nils] []),M 81 16,N 7 10 80,M 11 81]
def ZMt:=R [0,4,10,14,16,18] [M 83 0,T 84 7 15,M 85 3,I 86 (C X6 [(.s 83),(.s 84),(.s 85)]),M 82 86,X 87 82 0,X 88 82 1,X 89 82 2,I 17 (.box (.v ZT)),I 18 (.box (.v ZT)),N 7 17 87,N 7 18 88,M 16 89]
def ZMu:=R [0,4,10,14,16,18,91] [M 90 16,W 91 .neq 90 0]
def ZMv:=R [10,11] [I 92 (.build [(.int .u64 0),(.int .i64 0),(.int .i64 0),(.int .i64 0),(.int .i64 0),(.str []),.nils] []),M 93 16,N 7 10 92,M 11 93]
def ZMw:=R [0,10,14,16,18,19] [M 95 4,I 96 (C XP [(.s 95)]),M 94 96,X 97 94 0,X 98 94 1,I 19 (.box (.v ZT)),N 7 19 97,M 16 98]
def ZMx:=R [0,10,14,16,18,19,100] [M 99 16,W 100 .neq 99 0]
def ZMy:=R [10,11] [I 101 (.build [(.int .u64 0),(.int .i64 0),(.int .i64 0),(.int .i64 0),(.int .i64 0),(.str []),.nils] []),M 102 16,N 7 10 101,M 11 102]
def ZMz:=R [0,10,14,16,18] [M 104 0,T 105 7 14,T 106 7 19,I 107 (C YC [(.s 104),(.s 105),(.s 106)]),M 103 107,X 108 103 0,X 109 103 1,N 7 14 108,M 16 109]
def ZM0:=R [0,10,14,16,18,111] [M 110 16,W 111 .neq 110 0]
def ZM1:=R [10,11] [I 112 (.build [(.int .u64 0),(.int .i64 0),(.int .i64 0),(.int .i64 0),(.int .i64 0),(.str []),.nils] []),M 113 16,N 7 10 112,M 11 113]
def ZM2:=R [10,14,16] [M 115 0,T 116 7 14,T 117 7 18,I 118 (C YC [(.s 115),(.s 116),(.s 117)]),M 114 118,X 119 114 0,X 120 114 1,N 7 14 119,M 16 120]
def ZM3:=R [10,11] [T 121 7 14,I 122 (C Y9 [(.s 121)]),M 123 16,N 7 10 122,M 11 123]
def ZIF:PF:=⟨false,
 (D ZPw
 (D (D ZPx
 (D ZPy
 (E 24
 (D ZPz
 .ret)
 .skip)))
 (D ZP0
 (D (D ZP1
 (E 46
 (D ZP2
 .ret)
 .skip))
 (D (D ZP3
 (E 60
 (D ZP4
 .ret)
 .skip))
 (D (D ZP5
 (E 67
 (D ZMp
 .ret)
 .skip))
 (D ZMq
 (D (D ZMr
 (E 79
 (D ZMs
 .ret)
 .skip))
 (D ZMt
 (D (D ZMu
 (E 91
 (D ZMv
 .ret)
 .skip))
 (D ZMw
 (D (D ZMx
 (E 100
 (D ZMy
 .ret)
 .skip))
 (D (D ZMz
 (D ZM0
 (E 111
 (D ZM1
 .ret)
 .skip)))
 (D ZM2
 (D ZM3
 .ret))))))))))))))),
 [.c 10 true 7,.s 11]⟩
theorem ZXn:ck0 false [] ZIF Tryz.f66=some ZIF:=by kernel_rfl
def ZXo:=R [0,3] [I 3 (.box (.s 1)),K 4 0]
def ZXp:=R [0,3,7] [M 6 0,I 7 (.eqs false 3 [] (.s 6) (.v .nilptr))]
def ZXq:=R [4] [K 4 1]
def ZXr:=R [0,3,10] [T 8 7 3,I 9 (C Qb [(.s 8)]),W 10 .eql 9 1]
def ZXs:=R [4] [K 4 0]
def ZXt:=R [3,5] [M 11 0,T 12 7 3,I 13 (C ZB1 [(.s 11),(.s 12),(.v (.bool false)),(V 0)]),M 5 13]
def ZXu:=R [3,5,15] [M 14 5,W 15 .neq 14 0]
def ZXv:=R [4] [M 16 5,M 4 16]
def ZXw:=R [19] [T 17 7 3,I 18 (C QV [(.s 17)]),W 19 .gtr 18 65536]
def ZXx:=R [4] [K 4 5]
def ZTK:=R [4] [K 4 0]
def ZM4:PF:=⟨false,
 (D ZXo
 (D (D ZXp
 (E 7
 (D ZXq
 .ret)
 .skip))
 (D (D ZXr
 (E 10
 (D ZXs
 .ret)
 .skip))
 (D (D ZXt
 (D ZXu
 (E 15
 (D ZXv
 .ret)
 .skip)))
 (D (D ZXw
 (E 19
 (D ZXx
 .ret)
 .skip))
 (D ZTK
 .ret)))))),
 [.s 4]⟩
theorem Zep:ck0 false [] ZM4 Tryz.f67=some ZM4:=by kernel_rfl
def ZTL:=R [1,2,3,4] [I 4 (.box (.s 0)),K 5 0]
def ZTM:=R [1,2,3,4,15] [F 13 1 4,L 14 13,W 15 .eql 14 0]
def ZTN:=R [2,6,7] [L 17 1,T 18 7 4,I 19 (C ZAE [(.s 17),(.s 18)]),M 16 19,X 20 16 0,X 21 16 1,M 6 20,M 7 21]
def ZTO:=R [7] [L 22 2,M 23 6,I 24 (.app 1 1 (.s 22) (.s 23)),N 1 2 24]
def ZTP:=R [5] [M 25 7,M 5 25]
def ZTQ:=R [3,8,9] [L 27 1,T 28 7 4,I 29 (C J3 [(.s 27),(.s 28)]),M 26 29,X 30 26 0,X 31 26 1,M 8 30,M 9 31]
def ZTR:=R [3,8,9,33] [M 32 9,W 33 .neq 32 0]
def ZTS:=R [5] [M 34 9,M 5 34]
def ZTT:=R [3,35,36,37] [M 35 8,I 36 (.len 1 (.s 35)),K 37 0]
def ZTU:=R [3,35,36,37,38] [B 38 .lss 37 36]
def ZP6:=R [3,11,35,36,37] [I 39 (.ixS 7 (.s 35) (.s 37)),T 40 7 39,I 11 (.box (.v ZT)),N 7 11 40]
def ZP7:=R [3,12,35,36,37] [L 41 3,T 42 7 11,I 43 (.call .norm (.s 41) [(.s 42)]),M 12 43]
def ZP8:=R [3,12,35,36,37,45] [M 44 12,W 45 .neq 44 0]
def ZP9:=R [5] [M 46 12,M 5 46]
def ZQA:=R [3,35,36,37] [W 47 .add 37 1,M 37 47]
def ZQB:PC:=(D ZTU
 (D (E 38
 .skip
 (.exit 0))
 (D (.block 1
 (D ZP6
 (D ZP7
 (D ZP8
 (E 45
 (D ZP9
 .ret)
 .skip)))))
 ZQA)))
def ZQC:=R [5] [K 5 0]
def ZJv:PF:=⟨false,
 (D ZTL
 (D (D ZTM
 (E 15
 (D ZTN
 (D ZTO
 (D ZTP
 .ret)))
 .skip))
 (D ZTQ
 (D (D ZTR
 (E 33
 (D ZTS
 .ret)
 .skip))
 (D (D ZTT
 (.block 0
 (.loop ZQB)))
 (D ZQC
 .ret)))))),
 [.s 5]⟩
theorem ZbB:ck0 false [] ZJv Tryz.f68=some ZJv:=by kernel_rfl
def ZbC:=R [0,3] [I 3 (.box (.s 1)),I 4 (.mv (.v (.str []))),K 5 0]
def ZbD:=R [0,3,10] [F 8 0 3,L 9 8,I 10 (.bin .eql (.s 9) (.v (.int .u64 0)))]
def ZbE:=R [4,5] [F 11 5 3,L 12 11,M 4 12,K 5 0]
def ZbF:=R [6,7] [M 14 0,F 15 0 3,L 16 15,I 17 (C Qo [(.s 14),(.s 16)]),M 13 17,X 18 13 0,X 19 13 1,I 6 (.box (.v ZN)),N 3 6 18,M 7 19]
def ZbG:=R [4,5] [F 20 1 6,L 21 20,M 22 7,M 4 21,M 5 22]
def ZR4:PF:=⟨false,
 (D ZbC
 (D (D ZbD
 (E 10
 (D ZbE
 .ret)
 .skip))
 (D ZbF
 (D ZbG
 .ret)))),
 [.s 4,.s 5]⟩
theorem ZhK:ck0 false [] ZR4 Tryz.f69=some ZR4:=by kernel_rfl
def ZM5:=R [0,3] [I 3 (.box (.s 1)),I 4 (.mv (.v .nils)),K 5 0]
def ZM6:=R [0,3,13] [F 11 0 3,L 12 11,I 13 (.bin .eql (.s 12) (.v (.int .u64 0)))]
def ZM7:=R [4,5] [F 14 6 3,L 15 14,M 4 15,K 5 0]
def ZM8:=R [6,7] [M 17 0,F 18 0 3,L 19 18,I 20 (C Qo [(.s 17),(.s 19)]),M 16 20,X 21 16 0,X 22 16 1,I 6 (.box (.v ZN)),N 3 6 21,M 7 22]
def ZM9:=R [6,7,24] [M 23 7,W 24 .neq 23 0]
def ZNA:=R [4,5] [M 25 7,I 4 (.mv (.v .nils)),M 5 25]
def ZNB:=R [6,8] [I 8 (.onil 7)]
def ZNC:=R [6,8,27,28,29] [F 26 2 6,L 27 26,I 28 (.len 1 (.s 27)),K 29 0]
def ZND:=R [6,8,27,28,29,30] [B 30 .lss 29 28]
def ZNE:=R [6,8,10,27,28,29] [I 31 (.ixS 4 (.s 27) (.s 29)),T 32 4 31,I 10 (.box (.v ZK)),N 4 10 32]
def ZKs:=R [6,8,27,28,29] [M 33 8,F 34 0 10,L 35 34,F 36 0 6,L 37 36,W 38 .sub 37 1,F 39 1 10,T 40 3 39,I 41 (.build [(.int .u64 0),(.int .i64 0),(.int .i64 0),(.int .i64 0),(.int .i64 0),(.str []),.nils] [(0,1,(.s 35)),(1,1,(.s 38)),(2,3,(.s 40))]),I 42 (.bslice false 7 [ZT] [(0,(.s 41))]),I 43 (.app 7 80 (.s 33) (.s 42)),M 8 43]
def ZKt:=R [6,8,27,28,29] [W 44 .add 29 1,M 29 44]
def ZC6:PC:=(D ZND
 (D (E 30
 .skip
 (.exit 0))
 (D (.block 1
 (D ZNE
 ZKs))
 ZKt)))
def ZKu:=R [8,47] [M 45 8,I 46 (.len 1 (.s 45)),W 47 .eql 46 0]
def ZKv:=R [4,5] [I 4 (.mv (.v .nils)),K 5 23]
def ZKw:=R [4,5] [M 48 8,M 4 48,K 5 0]
def ZFy:PF:=⟨false,
 (D ZM5
 (D (D ZM6
 (E 13
 (D ZM7
 .ret)
 .skip))
 (D ZM8
 (D (D ZM9
 (E 24
 (D ZNA
 .ret)
 .skip))
 (D ZNB
 (D (D ZNC
 (.block 0
 (.loop ZC6)))
 (D (D ZKu
 (E 47
 (D ZKv
 .ret)
 .skip))
 (D ZKw
 .ret)))))))),
 [.s 4,.s 5]⟩
theorem ZTW:ck0 false [(6,⟨[6,8],[0],[],[],[],[]⟩)] ZFy Tryz.f70=some ZFy:=by kernel_rfl
def ZbH:=R [1] [I 1 (.box (.s 0)),K 2 0]
def ZbI:=R [1,3] [F 4 2 1,T 5 3 4,I 6 (.build [(.int .i64 0),(.int .i64 0),(.int .i64 0)] []),I 7 (.eqs false 0 [(0,0),(1,0),(2,0)] (.s 5) (.s 6)),M 8 7,G 9 8 true (.fadr 0 (.s 1)),G 10 8 true (.ld false 1 (.s 9)),G 11 8 true (.bin .eql (.s 10) (.v (.int .u64 0))),I 12 (.pick (.s 8) (.s 11) (.v (.bool false))),M 3 12]
def ZbJ:=R [1,3,13] [M 14 3,M 15 14,G 16 15 true (.fadr 1 (.s 1)),G 17 15 true (.ld false 1 (.s 16)),G 18 15 true (.bin .eql (.s 17) (V 0)),I 19 (.pick (.s 15) (.s 18) (.v (.bool false))),M 20 19,G 21 20 true (.fadr 5 (.s 1)),G 22 20 true (.ld false 1 (.s 21)),G 23 20 true (.bin .eql (.s 22) (.v (.str []))),I 24 (.pick (.s 20) (.s 23) (.v (.bool false))),M 25 24,G 26 25 true (.fadr 6 (.s 1)),G 27 25 true (.ld false 1 (.s 26)),G 28 25 true (.len 1 (.s 27)),G 29 25 true (.bin .eql (.s 28) (V 0)),I 30 (.pick (.s 25) (.s 29) (.v (.bool false))),M 13 30]
def ZbK:=R [2] [K 2 1]
def ZbL:=R [1,3,31] [F 32 0 1,L 33 32,I 34 (.bin .neq (.s 33) (.v (.int .u64 0))),M 35 34,G 36 35 true (.fadr 5 (.s 1)),G 37 35 true (.ld false 1 (.s 36)),G 38 35 true (.bin .eql (.s 37) (.v (.str []))),I 39 (.pick (.s 35) (.s 38) (.v (.bool false))),M 40 39,G 41 40 true (.fadr 6 (.s 1)),G 42 40 true (.ld false 1 (.s 41)),G 43 40 true (.len 1 (.s 42)),G 44 40 true (.bin .eql (.s 43) (V 0)),I 45 (.pick (.s 40) (.s 44) (.v (.bool false))),M 31 45]
def ZbM:=R [2] [K 2 2]
def ZbN:=R [1,3,46] [M 47 3,M 48 47,G 49 48 true (.fadr 1 (.s 1)),G 50 48 true (.ld false 1 (.s 49)),G 51 48 true (.bin .eql (.s 50) (V 0)),I 52 (.pick (.s 48) (.s 51) (.v (.bool false))),M 53 52,G 54 53 true (.fadr 6 (.s 1)),G 55 53 true (.ld false 1 (.s 54)),G 56 53 true (.len 1 (.s 55)),G 57 53 true (.bin .eql (.s 56) (V 0)),I 58 (.pick (.s 53) (.s 57) (.v (.bool false))),M 59 58,G 60 59 true (.fadr 5 (.s 1)),G 61 59 true (.ld false 1 (.s 60)),G 62 59 true (.len 0 (.s 61)),G 63 59 true (.bin .leq (.s 62) (V 16)),I 64 (.pick (.s 59) (.s 63) (.v (.bool false))),M 46 64]
def ZbO:=R [2] [K 2 3]
def ZbP:=R [65] [M 66 3,M 67 66,G 68 67 true (.fadr 5 (.s 1)),G 69 67 true (.ld false 1 (.s 68)),G 70 67 true (.bin .eql (.s 69) (.v (.str []))),I 71 (.pick (.s 67) (.s 70) (.v (.bool false))),M 72 71,G 73 72 true (.fadr 1 (.s 1)),G 74 72 true (.ld false 1 (.s 73)),G 75 72 true (.bin .geq (.s 74) (V 1)),I 76 (.pick (.s 72) (.s 75) (.v (.bool false))),M 77 76,G 78 77 true (.fadr 1 (.s 1)),G 79 77 true (.ld false 1 (.s 78)),G 80 77 true (.bin .leq (.s 79) (V 16)),I 81 (.pick (.s 77) (.s 80) (.v (.bool false))),M 82 81,G 83 82 true (.fadr 6 (.s 1)),G 84 82 true (.ld false 1 (.s 83)),G 85 82 true (.len 1 (.s 84)),G 86 82 true (.bin .geq (.s 85) (V 2)),I 87 (.pick (.s 82) (.s 86) (.v (.bool false))),M 88 87,G 89 88 true (.fadr 6 (.s 1)),G 90 88 true (.ld false 1 (.s 89)),G 91 88 true (.len 1 (.s 90)),G 92 88 true (.bin .leq (.s 91) (V 4)),I 93 (.pick (.s 88) (.s 92) (.v (.bool false))),M 65 93]
def ZbQ:=R [2] [K 2 4]
def ZXy:=R [2] [K 2 0]
def ZR5:PF:=⟨false,
 (D ZbH
 (D ZbI
 (D (.block 0
 (D ZbJ
 (E 13
 (D ZbK
 .ret)
 (D ZbL
 (E 31
 (D ZbM
 .ret)
 (D ZbN
 (E 46
 (D ZbO
 .ret)
 (D ZbP
 (E 65
 (D ZbQ
 .ret)
 .skip)))))))))
 (D ZXy
 .ret)))),
 [.s 2]⟩
theorem ZhM:ck0 false [] ZR5 Tryz.f71=some ZR5:=by kernel_rfl
def ZXz:=R [0,3] [I 3 (.box (.s 1)),I 4 (.mv (.v .nilptr)),K 5 0]
def ZX0:=R [0,3,6] [M 8 0,T 9 7 3,I 10 (C JS [(.s 8),(.s 9)]),M 6 10]
def ZX1:=R [0,3,6,12] [M 11 6,W 12 .neq 11 0]
def ZX2:=R [4,5] [M 13 6,I 4 (.mv (.v .nilptr)),M 5 13]
def ZX3:=R [0,3,19] [T 14 7 3,I 15 (C ZAt [(.s 14)]),M 16 0,I 17 (C Xc [(.s 16)]),I 18 (.fld false 1 1 (.s 17)),B 19 .gtr 15 18]
def ZX4:=R [4,5] [I 4 (.mv (.v .nilptr)),K 5 6]
def ZX5:=R [3,7] [M 20 0,I 21 (.build [.nilptr,.nils,.nilptr] [(0,1,(.s 20))]),I 22 (.box (.s 21)),M 7 22]
def ZX6:=R [7] [M 23 7,M 24 7,T 25 7 3,I 26 (C Qs [(.s 24),(.s 25)]),I 27 (.nilck (.s 23)),F 28 2 27,N 1 28 26]
def ZX7:=R [4,5] [M 29 7,M 4 29,K 5 0]
def ZNF:PF:=⟨true,
 (D ZXz
 (D (D ZX0
 (D ZX1
 (E 12
 (D ZX2
 .ret)
 .skip)))
 (D (D ZX3
 (E 19
 (D ZX4
 .ret)
 .skip))
 (D ZX5
 (D ZX6
 (D ZX7
 .ret)))))),
 [.s 4,.s 5]⟩
theorem Zer:ck0 true [] ZNF Tryz.f72=some ZNF:=by kernel_rfl
def ZNG:=R [0] [I 2 (.mv (.v (.int .u64 0))),I 3 (.mv (.v (.bool false))),K 4 0]
def ZNH:=R [0,6] [M 5 0,I 6 (.eqs false 3 [] (.s 5) (.v .nilptr))]
def ZNI:=R [2,3,4] [I 2 (.mv (.v (.int .u64 0))),I 3 (.mv (.v (.bool false))),K 4 1]
def ZNJ:=R [0,12] [M 7 0,I 8 (.nilck (.s 7)),F 9 1 8,L 10 9,I 11 (.len 1 (.s 10)),W 12 .eql 11 0]
def ZNK:=R [2,3,4] [I 2 (.mv (.v (.int .u64 0))),I 3 (.mv (.v (.bool true))),K 4 0]
def ZNL:=R [0,2,4] [M 14 0,I 15 (.nilck (.s 14)),F 16 1 15,L 17 16,I 18 (.ixS 1 (.s 17) (V 0)),L 19 18,I 20 (.call .norm (.s 19) []),M 13 20,X 21 13 0,X 22 13 1,M 2 21,M 4 22]
def ZNM:=R [0,2,4,24] [M 23 4,W 24 .neq 23 0]
def ZNN:=R [2,3,4] [M 25 4,I 2 (.mv (.v (.int .u64 0))),I 3 (.mv (.v (.bool false))),M 4 25]
def ZNO:=R [0,2] [M 26 0,M 27 0,I 28 (.nilck (.s 27)),F 29 1 28,L 30 29,I 31 (.slc 1 (.s 30) (some (V 1)) none),I 32 (.nilck (.s 26)),F 33 1 32,N 1 33 31]
def ZNP:=R [2,3,4] [M 34 2,M 35 0,I 36 (.nilck (.s 35)),F 37 1 36,L 38 37,I 39 (.len 1 (.s 38)),W 40 .eql 39 0,M 2 34,M 3 40,K 4 0]
def ZFz:PF:=⟨false,
 (D ZNG
 (D (D ZNH
 (E 6
 (D ZNI
 .ret)
 .skip))
 (D (D ZNJ
 (E 12
 (D ZNK
 .ret)
 .skip))
 (D ZNL
 (D (D ZNM
 (E 24
 (D ZNN
 .ret)
 .skip))
 (D ZNO
 (D ZNP
 .ret))))))),
 [.s 2,.s 3,.s 4]⟩
theorem ZTY:ck0 false [] ZFz Tryz.f73=some ZFz:=by kernel_rfl
def ZNQ:=R [0,2] [I 2 (.box (.v ZR)),K 3 0]
def ZNR:=R [0,2,5] [M 4 0,I 5 (.eqs false 3 [] (.s 4) (.v .nilptr))]
def ZNS:=R [2,3] [I 6 (.build [(.int .u64 0),(.int .i64 0),(.int .i64 0),(.int .i64 0),(.int .i64 0)] []),N 5 2 6,K 3 1]
def ZNT:=R [0,2,12] [M 7 0,I 8 (.nilck (.s 7)),F 9 1 8,L 10 9,I 11 (.len 1 (.s 10)),W 12 .gtr 11 0]
def ZNU:=R [2,3] [I 13 (.build [(.int .u64 0),(.int .i64 0),(.int .i64 0),(.int .i64 0),(.int .i64 0)] []),N 5 2 13,K 3 8]
def ZNV:=R [2,3] [M 14 0,I 15 (.nilck (.s 14)),F 16 2 15,L 17 16,I 18 (.nilck (.s 17)),T 19 5 18,N 5 2 19,K 3 0]
def ZF0:PF:=⟨false,
 (D ZNQ
 (D (D ZNR
 (E 5
 (D ZNS
 .ret)
 .skip))
 (D (D ZNT
 (E 12
 (D ZNU
 .ret)
 .skip))
 (D ZNV
 .ret)))),
 [.c 2 true 5,.s 3]⟩
theorem ZTa:ck0 false [] ZF0 Tryz.f74=some ZF0:=by kernel_rfl
def ZQD:=R [1,2,3] [I 3 (.box (.s 0))]
def ZQE:=R [1,2,3,4] [I 4 (.box (.v .nilfunc))]
def ZQF:=R [2,4] [I 5 (.mkf (.func YS) [] [(.s 1),(.s 3),(.s 4)]),N 1 4 5]
def ZQG:=R [2,4,8] [F 6 0 2,L 7 6,I 8 (.bin .neq (.s 7) (.v (.int .u64 0)))]
def ZQH:=R [] [L 9 4,F 10 0 2,L 11 10,I 12 (.call .norm (.s 9) [(.s 11)])]
def ZIG:PF:=⟨false,
 (D ZQD
 (D ZQE
 (D ZQF
 (D ZQG
 (E 8
 ZQH
 .skip))))),
 []⟩
theorem ZX9:ck0 false [] ZIG Tryz.f79=some ZIG:=by kernel_rfl
def ZKx:=R [0,1,2,3] [I 5 (.mv (.v (.bool false)))]
def ZKy:=R [0,2,3,6,7] [L 11 1,M 12 0,I 13 (C Qo [(.s 11),(.s 12)]),M 10 13,X 14 10 0,X 15 10 1,I 6 (.box (.v ZN)),N 3 6 14,M 7 15]
def ZKz:=R [3,6,26] [L 16 2,M 17 0,T 18 3 6,M 19 7,I 20 (.build [(.int .i64 0),(.str []),.nils,(.int .i64 0)] [(0,3,(.s 18)),(3,1,(.s 19))]),I 21 (.call .norm (.s 16) [(.s 17),(.s 20)]),I 22 (.un .not (.s 21)),M 23 22,U 24 23 false 7,G 25 23 false (.bin .neq (.s 24) (V 0)),I 26 (.pick (.s 23) (.v (.bool true)) (.s 25))]
def ZK0:=R [5] [I 5 (.mv (.v (.bool false)))]
def ZK1:=R [3,28,29,30] [F 27 2 6,L 28 27,I 29 (.len 1 (.s 28)),K 30 0]
def ZK2:=R [3,28,29,30,31] [B 31 .lss 30 29]
def ZK3:=R [3,9,28,29,30] [I 32 (.ixS 4 (.s 28) (.s 30)),T 33 4 32,I 9 (.box (.v ZK)),N 4 9 33]
def ZK4:=R [3,28,29,30,38] [L 34 3,F 35 0 9,L 36 35,I 37 (.call .norm (.s 34) [(.s 36)]),I 38 (.un .not (.s 37))]
def ZK5:=R [5] [I 5 (.mv (.v (.bool false)))]
def ZK6:=R [3,28,29,30] [W 39 .add 30 1,M 30 39]
def ZJV:PC:=(D ZK2
 (D (E 31
 .skip
 (.exit 0))
 (D (.block 1
 (D ZK3
 (D ZK4
 (E 38
 (D ZK5
 .ret)
 .skip))))
 ZK6)))
def ZJW:=R [5] [I 5 (.mv (.v (.bool true)))]
def ZD4:PF:=⟨false,
 (D ZKx
 (D ZKy
 (D (D ZKz
 (E 26
 (D ZK0
 .ret)
 .skip))
 (D (D ZK1
 (.block 0
 (.loop ZJV)))
 (D ZJW
 .ret))))),
 [.s 5]⟩
theorem ZQJ:ck0 false [] ZD4 Tryz.f80=some ZD4:=by kernel_rfl
def ZJX:=R [0,1,4] [I 4 (.box (.v ZN)),K 5 0]
def ZJY:=R [0,1,4,9] [M 8 0,I 9 (.eqs false 3 [] (.s 8) (.v .nilptr))]
def ZJZ:=R [4,5] [I 10 (.build [(.int .i64 0),(.str []),.nils] []),N 3 4 10,K 5 1]
def ZJa:=R [0,4,6,7] [M 12 0,I 13 (.nilck (.s 12)),F 14 2 13,L 15 14,M 16 1,I 17 (.look 0 ZN true (.s 15) (.s 16)),M 11 17,X 18 11 0,X 19 11 1,I 6 (.box (.v ZN)),N 3 6 18,M 7 19]
def ZJb:=R [0,4,6,21] [M 20 7,I 21 (.un .not (.s 20))]
def ZJc:=R [4] [M 22 0,I 23 (.nilck (.s 22)),F 24 5 23,L 25 24,W 26 .add 25 1,I 27 (.nilck (.s 22)),F 28 5 27,N 1 28 26]
def ZJd:=R [4,5] [I 29 (.build [(.int .i64 0),(.str []),.nils] []),N 3 4 29,K 5 10]
def ZJe:=R [4,6] [F 30 2 6,L 31 30,I 32 (C Z8 [(.s 31)]),F 33 2 6,N 1 33 32]
def ZJf:=R [4,5] [T 34 3 6,N 3 4 34,K 5 0]
def ZDU:PF:=⟨false,
 (D ZJX
 (D (D ZJY
 (E 9
 (D ZJZ
 .ret)
 .skip))
 (D ZJa
 (D (D ZJb
 (E 21
 (D ZJc
 (D ZJd
 .ret))
 .skip))
 (D ZJe
 (D ZJf
 .ret)))))),
 [.c 4 true 3,.s 5]⟩
theorem ZNX:ck0 false [] ZDU Tryz.f81=some ZDU:=by kernel_rfl
def ZD5:=R [0,1] [I 4 (.mv (.v .nils))]
def ZD6:=R [0,1,5] [I 5 (.onil 1)]
def ZD7:=R [0,1,5,9] [M 8 0,I 9 (.eqs false 3 [] (.s 8) (.v .nilptr))]
def ZD8:=R [4] [M 10 5,M 4 10]
def ZD9:=R [1,5,14,15,16] [M 11 0,I 12 (.nilck (.s 11)),F 13 1 12,L 14 13,I 15 (.len 1 (.s 14)),K 16 0]
def ZEA:=R [1,5,14,15,16,17] [B 17 .lss 16 15]
def ZEB:=R [1,5,6,7,14,15,16] [M 18 16,I 19 (.ixS 1 (.s 14) (.s 16)),L 20 19,M 6 18,M 7 20]
def ZEC:=R [1,5,6,14,15,16,23] [M 21 7,M 22 1,B 23 .eql 21 22]
def ZED:=R [1,5,14,15,16] [M 24 5,M 25 6,I 26 (.bslice false 1 [(.int .i64 0)] [(0,(.s 25))]),I 27 (.app 1 8 (.s 24) (.s 26)),M 5 27]
def ZEE:=R [1,5,14,15,16] [W 28 .add 16 1,M 16 28]
def ZDq:PC:=(D ZEA
 (D (E 17
 .skip
 (.exit 0))
 (D (.block 1
 (D ZEB
 (D ZEC
 (E 23
 ZED
 .skip))))
 ZEE)))
def ZDr:=R [4] [M 29 5,M 4 29]
def ZAh:PF:=⟨false,
 (D ZD5
 (D ZD6
 (D (D ZD7
 (E 9
 (D ZD8
 .ret)
 .skip))
 (D (D ZD9
 (.block 0
 (.loop ZDq)))
 (D ZDr
 .ret))))),
 [.s 4]⟩
theorem ZGs:ck0 false [(1,⟨[0,1,5],[0],[],[],[],[]⟩)] ZAh Tryz.f83=some ZAh:=by kernel_rfl
def ZTb:=R [0,1] [I 4 (.mv (.v (.int .u64 0))),K 5 0]
def ZTc:=R [0,1,19] [M 6 0,W 7 .lss 6 0,M 8 7,U 9 8 false 0,G 10 8 false (.bin .geq (.s 9) (V 16384)),I 11 (.pick (.s 8) (.v (.bool true)) (.s 10)),M 12 11,U 13 12 false 1,G 14 12 false (.bin .lss (.s 13) (.v (.int .u64 1))),I 15 (.pick (.s 12) (.v (.bool true)) (.s 14)),M 16 15,U 17 16 false 1,G 18 16 false (.bin .gtr (.s 17) (.v (.int .u64 4294967295))),I 19 (.pick (.s 16) (.v (.bool true)) (.s 18))]
def ZTd:=R [4,5] [I 4 (.mv (.v (.int .u64 0))),K 5 3]
def ZTe:=R [4,5] [M 20 1,I 21 (.bin .shl (.s 20) (.v (.int .u64 16))),M 22 0,I 23 (.cint .u64 (.s 22)),B 24 .or 21 23,M 4 24,K 5 0]
def ZJw:PF:=⟨false,
 (D ZTb
 (D (D ZTc
 (E 19
 (D ZTd
 .ret)
 .skip))
 (D ZTe
 .ret))),
 [.s 4,.s 5]⟩
theorem ZbS:ck0 false [] ZJw Tryz.f84=some ZJw:=by kernel_rfl
def ZQK:=R [0,1] [I 4 (.mv (.v .nilptr)),K 5 0]
def ZQL:=R [0,1,21] [M 8 0,W 9 .lss 8 1,M 10 9,U 11 10 false 0,G 12 10 false (.bin .gtr (.s 11) (V 16384)),I 13 (.pick (.s 10) (.v (.bool true)) (.s 12)),M 14 13,U 15 14 false 1,G 16 14 false (.bin .lss (.s 15) (.v (.int .u64 1))),I 17 (.pick (.s 14) (.v (.bool true)) (.s 16)),M 18 17,U 19 18 false 1,G 20 18 false (.bin .gtr (.s 19) (.v (.int .u64 4294967295))),I 21 (.pick (.s 18) (.v (.bool true)) (.s 20))]
def ZQM:=R [4,5] [I 4 (.mv (.v .nilptr)),K 5 3]
def ZQN:PC:=(.regH [3,1,5] [0,6] [M 22 0,I 23 (.w (.here 1) (.mkslice 1 8 (.int .i64 0) (.s 22) (.s 22))),M 24 0,I 25 (.w (.here 3) (.mkslice 1 1 (.int .u8 0) (.s 24) (.s 24))),M 26 0,I 27 (.w (.here 5) (.mkslice 1 8 (.int .u64 0) (.s 26) (.s 26))),M 28 1,I 29 (.build [.nils,.nils,.nils,(.int .u64 0)] [(0,1,(.s 23)),(1,1,(.s 25)),(2,1,(.s 27)),(3,1,(.s 28))]),I 30 (.box (.s 29)),M 6 30])
def ZQO:=R [0,6,31,32] [M 31 0,K 32 0]
def ZQP:=R [0,6,31,32,33] [B 33 .lss 32 31]
def ZQQ:=R [0,6,7,31,32] [M 34 32,M 7 34]
def ZQR:=R [0,6,7,31,32] [M 35 6,I 36 (.nilck (.s 35)),F 37 0 36,L 38 37,M 39 7,M 40 0,W 41 .sub 40 1,M 42 7,B 43 .sub 41 42,I 44 (.ixS 1 (.s 38) (.s 39)),N 1 44 43]
def ZQS:=R [0,6,31,32] [M 45 6,I 46 (.nilck (.s 45)),F 47 2 46,L 48 47,M 49 7,I 50 (.ixS 1 (.s 48) (.s 49)),J (.st 1 (.s 50) (.v (.int .u64 1)))]
def ZQT:=R [0,6,31,32] [W 51 .add 32 1,M 32 51]
def ZNY:PC:=(D ZQP
 (D (E 33
 .skip
 (.exit 0))
 (D (.block 1
 (D ZQQ
 (D ZQR
 ZQS)))
 ZQT)))
def ZNZ:=R [4,5] [M 52 6,M 4 52,K 5 0]
def ZIH:PF:=⟨true,
 (D ZQK
 (D (D ZQL
 (E 21
 (D ZQM
 .ret)
 .skip))
 (D ZQN
 (D (D ZQO
 (.block 0
 (.loop ZNY)))
 (D ZNZ
 .ret))))),
 [.s 4,.s 5]⟩
theorem ZYB:ck0 true [(3,⟨[0,6],[],[],[],[(1,(.here 1)),(5,(.here 5)),(3,(.here 3))],[3,1,5]⟩)] ZIH Tryz.f87=some ZIH:=by kernel_rfl
def ZbT:=R [0,1,2,7] [I 7 (.box (.s 3)),K 8 0]
def ZbU:=R [2,7,9,10] [M 13 0,M 14 1,I 15 (C Qo [(.s 13),(.s 14)]),M 12 15,X 16 12 0,X 17 12 1,I 9 (.box (.v ZN)),N 3 9 16,M 10 17]
def ZbV:=R [2,7,9,10,19] [M 18 10,W 19 .neq 18 0]
def ZbW:=R [8] [M 20 10,M 8 20]
def ZbX:=R [2,7,9,10,11] [T 22 3 9,I 23 (C XA [(.s 22)]),M 21 23,X 24 21 0,X 25 21 1,I 11 (.box (.v ZM)),N 3 11 24,M 10 25]
def ZbY:=R [38] [M 26 10,W 27 .neq 26 0,M 28 27,G 29 28 false (.fadr 0 (.s 9)),G 30 28 false (.ld false 1 (.s 29)),U 31 28 false 2,G 32 28 false (.bin .neq (.s 30) (.s 31)),I 33 (.pick (.s 28) (.v (.bool true)) (.s 32)),M 34 33,G 35 34 false (.ld true 3 (.s 11)),G 36 34 false (.ld true 3 (.s 7)),G 37 34 false (.eqs true 0 [(0,0),(1,0),(2,0)] (.s 35) (.s 36)),I 38 (.pick (.s 34) (.v (.bool true)) (.s 37))]
def ZbZ:=R [8] [K 8 23]
def Zba:=R [8] [K 8 0]
def ZR6:PF:=⟨false,
 (D ZbT
 (D ZbU
 (D (D ZbV
 (E 19
 (D ZbW
 .ret)
 .skip))
 (D ZbX
 (D (D ZbY
 (E 38
 (D ZbZ
 .ret)
 .skip))
 (D Zba
 .ret)))))),
 [.s 8]⟩
theorem ZhO:ck0 false [] ZR6 Tryz.f88=some ZR6:=by kernel_rfl
def ZTf:=R [1] [I 1 (.box (.s 0)),I 2 (.mv (.v (.bool false)))]
def ZTg:=R [1,4] [F 3 0 1,L 4 3]
def ZTh:=R [1,4,5] [I 6 (.bin .eql (.s 4) (.v (.int .u8 1))),M 5 6]
def ZTi:=R [1,4,5] [I 7 (.bin .eql (.s 4) (.v (.int .u8 3))),M 5 7]
def ZTj:=R [2] [F 8 1 1,L 9 8,W 10 .geq 9 1,M 11 10,G 12 11 true (.fadr 2 (.s 1)),G 13 11 true (.ld false 1 (.s 12)),G 14 11 true (.bin .eql (.s 13) (.v (.str []))),I 15 (.pick (.s 11) (.s 14) (.v (.bool false))),M 2 15]
def ZTk:=R [1,16] [I 17 (.bin .eql (.s 4) (.v (.int .u8 2))),M 16 17]
def ZTl:=R [2] [F 18 1 1,L 19 18,W 20 .eql 19 0,M 21 20,G 22 21 true (.fadr 2 (.s 1)),G 23 21 true (.ld false 1 (.s 22)),G 24 21 true (.bin .neq (.s 23) (.v (.str []))),I 25 (.pick (.s 21) (.s 24) (.v (.bool false))),M 2 25]
def ZTm:=R [2] [I 2 (.mv (.v (.bool false)))]
def ZJx:PF:=⟨false,
 (D ZTf
 (D (D ZTg
 (.block 0
 (D (D ZTh
 (E 5
 .skip
 ZTi))
 (E 5
 (D ZTj
 .ret)
 (D ZTk
 (E 16
 (D ZTl
 .ret)
 .skip))))))
 (D ZTm
 .ret))),
 [.s 2]⟩
theorem Zbc:ck0 false [] ZJx Tryz.f89=some ZJx:=by kernel_rfl
def ZTn:=R [1] [I 1 (.box (.s 0)),K 2 0,K 3 0]
def ZTo:=R [1,5] [F 4 0 1,L 5 4]
def ZTp:=R [1,5,6] [I 7 (.bin .eql (.s 5) (.v (.int .u8 1))),M 6 7]
def ZTq:=R [2,3] [F 8 1 1,L 9 8,F 10 1 1,L 11 10,M 2 9,M 3 11]
def ZTr:=R [1,12] [I 13 (.bin .eql (.s 5) (.v (.int .u8 3))),M 12 13]
def ZTs:=R [2,3] [F 14 1 1,L 15 14,M 2 15,K 3 0]
def ZTt:=R [2,3] [F 16 2 1,L 17 16,I 18 (.len 0 (.s 17)),K 2 0,M 3 18]
def ZJy:PF:=⟨false,
 (D ZTn
 (D (D ZTo
 (.block 0
 (D ZTp
 (E 6
 (D ZTq
 .ret)
 (D ZTr
 (E 12
 (D ZTs
 .ret)
 .skip))))))
 (D ZTt
 .ret))),
 [.s 2,.s 3]⟩
theorem Zbe:ck0 false [] ZJy Tryz.f90=some ZJy:=by kernel_rfl
def Zes:=R [0,2,4,6,7] [I 4 (.box (.s 1)),I 6 (.box (.v ZT)),I 7 (.box (.v ZT)),K 8 0]
def Zet:=R [0,2,4,6,7,9] [M 12 0,T 13 7 4,I 14 (C JS [(.s 12),(.s 13)]),M 9 14]
def Zeu:=R [0,2,4,6,7,9,16] [M 15 9,W 16 .neq 15 0]
def Zev:=R [6,7,8] [I 17 (.build [(.int .u64 0),(.int .i64 0),(.int .i64 0),(.int .i64 0),(.int .i64 0),(.str []),.nils] []),I 18 (.build [(.int .u64 0),(.int .i64 0),(.int .i64 0),(.int .i64 0),(.int .i64 0),(.str []),.nils] []),M 19 9,N 7 6 17,N 7 7 18,M 8 19]
def Zew:=R [0,2,4,6,7,27] [M 20 2,W 21 .lss 20 0,M 22 21,U 23 22 false 2,G 24 22 false (.ld true 7 (.s 4)),G 25 22 false (C QV [(.s 24)]),G 26 22 false (.bin .gtr (.s 23) (.s 25)),I 27 (.pick (.s 22) (.v (.bool true)) (.s 26))]
def Zex:=R [6,7,8] [I 28 (.build [(.int .u64 0),(.int .i64 0),(.int .i64 0),(.int .i64 0),(.int .i64 0),(.str []),.nils] []),I 29 (.build [(.int .u64 0),(.int .i64 0),(.int .i64 0),(.int .i64 0),(.int .i64 0),(.str []),.nils] []),N 7 6 28,N 7 7 29,K 8 3]
def Zey:=R [6,7,8,10,11] [M 31 0,T 32 7 4,M 33 2,I 34 (C X6 [(.s 31),(.s 32),(.s 33)]),M 30 34,X 35 30 0,X 36 30 1,X 37 30 2,I 10 (.box (.v ZT)),I 11 (.box (.v ZT)),N 7 10 35,N 7 11 36,M 8 37]
def Zez:=R [6,7,8] [T 38 7 10,I 39 (.call .pure (.v (.func (.func Y9) [] [])) [(.s 38)]),T 40 7 11,I 41 (C Y9 [(.s 40)]),M 42 8,N 7 6 39,N 7 7 41,M 8 42]
def ZYC:PF:=⟨false,
 (D Zes
 (D (D Zet
 (D Zeu
 (E 16
 (D Zev
 .ret)
 .skip)))
 (D (D Zew
 (E 27
 (D Zex
 .ret)
 .skip))
 (D Zey
 (D Zez
 .ret))))),
 [.c 6 true 7,.c 7 true 7,.s 8]⟩
theorem Zi7:ck0 false [(7,⟨[6,7,8],[],[(1,.pure)],[],[],[]⟩)] ZYC Tryz.f91=some ZYC:=by kernel_rfl
def ZTu:=R [0,4,5,6] [I 4 (.box (.s 1)),I 5 (.box (.s 2)),I 6 (.box (.v ZT)),K 7 0]
def ZTv:=R [0,4,5,6,8] [M 11 0,T 12 7 4,T 13 7 5,I 14 (C ZHG [(.s 11),(.s 12),(.s 13),(.v (.bool true))]),M 8 14]
def ZTw:=R [0,4,5,6,8,16] [M 15 8,W 16 .neq 15 0]
def ZTx:=R [6,7] [I 17 (.build [(.int .u64 0),(.int .i64 0),(.int .i64 0),(.int .i64 0),(.int .i64 0),(.str []),.nils] []),M 18 8,N 7 6 17,M 7 18]
def ZTy:=R [6,9,10] [M 20 0,T 21 7 4,T 22 7 5,I 23 (C YC [(.s 20),(.s 21),(.s 22)]),M 19 23,X 24 19 0,X 25 19 1,I 9 (.box (.v ZT)),N 7 9 24,M 10 25]
def ZTz:=R [6,7] [T 26 7 9,I 27 (C Y9 [(.s 26)]),M 28 10,N 7 6 27,M 7 28]
def ZJz:PF:=⟨false,
 (D ZTu
 (D (D ZTv
 (D ZTw
 (E 16
 (D ZTx
 .ret)
 .skip)))
 (D ZTy
 (D ZTz
 .ret)))),
 [.c 6 true 7,.s 7]⟩
theorem Zbg:ck0 false [] ZJz Tryz.f92=some ZJz:=by kernel_rfl
def Zbh:=R [1] [I 1 (.box (.s 0)),I 2 (.mv (.v .nils))]
def Zbi:=R [1,3] [I 3 (.boxnil 1)]
def Zbj:=R [1,3,4] [I 6 (.mkmap),I 4 (.box (.v .nilmap)),N 1 4 6]
def Zbk:=R [1,3,4,5] [I 5 (.box (.v .nilfunc))]
def Zbl:=R [1,3,5] [I 7 (.mkf (.func Yo) [] [(.s 4),(.s 3),(.s 5)]),N 1 5 7]
def Zbm:=R [3] [L 8 5,T 9 7 1,I 10 (.call .norm (.s 8) [(.s 9)])]
def Zbn:=R [2] [L 11 3,M 2 11]
def ZR7:PF:=⟨false,
 (D Zbh
 (D Zbi
 (D Zbj
 (D Zbk
 (D Zbl
 (D Zbm
 (D Zbn
 .ret))))))),
 [.s 2]⟩
theorem ZhQ:ck0 false [(1,⟨[1,3],[0],[],[],[],[]⟩)] ZR7 Tryz.f93=some ZR7:=by kernel_rfl
def ZYD:=R [0,1,2,3] [K 8 0]
def ZYE:=R [0,1,2,3,16] [M 14 2,M 15 1,I 16 (.look 0 (.bool false) false (.s 14) (.s 15))]
def ZYF:=R [8] [K 8 0]
def ZYG:=R [0,1,2,3] [M 17 2,M 18 1,J (.mupd 0 (.s 17) (.s 18) (.v (.bool true)))]
def ZYH:=R [0,1,2,3,9,10] [M 20 0,M 21 1,I 22 (C Qo [(.s 20),(.s 21)]),M 19 22,X 23 19 0,X 24 19 1,I 9 (.box (.v ZN)),N 3 9 23,M 10 24]
def ZYI:=R [0,1,2,3,9,10,26] [M 25 10,W 26 .neq 25 0]
def ZYJ:=R [8] [M 27 10,M 8 27]
def ZYK:=R [0,2,3,9] [M 28 3,M 29 1,I 30 (.call .norm (.s 28) [(.s 29)])]
def ZYL:=R [0,2,3,32,33,34] [F 31 2 9,L 32 31,I 33 (.len 1 (.s 32)),K 34 0]
def ZYM:=R [0,2,3,32,33,34,35] [B 35 .lss 34 33]
def ZT0:=R [0,2,3,12,32,33,34] [I 36 (.ixS 4 (.s 32) (.s 34)),T 37 4 36,I 12 (.box (.v ZK)),N 4 12 37]
def ZT1:=R [0,2,3,13,32,33,34] [M 38 0,F 39 0 12,L 40 39,M 41 2,M 42 3,I 43 (C JT [(.s 38),(.s 40),(.s 41),(.s 42)]),M 13 43]
def ZT2:=R [0,2,3,13,32,33,34,45] [M 44 13,W 45 .neq 44 0]
def ZT3:=R [8] [M 46 13,M 8 46]
def ZT4:=R [0,2,3,32,33,34] [W 47 .add 34 1,M 34 47]
def ZT5:PC:=(D ZYM
 (D (E 35
 .skip
 (.exit 0))
 (D (.block 1
 (D ZT0
 (D ZT1
 (D ZT2
 (E 45
 (D ZT3
 .ret)
 .skip)))))
 ZT4)))
def ZT6:=R [8] [K 8 0]
def ZNa:PF:=⟨false,
 (D ZYD
 (D (D ZYE
 (E 16
 (D ZYF
 .ret)
 .skip))
 (D ZYG
 (D ZYH
 (D (D ZYI
 (E 26
 (D ZYJ
 .ret)
 .skip))
 (D ZYK
 (D (D ZYL
 (.block 0
 (.loop ZT5)))
 (D ZT6
 .ret)))))))),
 [.s 8]⟩
theorem Ze1:ck0 false [] ZNa Tryz.f94=some ZNa:=by kernel_rfl
def ZEF:PF:=⟨false,
 .skip,
 []⟩
theorem ZQV:ck0 false [] ZEF Tryz.f95=some ZEF:=by kernel_rfl
def ZK7:=R [0,2,7] [L 4 1,M 5 0,I 6 (.look 0 (.bool false) false (.s 4) (.s 5)),I 7 (.un .not (.s 6))]
def ZK8:=R [] [L 8 2,M 9 0,I 10 (.bslice false 1 [(.int .u64 0)] [(0,(.s 9))]),I 11 (.app 1 8 (.s 8) (.s 10)),N 1 2 11]
def ZEG:PF:=⟨false,
 (D ZK7
 (E 7
 ZK8
 .skip)),
 []⟩
theorem ZQX:ck0 false [] ZEG Tryz.f96=some ZEG:=by kernel_rfl
def ZQY:=R [0] [I 2 (.mv (.v .nils))]
def ZQZ:=R [0,3] [I 3 (.onil 1)]
def ZQa:=R [0,3,8,9,10] [M 6 0,I 7 (.len 0 (.s 6)),I 8 (C ZA4 [(.s 7),(V 16)]),I 9 (.len 1 (.s 8)),K 10 0]
def ZQb:=R [0,3,8,9,10,11] [B 11 .lss 10 9]
def ZQc:=R [0,3,5,8,9,10] [I 12 (.ixS 1 (.s 8) (.s 10)),L 13 12,M 5 13]
def ZQd:=R [0,3,5,8,9,10] [M 14 3,M 15 0,M 16 5,I 17 (.slcS (.s 15) none (some (.s 16))),I 18 (.bslice false 1 [(.str [])] [(0,(.s 17))]),I 19 (.app 1 16 (.s 14) (.s 18)),M 3 19]
def ZQe:=R [0,3,8,9,10] [M 20 0,M 21 5,I 22 (.slcS (.s 20) (some (.s 21)) none),M 0 22]
def ZQf:=R [0,3,8,9,10] [W 23 .add 10 1,M 10 23]
def ZQg:PC:=(D ZQb
 (D (E 11
 .skip
 (.exit 0))
 (D (.block 1
 (D ZQc
 (D ZQd
 ZQe)))
 ZQf)))
def ZQh:=R [2] [M 24 3,M 2 24]
def ZII:PF:=⟨false,
 (D ZQY
 (D ZQZ
 (D (D ZQa
 (.block 0
 (.loop ZQg)))
 (D ZQh
 .ret)))),
 [.s 2]⟩
theorem ZYO:ck0 false [(1,⟨[0,3],[0],[],[],[],[]⟩)] ZII Tryz.f97=some ZII:=by kernel_rfl
def ZYP:=R [0,1] [I 4 (.mv (.v .nils)),K 5 0]
def ZYQ:=R [0,1,11] [M 6 0,W 7 .lss 6 0,M 8 7,U 9 8 false 1,G 10 8 false (.bin .lss (.s 9) (V 1)),I 11 (.pick (.s 8) (.v (.bool true)) (.s 10))]
def ZYR:=R [4,5] [I 4 (.mv (.v .nils)),K 5 2]
def ZYS:=R [0,1,13] [M 12 0,W 13 .gtr 12 65536]
def ZYT:=R [4,5] [I 4 (.mv (.v .nils)),K 5 5]
def ZYU:=R [4,5] [M 14 0,M 15 1,I 16 (C ZA4 [(.s 14),(.s 15)]),M 4 16,K 5 0]
def ZNb:PF:=⟨false,
 (D ZYP
 (D (D ZYQ
 (E 11
 (D ZYR
 .ret)
 .skip))
 (D (D ZYS
 (E 13
 (D ZYT
 .ret)
 .skip))
 (D ZYU
 .ret)))),
 [.s 4,.s 5]⟩
theorem Ze3:ck0 false [] ZNb Tryz.f98=some ZNb:=by kernel_rfl
def ZYV:=R [0,2] [I 2 (.box (.v ZT))]
def ZYW:=R [0,2,3] [M 4 0,I 5 (.len 1 (.s 4)),W 6 .eql 5 0,M 3 6]
def ZYX:=R [2] [I 7 (.build [(.int .u64 0),(.int .i64 0),(.int .i64 0),(.int .i64 0),(.int .i64 0),(.str []),.nils] []),N 7 2 7]
def ZYY:=R [0,2,8] [M 9 0,I 10 (.len 1 (.s 9)),W 11 .eql 10 1,M 8 11]
def ZYZ:=R [2] [M 12 0,I 13 (.ixS 7 (.s 12) (V 0)),T 14 7 13,N 7 2 14]
def ZYa:=R [2] [M 15 0,I 16 (.ixS 7 (.s 15) (V 0)),F 17 1 16,L 18 17,W 19 .add 18 1,I 20 (.w .imm (.bslice false 7 [] [])),M 21 0,I 22 (.w .app0 (.app 7 80 (.s 20) (.s 21))),I 23 (.build [(.int .u64 0),(.int .i64 0),(.int .i64 0),(.int .i64 0),(.int .i64 0),(.str []),.nils] [(1,1,(.s 19)),(6,1,(.s 22))]),N 7 2 23]
def ZNc:PF:=⟨false,
 (D ZYV
 (D (.block 0
 (D ZYW
 (E 3
 (D ZYX
 .ret)
 (D ZYY
 (E 8
 (D ZYZ
 .ret)
 .skip)))))
 (D ZYa
 .ret))),
 [.c 2 true 7]⟩
theorem Ze5:ck0 false [(5,⟨[2],[],[],[],[(7,.app0),(5,.imm)],[]⟩)] ZNc Tryz.f99=some ZNc:=by kernel_rfl
def ZYb:=R [1] [I 1 (.box (.s 0)),K 2 0]
def ZYc:=R [1,3] [F 6 2 1,F 7 0 6,L 8 7,F 9 5 1,L 10 9,I 11 (.len 0 (.s 10)),B 12 .add 8 11,M 3 12]
def ZYd:=R [3,14,15,16] [F 13 6 1,L 14 13,I 15 (.len 1 (.s 14)),K 16 0]
def ZYe:=R [3,14,15,16,17] [B 17 .lss 16 15]
def ZYf:=R [3,5,14,15,16] [I 18 (.ixS 7 (.s 14) (.s 16)),T 19 7 18,I 5 (.box (.v ZT)),N 7 5 19]
def ZYg:=R [3,14,15,16] [M 20 3,T 21 7 5,I 22 (C QV [(.s 21)]),B 23 .add 20 22,M 3 23]
def ZYh:=R [3,14,15,16] [W 24 .add 16 1,M 16 24]
def ZYi:PC:=(D ZYe
 (D (E 17
 .skip
 (.exit 0))
 (D (.block 1
 (D ZYf
 ZYg))
 ZYh)))
def ZYj:=R [2] [M 25 3,M 2 25]
def ZNd:PF:=⟨false,
 (D ZYb
 (D ZYc
 (D (D ZYd
 (.block 0
 (.loop ZYi)))
 (D ZYj
 .ret)))),
 [.s 2]⟩
theorem Ze7:ck0 false [] ZNd Tryz.f100=some ZNd:=by kernel_rfl
def Ze8:=R [1,2] [I 1 (.box (.s 0)),I 2 (.box (.v ZT))]
def Ze9:=R [1,2,9] [F 6 6 1,L 7 6,I 8 (.len 1 (.s 7)),W 9 .eql 8 0]
def ZfA:=R [1,2] [F 10 6 1,J (.st 1 (.s 10) (.v .nils))]
def ZfB:=R [2] [T 11 7 1,N 7 2 11]
def ZfC:=R [1,2,3] [F 12 6 1,L 13 12,I 14 (.len 1 (.s 13)),I 15 (.mkslice 7 80 ZT (.s 14) (.s 14)),M 3 15]
def ZfD:=R [1,2,3,17,18,19] [F 16 6 1,L 17 16,I 18 (.len 1 (.s 17)),K 19 0]
def ZfE:=R [1,2,3,17,18,19,20] [B 20 .lss 19 18]
def ZfF:=R [1,2,3,4,5,17,18,19] [M 21 19,I 22 (.ixS 7 (.s 17) (.s 19)),T 23 7 22,I 5 (.box (.v ZT)),M 4 21,N 7 5 23]
def ZfG:=R [1,2,3,17,18,19] [M 24 3,M 25 4,T 26 7 5,I 27 (C Y9 [(.s 26)]),I 28 (.ixS 7 (.s 24) (.s 25)),N 7 28 27]
def ZfH:=R [1,2,3,17,18,19] [W 29 .add 19 1,M 19 29]
def Zbo:PC:=(D ZfE
 (D (E 20
 .skip
 (.exit 0))
 (D (.block 1
 (D ZfF
 ZfG))
 ZfH)))
def Zbp:=R [1,2] [M 30 3,F 31 6 1,N 1 31 30]
def Zbq:=R [2] [T 32 7 1,N 7 2 32]
def ZYk:PF:=⟨false,
 (D Ze8
 (D (D Ze9
 (E 9
 (D ZfA
 (D ZfB
 .ret))
 .skip))
 (D ZfC
 (D (D ZfD
 (.block 0
 (.loop Zbo)))
 (D Zbp
 (D Zbq
 .ret)))))),
 [.c 2 true 7]⟩
theorem Zi9:ck0 false [] ZYk Tryz.f101=some ZYk:=by kernel_rfl
def ZfI:=R [0,2,4,6,7] [I 4 (.box (.s 1)),I 6 (.box (.v ZT)),I 7 (.box (.v ZT)),K 8 0]
def ZfJ:=R [0,2,4,6,7,18] [M 17 2,W 18 .eql 17 0]
def ZfK:=R [6,7,8] [I 19 (.build [(.int .u64 0),(.int .i64 0),(.int .i64 0),(.int .i64 0),(.int .i64 0),(.str []),.nils] []),I 20 (.w (.hide [(.s 6)]) (.ld true 7 (.s 4))),J (.w (.plain (.s 6)) (.st 7 (.s 6) (.s 19))),N 7 7 20,K 8 0]
def ZfL:=R [0,2,4,6,7,24] [M 21 2,T 22 7 4,I 23 (C QV [(.s 22)]),B 24 .eql 21 23]
def ZfM:=R [6,7,8] [T 25 7 4,I 26 (.build [(.int .u64 0),(.int .i64 0),(.int .i64 0),(.int .i64 0),(.int .i64 0),(.str []),.nils] []),N 7 6 25,N 7 7 26,K 8 0]
def ZfN:=R [0,2,4,6,7,29] [F 27 1 4,L 28 27,W 29 .eql 28 0]
def ZfO:=R [2,6,7,9,10] [M 31 0,T 32 7 4,I 33 (C ZAE [(.s 31),(.s 32)]),M 30 33,X 34 30 0,X 35 30 1,M 9 34,M 10 35]
def ZfP:=R [2,6,7,9,10,37] [M 36 10,W 37 .neq 36 0]
def ZfQ:=R [6,7,8] [I 38 (.build [(.int .u64 0),(.int .i64 0),(.int .i64 0),(.int .i64 0),(.int .i64 0),(.str []),.nils] []),I 39 (.build [(.int .u64 0),(.int .i64 0),(.int .i64 0),(.int .i64 0),(.int .i64 0),(.str []),.nils] []),M 40 10,N 7 6 38,N 7 7 39,M 8 40]
def ZfR:=R [6,7,10,11,12] [M 42 9,M 43 2,I 44 (C ZHH [(.s 42),(.s 43)]),M 41 44,X 45 41 0,X 46 41 1,X 47 41 2,M 11 45,M 12 46,M 10 47]
def Zbr:=R [6,7,8] [M 48 11,I 49 (.build [(.int .u64 0),(.int .i64 0),(.int .i64 0),(.int .i64 0),(.int .i64 0),(.str []),.nils] [(5,1,(.s 48))]),M 50 12,I 51 (.build [(.int .u64 0),(.int .i64 0),(.int .i64 0),(.int .i64 0),(.int .i64 0),(.str []),.nils] [(5,1,(.s 50))]),M 52 10,N 7 6 49,N 7 7 51,M 8 52]
def Zbs:=R [0,2,6,7,8,13] [M 54 0,T 55 7 4,I 56 (C J3 [(.s 54),(.s 55)]),M 53 56,X 57 53 0,X 58 53 1,M 13 57,M 8 58]
def Zbt:=R [0,2,6,7,8,13,60] [M 59 8,W 60 .neq 59 0]
def Zbu:=R [6,7,8] [I 61 (.build [(.int .u64 0),(.int .i64 0),(.int .i64 0),(.int .i64 0),(.int .i64 0),(.str []),.nils] []),I 62 (.build [(.int .u64 0),(.int .i64 0),(.int .i64 0),(.int .i64 0),(.int .i64 0),(.str []),.nils] []),M 63 8,N 7 6 61,N 7 7 62,M 8 63]
def Zbv:=R [0,2,6,7,13,14] [K 14 0]
def Zbw:=R [0,2,6,7,13,14,77] [M 64 14,W 65 .add 64 1,M 66 13,I 67 (.len 1 (.s 66)),B 68 .lss 65 67,M 69 68,U 70 69 true 2,U 71 69 true 13,U 72 69 true 14,G 73 69 true (.ixS 7 (.s 71) (.s 72)),G 74 69 true (.ld true 7 (.s 73)),G 75 69 true (C QV [(.s 74)]),G 76 69 true (.bin .geq (.s 70) (.s 75)),I 77 (.pick (.s 69) (.s 76) (.v (.bool false)))]
def Zbx:=R [0,2,6,7,13,14] [M 78 2,M 79 13,M 80 14,I 81 (.ixS 7 (.s 79) (.s 80)),T 82 7 81,I 83 (C QV [(.s 82)]),B 84 .sub 78 83,M 2 84]
def Zby:=R [0,2,6,7,13,14] [M 85 14,W 86 .add 85 1,M 14 86]
def ZJ0:PC:=(D (D Zbw
 (E 77
 .skip
 (.exit 0)))
 (.block 1
 (D Zbx
 Zby)))
def Zbz:=R [0,2,6,7,13,14,88] [M 87 2,W 88 .eql 87 0]
def Zb0:=R [6,7,8] [M 89 13,M 90 14,I 91 (.slc 7 (.s 89) none (some (.s 90))),I 92 (.call .pure (.v (.func (.func QM) [] [])) [(.s 91)]),M 93 13,M 94 14,I 95 (.slc 7 (.s 93) (some (.s 94)) none),I 96 (C QM [(.s 95)]),N 7 6 92,N 7 7 96,K 8 0]
def Zb1:=R [0,6,7,8,13,14,15,16] [M 98 0,M 99 13,M 100 14,I 101 (.ixS 7 (.s 99) (.s 100)),T 102 7 101,M 103 2,I 104 (C X6 [(.s 98),(.s 102),(.s 103)]),M 97 104,X 105 97 0,X 106 97 1,X 107 97 2,I 15 (.box (.v ZT)),I 16 (.box (.v ZT)),N 7 15 105,N 7 16 106,M 8 107]
def Zb2:=R [0,6,7,8,13,14,15,16,109] [M 108 8,W 109 .neq 108 0]
def Zb3:=R [6,7,8] [I 110 (.build [(.int .u64 0),(.int .i64 0),(.int .i64 0),(.int .i64 0),(.int .i64 0),(.str []),.nils] []),I 111 (.build [(.int .u64 0),(.int .i64 0),(.int .i64 0),(.int .i64 0),(.int .i64 0),(.str []),.nils] []),M 112 8,N 7 6 110,N 7 7 111,M 8 112]
def Zb4:=R [0,6,7,8,13,14,16] [M 114 0,M 115 13,M 116 14,I 117 (.slc 7 (.s 115) none (some (.s 116))),I 118 (.call .pure (.v (.func (.func QM) [] [])) [(.s 117)]),T 119 7 15,I 120 (C YC [(.s 114),(.s 118),(.s 119)]),M 113 120,X 121 113 0,X 122 113 1,N 7 6 121,M 8 122]
def Zb5:=R [0,6,7,8,13,14,16,124] [M 123 8,W 124 .neq 123 0]
def Zb6:=R [6,7,8] [I 125 (.build [(.int .u64 0),(.int .i64 0),(.int .i64 0),(.int .i64 0),(.int .i64 0),(.str []),.nils] []),I 126 (.build [(.int .u64 0),(.int .i64 0),(.int .i64 0),(.int .i64 0),(.int .i64 0),(.str []),.nils] []),M 127 8,N 7 6 125,N 7 7 126,M 8 127]
def Zb7:=R [6,7,8] [M 129 0,T 130 7 16,M 131 13,M 132 14,W 133 .add 132 1,I 134 (.slc 7 (.s 131) (some (.s 133)) none),I 135 (.call .pure (.v (.func (.func QM) [] [])) [(.s 134)]),I 136 (C YC [(.s 129),(.s 130),(.s 135)]),M 128 136,X 137 128 0,X 138 128 1,N 7 7 137,M 8 138]
def Zb8:=R [6,7,8,140] [M 139 8,W 140 .neq 139 0]
def Zb9:=R [6,7,8] [I 141 (.build [(.int .u64 0),(.int .i64 0),(.int .i64 0),(.int .i64 0),(.int .i64 0),(.str []),.nils] []),I 142 (.build [(.int .u64 0),(.int .i64 0),(.int .i64 0),(.int .i64 0),(.int .i64 0),(.str []),.nils] []),M 143 8,N 7 6 141,N 7 7 142,M 8 143]
def ZcA:=R [6,7,8] [T 144 7 6,I 145 (.w (.hide [(.s 6)]) (.ld true 7 (.s 7))),J (.w (.plain (.s 6)) (.st 7 (.s 6) (.s 144))),N 7 7 145,K 8 0]
def ZYl:PF:=⟨false,
 (D ZfI
 (D (D ZfJ
 (E 18
 (D ZfK
 .ret)
 .skip))
 (D (D ZfL
 (E 24
 (D ZfM
 .ret)
 .skip))
 (D (D ZfN
 (E 29
 (D ZfO
 (D (D ZfP
 (E 37
 (D ZfQ
 .ret)
 .skip))
 (D ZfR
 (D Zbr
 .ret))))
 .skip))
 (D Zbs
 (D (D Zbt
 (E 60
 (D Zbu
 .ret)
 .skip))
 (D Zbv
 (D (.block 0
 (.loop ZJ0))
 (D (D Zbz
 (E 88
 (D Zb0
 .ret)
 .skip))
 (D Zb1
 (D (D Zb2
 (E 109
 (D Zb3
 .ret)
 .skip))
 (D (D Zb4
 (D Zb5
 (E 124
 (D Zb6
 .ret)
 .skip)))
 (D (D Zb7
 (D Zb8
 (E 140
 (D Zb9
 .ret)
 .skip)))
 (D ZcA
 .ret)))))))))))))),
 [.c 6 true 7,.c 7 true 7,.s 8]⟩
theorem ZjB:ck0 false [(2,⟨[6,7,8],[],[],[],[(1,(.hide [(.s 6)])),(2,(.plain (.s 6)))],[]⟩),(19,⟨[6,7,8],[],[(3,.pure)],[],[],[]⟩),(23,⟨[0,6,7,8,13,14,16],[],[(4,.pure)],[],[],[]⟩),(26,⟨[6,7,8],[],[(6,.pure)],[],[],[]⟩),(29,⟨[6,7,8],[],[],[],[(1,(.hide [(.s 6)])),(2,(.plain (.s 6)))],[]⟩)] ZYl Tryz.f102=some ZYl:=by kernel_rfl
def ZT7:=R [0,4,5,6] [I 4 (.box (.s 1)),I 5 (.box (.s 2)),I 6 (.box (.v ZT)),K 7 0]
def ZT8:=R [0,4,5,6,12] [T 10 7 4,I 11 (C Qb [(.s 10)]),W 12 .eql 11 1]
def ZT9:=R [6,7] [T 13 7 5,N 7 6 13,K 7 0]
def ZUA:=R [0,4,5,6,16] [T 14 7 5,I 15 (C Qb [(.s 14)]),W 16 .eql 15 1]
def ZUB:=R [6,7] [T 17 7 4,N 7 6 17,K 7 0]
def ZUC:=R [6,8,9] [M 19 0,T 20 7 4,T 21 7 5,I 22 (C ZAU [(.s 19),(.s 20),(.s 21)]),M 18 22,X 23 18 0,X 24 18 1,M 8 23,M 9 24]
def ZUD:=R [6,8,9,26] [M 25 9,W 26 .neq 25 0]
def ZUE:=R [6,7] [I 27 (.build [(.int .u64 0),(.int .i64 0),(.int .i64 0),(.int .i64 0),(.int .i64 0),(.str []),.nils] []),M 28 9,N 7 6 27,M 7 28]
def ZUF:=R [6,7] [M 29 8,I 30 (C QM [(.s 29)]),N 7 6 30,K 7 0]
def ZJ1:PF:=⟨false,
 (D ZT7
 (D (D ZT8
 (E 12
 (D ZT9
 .ret)
 .skip))
 (D (D ZUA
 (E 16
 (D ZUB
 .ret)
 .skip))
 (D ZUC
 (D (D ZUD
 (E 26
 (D ZUE
 .ret)
 .skip))
 (D ZUF
 .ret)))))),
 [.c 6 true 7,.s 7]⟩
theorem ZcC:ck0 false [] ZJ1 Tryz.f103=some ZJ1:=by kernel_rfl
def ZYm:=R [0,2,3,5] [I 5 (.box (.s 1)),K 8 0]
def ZYn:=R [0,2,3,5,9] [T 14 7 5,I 15 (C Qb [(.s 14)]),M 9 15]
def ZYo:=R [0,2,5,9,30] [M 16 9,W 17 .eql 16 0,M 18 17,U 19 18 false 9,G 20 18 false (.bin .eql (.s 19) (V 1)),I 21 (.pick (.s 18) (.v (.bool true)) (.s 20)),M 22 21,U 23 22 false 2,U 24 22 false 23,G 25 24 true (.fadr 1 (.s 5)),G 26 24 true (.ld false 1 (.s 25)),U 27 24 true 3,G 28 24 true (.bin .neq (.s 26) (.s 27)),G 29 22 false (.pick (.s 24) (.s 28) (.v (.bool false))),I 30 (.pick (.s 22) (.v (.bool true)) (.s 29))]
def ZYp:=R [8] [K 8 23]
def ZYq:=R [0,2,5,32] [M 31 9,W 32 .eql 31 2]
def ZYr:=R [0,2,5,10] [M 33 0,F 34 0 5,L 35 34,F 36 1 5,L 37 36,F 38 2 5,T 39 3 38,I 40 (C ZDP [(.s 33),(.s 35),(.s 37),(.s 39)]),M 10 40]
def ZYs:=R [0,2,5,10,42] [M 41 10,W 42 .neq 41 0]
def ZYt:=R [8] [M 43 10,M 8 43]
def ZYu:=R [0,5,54] [M 44 2,M 45 44,G 46 45 true (.fadr 1 (.s 5)),G 47 45 true (.ld false 1 (.s 46)),G 48 45 true (.bin .eql (.s 47) (V 0)),I 49 (.pick (.s 45) (.s 48) (.v (.bool false))),M 50 49,G 51 50 true (.ld true 7 (.s 5)),G 52 50 true (C QV [(.s 51)]),G 53 50 true (.bin .lss (.s 52) (V 8)),I 54 (.pick (.s 50) (.s 53) (.v (.bool false)))]
def ZYv:=R [8] [K 8 23]
def ZUG:=R [0,5,56,57,58] [F 55 6 5,L 56 55,I 57 (.len 1 (.s 56)),K 58 0]
def ZUH:=R [0,5,56,57,58,59] [B 59 .lss 58 57]
def ZUI:=R [0,5,12,56,57,58] [I 60 (.ixS 7 (.s 56) (.s 58)),T 61 7 60,I 12 (.box (.v ZT)),N 7 12 61]
def ZUJ:=R [0,5,13,56,57,58] [M 62 0,T 63 7 12,F 64 1 5,L 65 64,W 66 .sub 65 1,I 67 (C ZB1 [(.s 62),(.s 63),(.v (.bool true)),(.s 66)]),M 13 67]
def ZUK:=R [0,5,13,56,57,58,69] [M 68 13,W 69 .neq 68 0]
def ZUL:=R [8] [M 70 13,M 8 70]
def ZUM:=R [0,5,56,57,58] [W 71 .add 58 1,M 58 71]
def ZF1:PC:=(D ZUH
 (D (E 59
 .skip
 (.exit 0))
 (D (.block 1
 (D ZUI
 (D ZUJ
 (D ZUK
 (E 69
 (D ZUL
 .ret)
 .skip)))))
 ZUM)))
def ZUN:=R [8] [K 8 0]
def ZNe:PF:=⟨false,
 (D ZYm
 (D ZYn
 (D (D ZYo
 (E 30
 (D ZYp
 .ret)
 .skip))
 (D (D ZYq
 (E 32
 (D ZYr
 (D ZYs
 (E 42
 (D ZYt
 .ret)
 .skip)))
 .skip))
 (D (D ZYu
 (E 54
 (D ZYv
 .ret)
 .skip))
 (D (D ZUG
 (.block 0
 (.loop ZF1)))
 (D ZUN
 .ret))))))),
 [.s 8]⟩
theorem ZfT:ck0 false [] ZNe Tryz.f104=some ZNe:=by kernel_rfl
def ZfU:=R [1] [I 1 (.box (.s 0)),K 2 0]
def ZfV:=R [1,3] [K 3 0]
def ZfW:=R [1,3,4] [T 7 7 1,I 8 (C Qb [(.s 7)]),M 4 8]
def ZfX:=R [1,3,14] [M 9 4,W 10 .eql 9 3,M 11 10,U 12 11 false 4,G 13 11 false (.bin .eql (.s 12) (V 4)),I 14 (.pick (.s 11) (.v (.bool true)) (.s 13))]
def ZfY:=R [1,3] [K 3 1]
def ZfZ:=R [3,16,17,18] [F 15 6 1,L 16 15,I 17 (.len 1 (.s 16)),K 18 0]
def Zfa:=R [3,16,17,18,19] [B 19 .lss 18 17]
def Zfb:=R [3,6,16,17,18] [I 20 (.ixS 7 (.s 16) (.s 18)),T 21 7 20,I 6 (.box (.v ZT)),N 7 6 21]
def Zfc:=R [3,16,17,18] [M 22 3,T 23 7 6,I 24 (C ZAt [(.s 23)]),B 25 .add 22 24,M 3 25]
def Zfd:=R [3,16,17,18] [W 26 .add 18 1,M 18 26]
def ZcD:PC:=(D Zfa
 (D (E 19
 .skip
 (.exit 0))
 (D (.block 1
 (D Zfb
 Zfc))
 Zfd)))
def ZcE:=R [2] [M 27 3,M 2 27]
def ZYw:PF:=⟨false,
 (D ZfU
 (D ZfV
 (D (D ZfW
 (D ZfX
 (E 14
 ZfY
 .skip)))
 (D (D ZfZ
 (.block 0
 (.loop ZcD)))
 (D ZcE
 .ret))))),
 [.s 2]⟩
theorem ZjD:ck0 false [] ZYw Tryz.f105=some ZYw:=by kernel_rfl
def ZQi:=R [0,3] [I 3 (.box (.s 1)),I 4 (.mv (.v .nilptr))]
def ZQj:=R [0,3,5] [F 11 1 3,L 12 11,F 13 2 3,T 14 3 13,F 15 0 3,L 16 15,I 17 (.build [(.int .u64 0),(.int .i64 0),(.int .i64 0),(.int .i64 0),(.int .i64 0)] [(1,1,(.s 12)),(2,3,(.s 14)),(0,1,(.s 16))]),I 18 (.box (.s 17)),M 5 18]
def ZQk:=R [0,3,5,80] [F 81 0 3,L 82 81,I 83 (.bin .neq (.s 82) (.v (.int .u64 0))),M 84 83,G 85 84 false (.fadr 5 (.s 3)),G 86 84 false (.ld false 1 (.s 85)),G 87 84 false (.bin .eql (.s 86) (.v (.str []))),U 88 84 false 87,G 89 88 true (.fadr 6 (.s 3)),G 90 88 true (.ld false 1 (.s 89)),G 91 88 true (.len 1 (.s 90)),G 92 88 true (.bin .eql (.s 91) (V 0)),G 93 84 false (.pick (.s 88) (.s 92) (.v (.bool false))),I 94 (.pick (.s 84) (.v (.bool true)) (.s 93)),M 80 94]
def ZQl:=R [0,3,5,95] [F 96 1 3,L 97 96,W 98 .eql 97 0,M 95 98]
def ZQm:=R [0,5,6] [F 99 5 3,L 100 99,I 101 (.build [(.int .i64 0),(.str []),.nils] [(1,1,(.s 100))]),I 6 (.box (.v ZN)),N 3 6 101]
def ZQn:=R [0,5,6] [M 103 5,T 104 3 6,I 105 (C XA [(.s 104)]),M 102 105,X 106 102 0,X 107 102 1,I 108 (.nilck (.s 103)),F 109 2 108,N 3 109 106]
def ZQo:=R [5] [M 110 0,M 111 5,I 112 (.mkf (.func Jr) [] [(.s 6)]),I 113 (C ZAV [(.s 110),(.s 111),(.s 112)])]
def ZQp:=R [0,3,5,7] [I 7 (.boxnil 1)]
def ZQq:=R [0,3,5,7,20,21,22] [F 19 6 3,L 20 19,I 21 (.len 1 (.s 20)),K 22 0]
def ZQr:=R [0,3,5,7,20,21,22,23] [B 23 .lss 22 21]
def ZNf:=R [0,3,5,7,9,20,21,22] [I 24 (.ixS 7 (.s 20) (.s 22)),T 25 7 24,I 9 (.box (.v ZT)),N 7 9 25]
def ZNg:=R [0,3,5,7,10,20,21,22] [M 26 0,T 27 7 9,I 28 (C Qs [(.s 26),(.s 27)]),M 10 28]
def ZNh:=R [0,3,5,7,10,20,21,22] [L 29 7,M 30 10,I 31 (.bslice true 1 [.nilptr] [(0,(.s 30))]),I 32 (.app 1 8 (.s 29) (.s 31)),N 1 7 32]
def ZDV:=R [0,3,5,7,10,20,21,22] [M 33 5,I 34 (.nilck (.s 33)),F 35 2 34,F 36 0 35,L 37 36,M 38 10,I 39 (.nilck (.s 38)),F 40 2 39,F 41 0 40,L 42 41,B 43 .add 37 42,I 44 (.nilck (.s 33)),F 45 2 44,F 46 0 45,N 1 46 43]
def ZDW:=R [0,3,5,7,10,20,21,22] [M 47 5,I 48 (.nilck (.s 47)),F 49 2 48,F 50 1 49,L 51 50,M 52 10,I 53 (.nilck (.s 52)),F 54 2 53,F 55 1 54,L 56 55,B 57 .add 51 56,I 58 (.nilck (.s 47)),F 59 2 58,F 60 1 59,N 1 60 57]
def ZDX:=R [0,3,5,7,20,21,22] [M 61 5,I 62 (.nilck (.s 61)),F 63 2 62,F 64 2 63,L 65 64,M 66 10,I 67 (.nilck (.s 66)),F 68 2 67,F 69 2 68,L 70 69,B 71 .add 65 70,I 72 (.nilck (.s 61)),F 73 2 72,F 74 2 73,N 1 74 71]
def ZNi:=R [0,3,5,7,20,21,22] [W 75 .add 22 1,M 22 75]
def ZNj:PC:=(D ZQr
 (D (E 23
 .skip
 (.exit 1))
 (D (.block 2
 (D ZNf
 (D ZNg
 (D ZNh
 (D ZDV
 (D ZDW
 ZDX))))))
 ZNi)))
def ZNk:=R [5] [M 76 0,M 77 5,I 78 (.mkf (.func JO) [] [(.s 3),(.s 7)]),I 79 (C ZAV [(.s 76),(.s 77),(.s 78)])]
def ZNl:=R [4] [M 114 5,M 4 114]
def ZIJ:PF:=⟨true,
 (D ZQi
 (D ZQj
 (D (.block 0
 (D ZQk
 (E 80
 .skip
 (D ZQl
 (E 95
 (D ZQm
 (D ZQn
 ZQo))
 (D ZQp
 (D (D ZQq
 (.block 1
 (.loop ZNj)))
 ZNk)))))))
 (D ZNl
 .ret)))),
 [.s 4]⟩
theorem ZYy:ck0 true [(7,⟨[0,3,5,7],[0],[],[],[],[]⟩),(12,⟨[0,3,5,7,10,20,21,22],[2],[],[],[],[]⟩)] ZIJ Tryz.f106=some ZIJ:=by kernel_rfl
def ZQs:=R [1,2] [I 1 (.box (.s 0)),I 2 (.box (.v ZM)),K 3 0]
def ZQt:=R [1,2,4] [T 5 3 1,I 6 (C ZB2 [(.s 5)]),M 4 6]
def ZQu:=R [1,2,4,8] [M 7 4,W 8 .neq 7 0]
def ZQv:=R [2,3] [I 9 (.build [(.int .i64 0),(.int .i64 0),(.int .i64 0)] []),M 10 4,N 3 2 9,M 3 10]
def ZQw:=R [2,3] [T 11 3 1,I 12 (C ZCo [(.s 11)]),N 3 2 12,K 3 0]
def ZIK:PF:=⟨false,
 (D ZQs
 (D (D ZQt
 (D ZQu
 (E 8
 (D ZQv
 .ret)
 .skip)))
 (D ZQw
 .ret))),
 [.c 2 true 3,.s 3]⟩
theorem ZY0:ck0 false [] ZIK Tryz.f113=some ZIK:=by kernel_rfl
def ZcF:=R [0,3,5,6] [I 5 (.box (.s 1)),I 6 (.box (.s 2)),K 8 0]
def ZcG:=R [0,3,5,6,14,15,16] [T 12 7 5,T 13 7 6,I 14 (.bslice false 7 [ZT,ZT] [(0,(.s 12)),(1,(.s 13))]),I 15 (.len 1 (.s 14)),K 16 0]
def ZcH:=R [0,3,5,6,14,15,16,17] [B 17 .lss 16 15]
def ZcI:=R [0,3,5,6,10,14,15,16] [I 18 (.ixS 7 (.s 14) (.s 16)),T 19 7 18,I 10 (.box (.v ZT)),N 7 10 19]
def ZcJ:=R [0,3,5,6,11,14,15,16] [M 20 0,T 21 7 10,I 22 (C JS [(.s 20),(.s 21)]),M 11 22]
def ZcK:=R [0,3,5,6,11,14,15,16,24] [M 23 11,W 24 .neq 23 0]
def ZcL:=R [8] [M 25 11,M 8 25]
def ZcM:=R [0,3,5,6,14,15,16] [W 26 .add 16 1,M 16 26]
def ZcN:PC:=(D ZcH
 (D (E 17
 .skip
 (.exit 0))
 (D (.block 1
 (D ZcI
 (D ZcJ
 (D ZcK
 (E 24
 (D ZcL
 .ret)
 .skip)))))
 ZcM)))
def ZcO:=R [5,6,38] [M 27 3,I 28 (.un .not (.s 27)),M 29 28,G 30 29 true (.ld true 7 (.s 5)),G 31 29 true (C Qb [(.s 30)]),G 32 29 true (.bin .eql (.s 31) (V 1)),U 33 29 true 32,G 34 33 false (.ld true 7 (.s 6)),G 35 33 false (C Qb [(.s 34)]),G 36 33 false (.bin .eql (.s 35) (V 1)),G 37 29 true (.pick (.s 33) (.v (.bool true)) (.s 36)),I 38 (.pick (.s 29) (.s 37) (.v (.bool false)))]
def ZY1:=R [8] [K 8 2]
def ZY2:=R [44] [T 39 7 5,I 40 (.call .pure (.v (.func (.func QV) [] [])) [(.s 39)]),T 41 7 6,I 42 (C QV [(.s 41)]),B 43 .add 40 42,W 44 .gtr 43 65536]
def ZY3:=R [8] [K 8 5]
def ZY4:=R [8] [K 8 0]
def ZR8:PF:=⟨false,
 (D ZcF
 (D (D ZcG
 (.block 0
 (.loop ZcN)))
 (D (D ZcO
 (E 38
 (D ZY1
 .ret)
 .skip))
 (D (D ZY2
 (E 44
 (D ZY3
 .ret)
 .skip))
 (D ZY4
 .ret))))),
 [.s 8]⟩
theorem ZhS:ck0 false [(10,⟨[44],[],[(1,.pure)],[],[],[]⟩)] ZR8 Tryz.f114=some ZR8:=by kernel_rfl
def ZUO:=R [1,2,3,4] [I 4 (.box (.s 0))]
def ZUP:=R [1,2,3,4,16] [F 7 0 4,L 8 7,I 9 (.bin .neq (.s 8) (.v (.int .u64 0))),M 10 9,G 11 10 true (.ld false 1 (.s 1)),G 12 10 true (.fadr 0 (.s 4)),G 13 10 true (.ld false 1 (.s 12)),G 14 10 true (.look 0 (.bool false) false (.s 11) (.s 13)),G 15 10 true (.un .not (.s 14)),I 16 (.pick (.s 10) (.s 15) (.v (.bool false)))]
def ZUQ:=R [2,3,4] [L 17 1,F 18 0 4,L 19 18,J (.mupd 0 (.s 17) (.s 19) (.v (.bool true)))]
def ZUR:=R [3,4] [L 20 2,F 21 0 4,L 22 21,I 23 (.bslice false 1 [(.int .u64 0)] [(0,(.s 22))]),I 24 (.app 1 8 (.s 20) (.s 23)),N 1 2 24]
def ZF2:=R [3,26,27,28] [F 25 6 4,L 26 25,I 27 (.len 1 (.s 26)),K 28 0]
def ZUS:=R [3,26,27,28,29] [B 29 .lss 28 27]
def ZUT:=R [3,6,26,27,28] [I 30 (.ixS 7 (.s 26) (.s 28)),T 31 7 30,I 6 (.box (.v ZT)),N 7 6 31]
def ZUU:=R [3,26,27,28] [L 32 3,T 33 7 6,I 34 (.call .norm (.s 32) [(.s 33)])]
def ZUV:=R [3,26,27,28] [W 35 .add 28 1,M 28 35]
def ZBm:PC:=(D ZUS
 (D (E 29
 .skip
 (.exit 0))
 (D (.block 1
 (D ZUT
 ZUU))
 ZUV)))
def ZJ2:PF:=⟨false,
 (D ZUO
 (D (D ZUP
 (E 16
 (D ZUQ
 ZUR)
 .skip))
 (D ZF2
 (.block 0
 (.loop ZBm))))),
 []⟩
theorem ZcQ:ck0 false [] ZJ2 Tryz.f115=some ZJ2:=by kernel_rfl
def ZUW:=R [1,2] [I 2 (.box (.s 0)),I 4 (.mv (.v .nils))]
def ZUX:=R [1,2,10] [L 9 2,W 10 .eql 9 0]
def ZUY:=R [4] [I 4 (.mv (.v .nils))]
def ZUZ:=R [1,2,5] [L 11 2,M 12 1,B 13 .quo 11 12,I 5 (.box (V 0)),N 1 5 13]
def ZUa:=R [2,5,17] [L 14 2,M 15 1,B 16 .rem 14 15,W 17 .gtr 16 0]
def ZUb:=R [2,5] [L 18 5,W 19 .add 18 1,N 1 5 19]
def ZUc:=R [5,6] [I 20 (.mkf (.func J4) [] [(.s 2),(.s 5)]),M 6 20]
def ZUd:=R [5,6,7] [L 21 5,I 22 (.mkslice 1 8 (.int .i64 0) (.s 21) (.s 21)),M 7 22]
def ZUe:=R [6,7,23,24] [L 23 5,K 24 0]
def ZUf:=R [6,7,23,24,25] [B 25 .lss 24 23]
def ZQx:=R [6,7,8,23,24] [M 26 24,M 8 26]
def ZQy:=R [6,7,23,24] [M 27 7,M 28 8,M 29 6,M 30 8,I 31 (.call .norm (.s 29) [(.s 30)]),I 32 (.ixS 1 (.s 27) (.s 28)),N 1 32 31]
def ZQz:=R [6,7,23,24] [W 33 .add 24 1,M 24 33]
def ZEH:PC:=(D ZUf
 (D (E 25
 .skip
 (.exit 0))
 (D (.block 1
 (D ZQx
 ZQy))
 ZQz)))
def ZQ0:=R [4] [M 34 7,M 4 34]
def ZJ3:PF:=⟨false,
 (D ZUW
 (D (D ZUX
 (E 10
 (D ZUY
 .ret)
 .skip))
 (D ZUZ
 (D (D ZUa
 (E 17
 ZUb
 .skip))
 (D ZUc
 (D ZUd
 (D (D ZUe
 (.block 0
 (.loop ZEH)))
 (D ZQ0
 .ret)))))))),
 [.s 4]⟩
theorem ZcS:ck0 false [] ZJ3 Tryz.f116=some ZJ3:=by kernel_rfl
def ZcT:=R [0,1] [I 4 (.mv (.v (.str []))),I 5 (.mv (.v (.str []))),K 6 0]
def ZcU:=R [0,1,9] [M 7 0,I 8 (C ZAW [(.s 7)]),I 9 (.un .not (.s 8))]
def ZcV:=R [4,5,6] [I 4 (.mv (.v (.str []))),I 5 (.mv (.v (.str []))),K 6 2]
def ZcW:=R [0,1,17] [M 10 1,W 11 .lss 10 0,M 12 11,U 13 12 false 1,U 14 12 false 0,G 15 12 false (.len 0 (.s 14)),G 16 12 false (.bin .gtr (.s 13) (.s 15)),I 17 (.pick (.s 12) (.v (.bool true)) (.s 16))]
def ZcX:=R [4,5,6] [I 4 (.mv (.v (.str []))),I 5 (.mv (.v (.str []))),K 6 3]
def ZcY:=R [4,5,6] [M 18 0,M 19 1,I 20 (.slcS (.s 18) none (some (.s 19))),M 21 0,M 22 1,I 23 (.slcS (.s 21) (some (.s 22)) none),M 4 20,M 5 23,K 6 0]
def ZR9:PF:=⟨false,
 (D ZcT
 (D (D ZcU
 (E 9
 (D ZcV
 .ret)
 .skip))
 (D (D ZcW
 (E 17
 (D ZcX
 .ret)
 .skip))
 (D ZcY
 .ret)))),
 [.s 4,.s 5,.s 6]⟩
theorem ZhU:ck0 false [] ZR9 Tryz.f117=some ZR9:=by kernel_rfl
def ZY5:=R [0,4,5] [I 4 (.box (.s 1)),I 5 (.box (.s 2)),I 6 (.mv (.v .nils)),K 7 0]
def ZY6:=R [0,4,5,22] [F 15 1 4,L 16 15,W 17 .eql 16 0,M 18 17,G 19 18 true (.fadr 1 (.s 5)),G 20 18 true (.ld false 1 (.s 19)),G 21 18 true (.bin .eql (.s 20) (V 0)),I 22 (.pick (.s 18) (.s 21) (.v (.bool false)))]
def ZY7:=R [6,7] [M 23 0,T 24 7 4,T 25 7 5,I 26 (C ZDl [(.s 23),(.s 24),(.s 25)]),X 27 26 0,X 28 26 1,M 6 27,M 7 28]
def ZY8:=R [0,4,5,8,9] [I 8 (.mv (.v .nils)),I 9 (.mv (.v .nils))]
def ZY9:=R [0,4,5,8,9] [K 10 0]
def ZZA:=R [0,4,5,8,9,33] [F 29 1 4,L 30 29,F 31 1 5,L 32 31,B 33 .geq 30 32]
def ZZB:=R [0,4,5,8,9,10] [M 35 0,T 36 7 4,I 37 (C J3 [(.s 35),(.s 36)]),M 34 37,X 38 34 0,X 39 34 1,M 8 38,M 10 39]
def ZZC:=R [0,4,5,8,9,10,41] [M 40 10,W 41 .neq 40 0]
def ZZD:=R [6,7] [M 42 10,I 6 (.mv (.v .nils)),M 7 42]
def ZZE:=R [0,4,5,8,9,47] [F 43 1 5,L 44 43,F 45 1 4,L 46 45,B 47 .geq 44 46]
def ZUg:=R [0,4,5,8,9,10] [M 49 0,T 50 7 5,I 51 (C J3 [(.s 49),(.s 50)]),M 48 51,X 52 48 0,X 53 48 1,M 9 52,M 10 53]
def ZUh:=R [0,4,5,8,9,10,55] [M 54 10,W 55 .neq 54 0]
def ZUi:=R [6,7] [M 56 10,I 6 (.mv (.v .nils)),M 7 56]
def ZUj:=R [0,4,5,8,9,57] [F 58 1 4,L 59 58,F 60 1 5,L 61 60,B 62 .eql 59 61,M 63 62,U 64 63 true 8,G 65 63 true (.len 1 (.s 64)),U 66 63 true 9,G 67 63 true (.len 1 (.s 66)),G 68 63 true (.bin .add (.s 65) (.s 67)),G 69 63 true (.bin .leq (.s 68) (V 4)),I 70 (.pick (.s 63) (.s 69) (.v (.bool false))),M 57 70]
def ZUk:=R [6,7] [I 71 (.bslice false 7 [] []),M 72 8,I 73 (.app 7 80 (.s 71) (.s 72)),M 74 9,I 75 (.app 7 80 (.s 73) (.s 74)),I 76 (C QM [(.s 75)]),I 77 (.bslice false 7 [ZT] [(0,(.s 76))]),M 6 77,K 7 0]
def ZUl:=R [0,4,5,8,9,78] [F 79 1 4,L 80 79,F 81 1 5,L 82 81,B 83 .eql 80 82,M 78 83]
def ZUm:=R [6,7] [T 84 7 4,T 85 7 5,I 86 (.bslice false 7 [ZT,ZT] [(0,(.s 84)),(1,(.s 85))]),M 6 86,K 7 0]
def ZUn:=R [0,4,5,8,9,87] [F 88 1 4,L 89 88,F 90 1 5,L 91 90,B 92 .gtr 89 91,M 87 92]
def ZUo:=R [0,5,8,11] [M 93 8,I 94 (.len 1 (.s 93)),W 95 .sub 94 1,M 11 95]
def ZUp:=R [8,11,12,13] [M 97 0,M 98 8,M 99 11,I 100 (.ixS 7 (.s 98) (.s 99)),T 101 7 100,T 102 7 5,I 103 (C ZAU [(.s 97),(.s 101),(.s 102)]),M 96 103,X 104 96 0,X 105 96 1,M 12 104,M 13 105]
def ZUq:=R [8,11,12,13,107] [M 106 13,W 107 .neq 106 0]
def ZUr:=R [6,7] [M 108 13,I 6 (.mv (.v .nils)),M 7 108]
def ZUs:=R [6,7] [I 109 (.bslice false 7 [] []),M 110 8,M 111 11,I 112 (.slc 7 (.s 110) none (some (.s 111))),I 113 (.app 7 80 (.s 109) (.s 112)),M 114 12,I 115 (.app 7 80 (.s 113) (.s 114)),I 116 (C ZDR [(.s 115)]),M 6 116,K 7 0]
def ZUt:=R [9,10,14] [M 118 0,T 119 7 4,M 120 9,I 121 (.ixS 7 (.s 120) (V 0)),T 122 7 121,I 123 (C ZAU [(.s 118),(.s 119),(.s 122)]),M 117 123,X 124 117 0,X 125 117 1,M 14 124,M 10 125]
def ZUu:=R [9,10,14,127] [M 126 10,W 127 .neq 126 0]
def ZUv:=R [6,7] [M 128 10,I 6 (.mv (.v .nils)),M 7 128]
def ZUw:=R [6,7] [I 129 (.w .imm (.bslice false 7 [] [])),M 130 14,I 131 (.w .app0 (.app 7 80 (.s 129) (.s 130))),M 132 9,I 133 (.w .blind (.slc 7 (.s 132) (some (V 1)) none)),I 134 (.app 7 80 (.s 131) (.s 133)),I 135 (C ZDR [(.s 134)]),M 6 135,K 7 0]
def ZNm:PF:=⟨false,
 (D ZY5
 (D (D ZY6
 (E 22
 (D ZY7
 .ret)
 .skip))
 (D ZY8
 (D ZY9
 (D (D ZZA
 (E 33
 (D ZZB
 (D ZZC
 (E 41
 (D ZZD
 .ret)
 .skip)))
 .skip))
 (D (D ZZE
 (E 47
 (D ZUg
 (D ZUh
 (E 55
 (D ZUi
 .ret)
 .skip)))
 .skip))
 (D (.block 0
 (D ZUj
 (E 57
 (D ZUk
 .ret)
 (D ZUl
 (E 78
 (D ZUm
 .ret)
 (D ZUn
 (E 87
 (D ZUo
 (D ZUp
 (D (D ZUq
 (E 107
 (D ZUr
 .ret)
 .skip))
 (D ZUs
 .ret))))
 .skip)))))))
 (D ZUt
 (D (D ZUu
 (E 127
 (D ZUv
 .ret)
 .skip))
 (D ZUw
 .ret)))))))))),
 [.s 6,.s 7]⟩
theorem Zff:ck0 false [(26,⟨[6,7],[],[],[],[(4,.blind),(2,.app0),(0,.imm)],[]⟩)] ZNm Tryz.f118=some ZNm:=by kernel_rfl
def ZQ1:=R [3,4,5] [I 3 (.box (.s 0)),I 4 (.box (.s 1)),I 5 (.box (.s 2))]
def ZQ2:=R [] [I 6 (.w (.only (.s 3)) (.ld false 1 (.s 3))),L 7 3,I 8 (.nilck (.s 7)),F 9 1 8,L 10 9,I 11 (.mkf (.func XR) [] [(.s 3),(.s 5),(.s 4)]),I 12 (.bslice true 1 [.nilfunc] [(0,(.s 11))]),I 13 (.w (.grow (.s 3)) (.app 1 8 (.s 10) (.s 12))),I 14 (.nilck (.s 6)),F 15 1 14,N 1 15 13]
def ZIL:PF:=⟨true,
 (D ZQ1
 ZQ2),
 []⟩
theorem ZZG:ck0 true [(1,⟨[],[6],[],[],[(0,(.only (.s 3))),(7,(.grow (.s 3)))],[]⟩)] ZIL Tryz.f119=some ZIL:=by kernel_rfl
def ZK9:=R [0,1] [I 1 (.box (.v ZN))]
def ZLA:=R [1] [T 2 3 0,N 3 1 2]
def ZEI:PF:=⟨false,
 (D ZK9
 (D ZLA
 .ret)),
 [.c 1 true 3]⟩
theorem ZQ4:ck0 false [] ZEI Tryz.f120=some ZEI:=by kernel_rfl
def ZLB:=R [0,1,2] [I 2 (.box (.v ZN))]
def ZLC:=R [1,2,3] [F 6 1 0,L 7 6,I 8 (.build [(.int .i64 0),(.str []),.nils] [(0,1,(.s 7))]),I 3 (.box (.v ZN)),N 3 3 8]
def ZLD:=R [2,3,9,10,11] [L 9 1,I 10 (.len 1 (.s 9)),K 11 0]
def ZLE:=R [2,3,9,10,11,12] [B 12 .lss 11 10]
def ZLF:=R [2,3,5,9,10,11] [I 13 (.ixS 1 (.s 9) (.s 11)),L 14 13,M 5 14]
def ZLG:=R [2,3,9,10,11] [F 15 2 3,L 16 15,M 17 5,I 18 (.nilck (.s 17)),F 19 0 18,L 20 19,M 21 5,I 22 (.nilck (.s 21)),F 23 2 22,T 24 3 23,I 25 (.build [(.int .u64 0),(.int .i64 0),(.int .i64 0),(.int .i64 0)] [(0,1,(.s 20)),(1,3,(.s 24))]),I 26 (.w .imm (.bslice false 4 [ZK] [(0,(.s 25))])),I 27 (.app 4 32 (.s 16) (.s 26)),F 28 2 3,N 1 28 27]
def ZLH:=R [2,3,9,10,11] [W 29 .add 11 1,M 11 29]
def ZLI:PC:=(D ZLE
 (D (E 12
 .skip
 (.exit 0))
 (D (.block 1
 (D ZLF
 ZLG))
 ZLH)))
def ZLJ:=R [2] [T 30 3 3,N 3 2 30]
def ZEJ:PF:=⟨false,
 (D ZLB
 (D ZLC
 (D (D ZLD
 (.block 0
 (.loop ZLI)))
 (D ZLJ
 .ret)))),
 [.c 2 true 3]⟩
theorem ZQ6:ck0 false [(5,⟨[2,3,9,10,11],[],[],[],[(11,.imm)],[]⟩)] ZEJ Tryz.f121=some ZEJ:=by kernel_rfl
def ZQ7:=R [0] [K 2 0]
def ZQ8:=R [3,4] [M 6 0,I 7 (C ZCn [(.s 6)]),M 5 7,X 8 5 0,X 9 5 1,M 3 8,M 4 9]
def ZQ9:=R [19] [M 10 3,W 11 .geq 10 16384,M 12 11,U 13 12 false 4,G 14 12 false (.bin .lss (.s 13) (.v (.int .u64 1))),I 15 (.pick (.s 12) (.v (.bool true)) (.s 14)),M 16 15,U 17 16 false 4,G 18 16 false (.bin .gtr (.s 17) (.v (.int .u64 4294967295))),I 19 (.pick (.s 16) (.v (.bool true)) (.s 18))]
def ZRA:=R [2] [K 2 2]
def ZRB:=R [2] [K 2 0]
def ZIM:PF:=⟨false,
 (D ZQ7
 (D (D ZQ8
 (D ZQ9
 (E 19
 (D ZRA
 .ret)
 .skip)))
 (D ZRB
 .ret))),
 [.s 2]⟩
theorem ZZI:ck0 false [] ZIM Tryz.f132=some ZIM:=by kernel_rfl
def ZRC:=R [0] [K 2 0,I 3 (.mv (.v (.int .u64 0)))]
def ZRD:=R [2,3] [M 4 0,I 5 (.bin .and (.s 4) (.v (.int .u64 65535))),I 6 (.cint .i64 (.s 5)),M 7 0,I 8 (.bin .shr (.s 7) (.v (.int .u64 16))),M 2 6,M 3 8]
def ZIN:PF:=⟨false,
 (D ZRC
 (D ZRD
 .ret)),
 [.s 2,.s 3]⟩
theorem ZZK:ck0 false [] ZIN Tryz.f133=some ZIN:=by kernel_rfl
def ZZL:=R [1] [I 1 (.box (.s 0)),K 2 0]
def ZZM:=R [1,5] [T 3 3 1,I 4 (C ZA5 [(.s 3)]),I 5 (.un .not (.s 4))]
def ZZN:=R [2] [K 2 23]
def ZZO:=R [9] [T 6 3 1,I 7 (C ZCo [(.s 6)]),I 8 (.fld false 0 1 (.s 7)),W 9 .gtr 8 65536]
def ZZP:=R [2] [K 2 5]
def ZZQ:=R [2] [K 2 0]
def ZNn:PF:=⟨false,
 (D ZZL
 (D (D ZZM
 (E 5
 (D ZZN
 .ret)
 .skip))
 (D (D ZZO
 (E 9
 (D ZZP
 .ret)
 .skip))
 (D ZZQ
 .ret)))),
 [.s 2]⟩
theorem Zfh:ck0 false [] ZNn Tryz.f134=some ZNn:=by kernel_rfl
def Zfi:=R [1,2] [I 1 (.box (.s 0)),I 2 (.box (.v ZM))]
def Zfj:=R [1,2,8] [F 6 0 1,L 7 6,W 8 .eql 7 0]
def Zfk:=R [2] [F 9 1 1,L 10 9,I 11 (C ZEs [(.s 10)]),N 3 2 11]
def Zfl:=R [1,2,3] [I 3 (.onil 3)]
def Zfm:=R [2,3,13,14,15] [F 12 2 1,L 13 12,I 14 (.len 1 (.s 13)),K 15 0]
def Zfn:=R [2,3,13,14,15,16] [B 16 .lss 15 14]
def Zfo:=R [2,3,5,13,14,15] [I 17 (.ixS 4 (.s 13) (.s 15)),T 18 4 17,I 5 (.box (.v ZK)),N 4 5 18]
def Zfp:=R [2,3,13,14,15] [M 19 3,F 20 1 5,T 21 3 20,I 22 (.bslice false 3 [ZM] [(0,(.s 21))]),I 23 (.app 3 24 (.s 19) (.s 22)),M 3 23]
def Zfq:=R [2,3,13,14,15] [W 24 .add 15 1,M 15 24]
def Zfr:PC:=(D Zfn
 (D (E 16
 .skip
 (.exit 0))
 (D (.block 1
 (D Zfo
 Zfp))
 Zfq)))
def ZcZ:=R [2] [M 25 3,I 26 (C ZDm [(.s 25)]),N 3 2 26]
def ZZR:PF:=⟨false,
 (D Zfi
 (D (D Zfj
 (E 8
 (D Zfk
 .ret)
 .skip))
 (D Zfl
 (D (D Zfm
 (.block 0
 (.loop Zfr)))
 (D ZcZ
 .ret))))),
 [.c 2 true 3]⟩
theorem ZjF:ck0 false [(3,⟨[1,2,3],[0],[],[],[],[]⟩)] ZZR Tryz.f135=some ZZR:=by kernel_rfl
def ZNo:=R [0,1,2] [K 4 0]
def ZNp:=R [1,2,9] [M 5 0,L 6 1,L 7 2,B 8 .rem 6 7,B 9 .lss 5 8]
def ZNq:=R [4] [L 10 1,L 11 2,B 12 .quo 10 11,W 13 .add 12 1,M 4 13]
def ZNr:=R [4] [L 14 1,L 15 2,B 16 .quo 14 15,M 4 16]
def ZF3:PF:=⟨false,
 (D ZNo
 (D (D ZNp
 (E 9
 (D ZNq
 .ret)
 .skip))
 (D ZNr
 .ret))),
 [.s 4]⟩
theorem ZUy:ck0 false [] ZF3 Tryz.f136=some ZF3:=by kernel_rfl
def ZZS:=R [0] [I 2 (.mv (.v (.bool false)))]
def ZZT:=R [2] [M 3 0,I 4 (.len 0 (.s 3)),W 5 .geq 4 1,M 6 5,U 7 6 true 0,G 8 6 true (.len 0 (.s 7)),G 9 6 true (.bin .leq (.s 8) (V 16)),I 10 (.pick (.s 6) (.s 9) (.v (.bool false))),M 2 10]
def ZNs:PF:=⟨false,
 (D ZZS
 (D ZZT
 .ret)),
 [.s 2]⟩
theorem Zft:ck0 false [] ZNs Tryz.f137=some ZNs:=by kernel_rfl
def ZUz:=R [0,4,5] [I 4 (.box (.s 1)),I 5 (.box (.s 2)),I 6 (.mv (.v .nils)),K 7 0]
def ZU0:=R [0,4,5,8,9] [T 17 7 4,I 18 (.call .pure (.v (.func (.func QV) [] [])) [(.s 17)]),T 19 7 5,I 20 (C QV [(.s 19)]),M 8 18,M 9 20]
def ZU1:=R [0,4,5,32] [M 21 8,M 22 9,B 23 .add 21 22,W 24 .gtr 23 16,M 25 24,U 26 25 true 8,G 27 25 true (.bin .geq (.s 26) (V 8)),I 28 (.pick (.s 25) (.s 27) (.v (.bool false))),M 29 28,U 30 29 true 9,G 31 29 true (.bin .geq (.s 30) (V 8)),I 32 (.pick (.s 29) (.s 31) (.v (.bool false)))]
def ZU2:=R [6,7] [T 33 7 4,T 34 7 5,I 35 (.bslice false 7 [ZT,ZT] [(0,(.s 33)),(1,(.s 34))]),M 6 35,K 7 0]
def ZU3:=R [0,5,10,11] [M 37 0,T 38 7 4,I 39 (C ZAE [(.s 37),(.s 38)]),M 36 39,X 40 36 0,X 41 36 1,M 10 40,M 11 41]
def ZU4:=R [0,5,10,11,43] [M 42 11,W 43 .neq 42 0]
def ZU5:=R [6,7] [M 44 11,I 6 (.mv (.v .nils)),M 7 44]
def ZU6:=R [10,11,12] [M 46 0,T 47 7 5,I 48 (C ZAE [(.s 46),(.s 47)]),M 45 48,X 49 45 0,X 50 45 1,M 12 49,M 11 50]
def ZU7:=R [10,11,12,52] [M 51 11,W 52 .neq 51 0]
def ZU8:=R [6,7] [M 53 11,I 6 (.mv (.v .nils)),M 7 53]
def ZRE:=R [11,13] [M 55 10,M 56 12,I 57 (C ZEt [(.s 55),(.s 56)]),M 54 57,X 58 54 0,X 59 54 1,M 13 58,M 11 59]
def ZRF:=R [11,13,61] [M 60 11,W 61 .neq 60 0]
def ZRG:=R [6,7] [M 62 11,I 6 (.mv (.v .nils)),M 7 62]
def ZRH:=R [13,14] [I 14 (.onil 7)]
def ZRI:=R [14,63,64,65] [M 63 13,I 64 (.len 1 (.s 63)),K 65 0]
def ZRJ:=R [14,63,64,65,66] [B 66 .lss 65 64]
def ZRK:=R [14,16,63,64,65] [I 67 (.ixS 1 (.s 63) (.s 65)),L 68 67,M 16 68]
def ZRL:=R [14,63,64,65] [M 69 14,M 70 16,I 71 (.build [(.int .u64 0),(.int .i64 0),(.int .i64 0),(.int .i64 0),(.int .i64 0),(.str []),.nils] [(5,1,(.s 70))]),I 72 (.bslice false 7 [ZT] [(0,(.s 71))]),I 73 (.app 7 80 (.s 69) (.s 72)),M 14 73]
def ZRM:=R [14,63,64,65] [W 74 .add 65 1,M 65 74]
def ZEK:PC:=(D ZRJ
 (D (E 66
 .skip
 (.exit 0))
 (D (.block 1
 (D ZRK
 ZRL))
 ZRM)))
def ZRN:=R [6,7] [M 75 14,M 6 75,K 7 0]
def ZJ4:PF:=⟨false,
 (D ZUz
 (D ZU0
 (D (D ZU1
 (E 32
 (D ZU2
 .ret)
 .skip))
 (D ZU3
 (D (D ZU4
 (E 43
 (D ZU5
 .ret)
 .skip))
 (D ZU6
 (D (D ZU7
 (E 52
 (D ZU8
 .ret)
 .skip))
 (D ZRE
 (D (D ZRF
 (E 61
 (D ZRG
 .ret)
 .skip))
 (D ZRH
 (D (D ZRI
 (.block 0
 (.loop ZEK)))
 (D ZRN
 .ret)))))))))))),
 [.s 6,.s 7]⟩
theorem Zcb:ck0 false [(1,⟨[0,4,5,8,9],[],[(1,.pure)],[],[],[]⟩),(13,⟨[13,14],[0],[],[],[],[]⟩)] ZJ4 Tryz.f138=some ZJ4:=by kernel_rfl
def Zcc:=R [0] [I 2 (.mv (.v .nils))]
def Zcd:=R [0,6] [M 4 0,I 5 (.len 1 (.s 4)),W 6 .leq 5 4]
def Zce:=R [2] [M 7 0,I 8 (C QM [(.s 7)]),I 9 (.bslice false 7 [ZT] [(0,(.s 8))]),M 2 9]
def Zcf:=R [0,3] [M 10 0,I 11 (.len 1 (.s 10)),W 12 .add 11 1,W 13 .quo 12 2,M 3 13]
def Zcg:=R [2] [M 14 0,M 15 3,I 16 (.slc 7 (.s 14) none (some (.s 15))),I 17 (.call .pure (.v (.func (.func QM) [] [])) [(.s 16)]),M 18 0,M 19 3,I 20 (.slc 7 (.s 18) (some (.s 19)) none),I 21 (C QM [(.s 20)]),I 22 (.bslice false 7 [ZT,ZT] [(0,(.s 17)),(1,(.s 21))]),M 2 22]
def ZSA:PF:=⟨false,
 (D Zcc
 (D (D Zcd
 (E 6
 (D Zce
 .ret)
 .skip))
 (D Zcf
 (D Zcg
 .ret)))),
 [.s 2]⟩
theorem ZhW:ck0 false [(4,⟨[2],[],[(3,.pure)],[],[],[]⟩)] ZSA Tryz.f139=some ZSA:=by kernel_rfl
def ZLK:=R [0,1,2] [I 3 (.mv (.v (.int .u64 0))),K 4 0]
def ZLL:=R [2,5,6] [L 8 0,I 9 (.nilck (.s 8)),F 10 0 9,L 11 10,L 12 1,I 13 (.call .pure (.s 12) []),I 14 (C Ji [(.s 11),(.s 13)]),M 7 14,X 15 7 0,X 16 7 1,M 5 15,M 6 16]
def ZLM:=R [2,5,6,18] [M 17 6,W 18 .eql 17 0]
def ZLN:=R [5,6] [L 19 2,M 20 5,I 21 (.nilck (.s 19)),F 22 0 21,N 1 22 20]
def ZLO:=R [3,4] [M 23 5,M 24 6,M 3 23,M 4 24]
def ZEL:PF:=⟨false,
 (D ZLK
 (D ZLL
 (D (D ZLM
 (E 18
 ZLN
 .skip))
 (D ZLO
 .ret)))),
 [.s 3,.s 4]⟩
theorem ZRP:ck0 false [(1,⟨[2,5,6],[],[(5,.pure)],[],[],[]⟩)] ZEL Tryz.f140=some ZEL:=by kernel_rfl
def ZGt:=R [0,3] [I 3 (.box (.s 1)),I 4 (.mv (.v (.int .u64 0))),K 5 0]
def ZGu:=R [0,3,16] [M 15 0,I 16 (.eqs false 3 [] (.s 15) (.v .nilptr))]
def ZGv:=R [4,5] [I 4 (.mv (.v (.int .u64 0))),K 5 1]
def ZGw:=R [0,3,6] [T 17 3 3,I 18 (C ZB2 [(.s 17)]),M 6 18]
def ZGx:=R [0,3,6,20] [M 19 6,W 20 .neq 19 0]
def ZGy:=R [4,5] [M 21 6,I 4 (.mv (.v (.int .u64 0))),M 5 21]
def ZGz:=R [0,3,23,24,25] [F 22 2 3,L 23 22,I 24 (.len 1 (.s 23)),K 25 0]
def ZG0:=R [0,3,23,24,25,26] [B 26 .lss 25 24]
def ZG1:=R [0,3,8,23,24,25] [I 27 (.ixS 4 (.s 23) (.s 25)),T 28 4 27,I 8 (.box (.v ZK)),N 4 8 28]
def ZG2:=R [0,3,8,9,10,23,24,25] [M 30 0,I 31 (.nilck (.s 30)),F 32 2 31,L 33 32,F 34 0 8,L 35 34,I 36 (.look 0 ZN true (.s 33) (.s 35)),M 29 36,X 37 29 0,X 38 29 1,I 9 (.box (.v ZN)),N 3 9 37,M 10 38]
def ZFH:=R [0,3,8,9,23,24,25,40] [M 39 10,I 40 (.un .not (.s 39))]
def ZFI:=R [4,5] [I 4 (.mv (.v (.int .u64 0))),K 5 10]
def ZFJ:=R [0,3,8,9,11,12,23,24,25] [T 42 3 9,I 43 (C XA [(.s 42)]),M 41 43,X 44 41 0,X 45 41 1,I 11 (.box (.v ZM)),N 3 11 44,M 12 45]
def ZFK:=R [0,3,23,24,25,61] [M 46 12,W 47 .neq 46 0,M 48 47,G 49 48 false (.fadr 0 (.s 9)),G 50 48 false (.ld false 1 (.s 49)),G 51 48 false (.fadr 0 (.s 3)),G 52 48 false (.ld false 1 (.s 51)),G 53 48 false (.bin .sub (.s 52) (V 1)),G 54 48 false (.bin .neq (.s 50) (.s 53)),I 55 (.pick (.s 48) (.v (.bool true)) (.s 54)),M 56 55,G 57 56 false (.ld true 3 (.s 11)),G 58 56 false (.fadr 1 (.s 8)),G 59 56 false (.ld true 3 (.s 58)),G 60 56 false (.eqs true 0 [(0,0),(1,0),(2,0)] (.s 57) (.s 59)),I 61 (.pick (.s 56) (.v (.bool true)) (.s 60))]
def ZFL:=R [4,5] [I 4 (.mv (.v (.int .u64 0))),K 5 23]
def ZFM:=R [0,3,23,24,25] [W 62 .add 25 1,M 25 62]
def ZFN:PC:=(D ZG0
 (D (E 26
 .skip
 (.exit 0))
 (D (.block 1
 (D ZG1
 (D ZG2
 (D (D ZFH
 (E 40
 (D ZFI
 .ret)
 .skip))
 (D ZFJ
 (D ZFK
 (E 61
 (D ZFL
 .ret)
 .skip)))))))
 ZFM)))
def ZFO:=R [0,3,13,14] [M 64 0,I 65 (.nilck (.s 64)),F 66 1 65,L 67 66,I 68 (C XB [(.s 67)]),M 63 68,X 69 63 0,X 70 63 1,M 13 69,M 14 70]
def ZFP:=R [0,3,13,14,72] [M 71 14,W 72 .neq 71 0]
def ZFQ:=R [4,5] [M 73 14,I 4 (.mv (.v (.int .u64 0))),M 5 73]
def ZAX:=R [0,3,13] [F 74 2 3,L 75 74,I 76 (C Z8 [(.s 75)]),F 77 2 3,N 1 77 76]
def ZAY:=R [0,13] [M 78 0,I 79 (.nilck (.s 78)),F 80 2 79,L 81 80,M 82 13,T 83 3 3,J (.mupd 0 (.s 81) (.s 82) (.s 83))]
def ZAZ:=R [13] [M 84 0,I 85 (.nilck (.s 84)),F 86 3 85,L 87 86,W 88 .add 87 1,I 89 (.nilck (.s 84)),F 90 3 89,N 1 90 88]
def ZAa:=R [4,5] [M 91 13,M 4 91,K 5 0]
def ZBs:PF:=⟨false,
 (D ZGt
 (D (D ZGu
 (E 16
 (D ZGv
 .ret)
 .skip))
 (D (D ZGw
 (D ZGx
 (E 20
 (D ZGy
 .ret)
 .skip)))
 (D (D ZGz
 (.block 0
 (.loop ZFN)))
 (D ZFO
 (D (D ZFP
 (E 72
 (D ZFQ
 .ret)
 .skip))
 (D ZAX
 (D ZAY
 (D ZAZ
 (D ZAa
 .ret)))))))))),
 [.s 4,.s 5]⟩
theorem ZJh:ck0 false [] ZBs Tryz.f141=some ZBs:=by kernel_rfl
def ZU9:=R [1] [I 1 (.box (.s 0)),I 2 (.mv (.v (.bool false)))]
def ZVA:=R [1,9] [F 7 0 1,L 8 7,W 9 .eql 8 0]
def ZVB:=R [2] [F 10 1 1,L 11 10,I 12 (.len 0 (.s 11)),W 13 .geq 12 1,M 14 13,G 15 14 true (.fadr 1 (.s 1)),G 16 14 true (.ld false 1 (.s 15)),G 17 14 true (.len 0 (.s 16)),G 18 14 true (.bin .leq (.s 17) (V 16)),I 19 (.pick (.s 14) (.s 18) (.v (.bool false))),M 20 19,G 21 20 true (.fadr 2 (.s 1)),G 22 20 true (.ld false 1 (.s 21)),G 23 20 true (.len 1 (.s 22)),G 24 20 true (.bin .eql (.s 23) (V 0)),I 25 (.pick (.s 20) (.s 24) (.v (.bool false))),M 2 25]
def ZVC:=R [1,50] [F 26 0 1,L 27 26,W 28 .lss 27 1,M 29 28,G 30 29 false (.fadr 0 (.s 1)),G 31 29 false (.ld false 1 (.s 30)),G 32 29 false (.bin .gtr (.s 31) (V 16)),I 33 (.pick (.s 29) (.v (.bool true)) (.s 32)),M 34 33,G 35 34 false (.fadr 1 (.s 1)),G 36 34 false (.ld false 1 (.s 35)),G 37 34 false (.bin .neq (.s 36) (.v (.str []))),I 38 (.pick (.s 34) (.v (.bool true)) (.s 37)),M 39 38,G 40 39 false (.fadr 2 (.s 1)),G 41 39 false (.ld false 1 (.s 40)),G 42 39 false (.len 1 (.s 41)),G 43 39 false (.bin .lss (.s 42) (V 2)),I 44 (.pick (.s 39) (.v (.bool true)) (.s 43)),M 45 44,G 46 45 false (.fadr 2 (.s 1)),G 47 45 false (.ld false 1 (.s 46)),G 48 45 false (.len 1 (.s 47)),G 49 45 false (.bin .gtr (.s 48) (V 4)),I 50 (.pick (.s 45) (.v (.bool true)) (.s 49))]
def ZVD:=R [2] [I 2 (.mv (.v (.bool false)))]
def ZVE:=R [1,3,4] [F 52 0 1,L 53 52,W 54 .sub 53 1,I 55 (C ZDn [(.s 54)]),M 51 55,X 56 51 0,X 57 51 1,M 3 56,M 4 57]
def ZVF:=R [3,4,59,60,61] [F 58 2 1,L 59 58,I 60 (.len 1 (.s 59)),K 61 0]
def ZVG:=R [3,4,59,60,61,62] [B 62 .lss 61 60]
def ZVH:=R [3,4,6,59,60,61] [I 63 (.ixS 4 (.s 59) (.s 61)),T 64 4 63,I 6 (.box (.v ZK)),N 4 6 64]
def ZVI:=R [3,4,59,60,61,112] [F 65 0 6,L 66 65,I 67 (C ZCm [(.s 66)]),W 68 .neq 67 0,M 69 68,G 70 69 false (.fadr 1 (.s 6)),G 71 69 false (.fadr 0 (.s 70)),G 72 69 false (.ld false 1 (.s 71)),U 73 69 false 3,G 74 69 false (.bin .lss (.s 72) (.s 73)),I 75 (.pick (.s 69) (.v (.bool true)) (.s 74)),M 76 75,G 77 76 false (.fadr 1 (.s 6)),G 78 76 false (.fadr 0 (.s 77)),G 79 76 false (.ld false 1 (.s 78)),U 80 76 false 4,G 81 76 false (.bin .gtr (.s 79) (.s 80)),I 82 (.pick (.s 76) (.v (.bool true)) (.s 81)),M 83 82,G 84 83 false (.fadr 1 (.s 6)),G 85 83 false (.fadr 1 (.s 84)),G 86 83 false (.ld false 1 (.s 85)),G 87 83 false (.bin .lss (.s 86) (V 0)),I 88 (.pick (.s 83) (.v (.bool true)) (.s 87)),M 89 88,G 90 89 false (.fadr 1 (.s 6)),G 91 89 false (.fadr 1 (.s 90)),G 92 89 false (.ld false 1 (.s 91)),G 93 89 false (.fadr 1 (.s 6)),G 94 89 false (.fadr 0 (.s 93)),G 95 89 false (.ld false 1 (.s 94)),G 96 89 false (.bin .gtr (.s 92) (.s 95)),I 97 (.pick (.s 89) (.v (.bool true)) (.s 96)),M 98 97,G 99 98 false (.fadr 1 (.s 6)),G 100 98 false (.fadr 2 (.s 99)),G 101 98 false (.ld false 1 (.s 100)),G 102 98 false (.bin .lss (.s 101) (V 0)),I 103 (.pick (.s 98) (.v (.bool true)) (.s 102)),M 104 103,G 105 104 false (.fadr 1 (.s 6)),G 106 104 false (.fadr 2 (.s 105)),G 107 104 false (.ld false 1 (.s 106)),G 108 104 false (.fadr 1 (.s 6)),G 109 104 false (.fadr 1 (.s 108)),G 110 104 false (.ld false 1 (.s 109)),G 111 104 false (.bin .gtr (.s 107) (.s 110)),I 112 (.pick (.s 104) (.v (.bool true)) (.s 111))]
def ZRQ:=R [2] [I 2 (.mv (.v (.bool false)))]
def ZRR:=R [3,4,59,60,61] [W 113 .add 61 1,M 61 113]
def ZRS:PC:=(D ZVG
 (D (E 62
 .skip
 (.exit 0))
 (D (.block 1
 (D ZVH
 (D ZVI
 (E 112
 (D ZRQ
 .ret)
 .skip))))
 ZRR)))
def ZRT:=R [2] [I 2 (.mv (.v (.bool true)))]
def ZJ5:PF:=⟨false,
 (D ZU9
 (D (D ZVA
 (E 9
 (D ZVB
 .ret)
 .skip))
 (D (D ZVC
 (E 50
 (D ZVD
 .ret)
 .skip))
 (D ZVE
 (D (D ZVF
 (.block 0
 (.loop ZRS)))
 (D ZRT
 .ret)))))),
 [.s 2]⟩
theorem Zci:ck0 false [] ZJ5 Tryz.f147=some ZJ5:=by kernel_rfl
def ZZU:=R [0,2] [I 2 (.box (.v ZM))]
def ZZV:=R [0,2,3] [I 3 (.box (.v ZM))]
def ZZW:=R [0,2,3,6,7] [I 6 (.build [.nilfunc,.nilfunc,.nilfunc] [(0,1,(.v (.func (.func Xq) [] []))),(1,1,(.v (.func (.func XS) [] []))),(2,1,(.v (.func (.func Xr) [] [])))]),K 7 0]
def ZZX:=R [0,2,3,6,7,8] [W 8 .lss 7 3]
def ZZY:=R [0,2,3,4,5,6,7] [M 9 7,I 10 (.ixArr false 3 1 (.s 6) (.s 7)),M 4 9,M 5 10]
def ZZZ:=R [0,2,3,6,7] [M 11 4,M 12 0,M 13 5,I 14 (C ZBS [(.s 12),(.s 13)]),I 15 (.ixA 3 1 (.s 3) (.s 11)),N 1 15 14]
def ZZa:=R [0,2,3,6,7] [W 16 .add 7 1,M 7 16]
def ZZb:PC:=(D ZZX
 (D (E 8
 .skip
 (.exit 0))
 (D (.block 1
 (D ZZY
 ZZZ))
 ZZa)))
def ZZc:=R [2] [T 17 3 3,I 18 (C Yf [(.s 17)]),N 3 2 18]
def ZNt:PF:=⟨false,
 (D ZZU
 (D ZZV
 (D (D ZZW
 (.block 0
 (.loop ZZb)))
 (D ZZc
 .ret)))),
 [.c 2 true 3]⟩
theorem Zfv:ck0 false [] ZNt Tryz.f148=some ZNt:=by kernel_rfl
def ZVJ:=R [0,2] [I 2 (.box (.v ZM))]
def ZVK:=R [0,2,3] [I 3 (.box (.v ZM))]
def ZVL:=R [2,3,8,9,10] [M 8 0,I 9 (.len 1 (.s 8)),K 10 0]
def ZVM:=R [2,3,8,9,10,11] [B 11 .lss 10 9]
def ZVN:=R [2,3,5,8,9,10] [I 12 (.ixS 3 (.s 8) (.s 10)),T 13 3 12,I 5 (.box (.v ZM)),N 3 5 13]
def ZVO:=R [2,3,8,9,10,20,21] [F 14 0 5,L 15 14,F 16 1 5,L 17 16,F 18 2 5,L 19 18,I 20 (.build [(.int .i64 0),(.int .i64 0),(.int .i64 0)] [(0,1,(.s 15)),(1,1,(.s 17)),(2,1,(.s 19))]),K 21 0]
def ZVP:=R [2,3,8,9,10,20,21,22] [W 22 .lss 21 3]
def ZVQ:=R [2,3,6,7,8,9,10,20,21] [M 23 21,I 24 (.ixArr false 3 1 (.s 20) (.s 21)),M 6 23,M 7 24]
def ZVR:=R [2,3,8,9,10,20,21] [M 25 6,I 26 (.ixA 3 1 (.s 3) (.s 25)),L 27 26,M 28 7,B 29 .add 27 28,I 30 (.ixA 3 1 (.s 3) (.s 25)),N 1 30 29]
def ZVS:=R [2,3,8,9,10,20,21] [W 31 .add 21 1,M 21 31]
def ZRU:PC:=(D ZVP
 (D (E 22
 .skip
 (.exit 2))
 (D (.block 3
 (D ZVQ
 ZVR))
 ZVS)))
def ZRV:=R [2,3,8,9,10] [W 32 .add 10 1,M 10 32]
def ZRW:PC:=(D ZVM
 (D (E 11
 .skip
 (.exit 0))
 (D (.block 1
 (D ZVN
 (D ZVO
 (.block 2
 (.loop ZRU)))))
 ZRV)))
def ZRX:=R [2] [T 33 3 3,I 34 (C Yf [(.s 33)]),N 3 2 34]
def ZJ6:PF:=⟨false,
 (D ZVJ
 (D ZVK
 (D (D ZVL
 (.block 0
 (.loop ZRW)))
 (D ZRX
 .ret)))),
 [.c 2 true 3]⟩
theorem Zck:ck0 false [] ZJ6 Tryz.f149=some ZJ6:=by kernel_rfl
def ZZd:=R [0,1] [I 4 (.mv (.v .nils)),K 5 0]
def ZZe:=R [0,1,15] [M 8 0,I 9 (C ZAW [(.s 8)]),I 10 (.un .not (.s 9)),M 11 10,U 12 11 false 1,G 13 11 false (C ZAW [(.s 12)]),G 14 11 false (.un .not (.s 13)),I 15 (.pick (.s 11) (.v (.bool true)) (.s 14))]
def ZZf:=R [4,5] [I 4 (.mv (.v .nils)),K 5 2]
def ZZg:=R [0,1,6] [M 16 0,M 17 1,B 18 .add 16 17,M 6 18]
def ZZh:=R [0,1,6,21] [M 19 6,I 20 (.len 0 (.s 19)),W 21 .leq 20 16]
def ZZi:=R [4,5] [M 22 6,I 23 (.bslice false 1 [(.str [])] [(0,(.s 22))]),M 4 23,K 5 0]
def ZZj:=R [0,1,6,31] [M 24 0,I 25 (.len 0 (.s 24)),W 26 .geq 25 8,M 27 26,U 28 27 true 1,G 29 27 true (.len 0 (.s 28)),G 30 27 true (.bin .geq (.s 29) (V 8)),I 31 (.pick (.s 27) (.s 30) (.v (.bool false)))]
def ZZk:=R [4,5] [M 32 0,M 33 1,I 34 (.bslice false 1 [(.str []),(.str [])] [(0,(.s 32)),(1,(.s 33))]),M 4 34,K 5 0]
def ZZl:=R [6,7] [M 35 6,I 36 (.len 0 (.s 35)),W 37 .add 36 1,W 38 .quo 37 2,M 7 38]
def ZZm:=R [4,5] [M 39 6,M 40 7,I 41 (.slcS (.s 39) none (some (.s 40))),M 42 6,M 43 7,I 44 (.slcS (.s 42) (some (.s 43)) none),I 45 (.bslice false 1 [(.str []),(.str [])] [(0,(.s 41)),(1,(.s 44))]),M 4 45,K 5 0]
def ZNu:PF:=⟨false,
 (D ZZd
 (D (D ZZe
 (E 15
 (D ZZf
 .ret)
 .skip))
 (D ZZg
 (D (D ZZh
 (E 21
 (D ZZi
 .ret)
 .skip))
 (D (D ZZj
 (E 31
 (D ZZk
 .ret)
 .skip))
 (D ZZl
 (D ZZm
 .ret))))))),
 [.s 4,.s 5]⟩
theorem Zfx:ck0 false [] ZNu Tryz.f150=some ZNu:=by kernel_rfl
def ZFR:=R [0] [I 2 (.mv (.v (.int .u64 0))),K 3 0]
def ZFS:=R [0,6] [M 5 0,I 6 (.eqs false 3 [] (.s 5) (.v .nilptr))]
def ZFT:=R [2,3] [I 2 (.mv (.v (.int .u64 0))),K 3 1]
def ZFU:=R [0,12] [M 7 0,I 8 (.nilck (.s 7)),F 9 0 8,L 10 9,I 11 (.len 1 (.s 10)),W 12 .eql 11 0]
def ZFV:=R [2,3] [I 2 (.mv (.v (.int .u64 0))),K 3 6]
def ZFW:=R [0,4] [M 13 0,I 14 (.nilck (.s 13)),F 15 0 14,L 16 15,M 17 0,I 18 (.nilck (.s 17)),F 19 0 18,L 20 19,I 21 (.len 1 (.s 20)),W 22 .sub 21 1,I 23 (.ixS 1 (.s 16) (.s 22)),L 24 23,M 4 24]
def ZFX:=R [0,4] [M 25 0,M 26 0,I 27 (.nilck (.s 26)),F 28 0 27,L 29 28,M 30 0,I 31 (.nilck (.s 30)),F 32 0 31,L 33 32,I 34 (.len 1 (.s 33)),W 35 .sub 34 1,I 36 (.slc 1 (.s 29) none (some (.s 35))),I 37 (.nilck (.s 25)),F 38 0 37,N 1 38 36]
def ZFY:=R [0,4] [M 39 0,I 40 (.nilck (.s 39)),F 41 1 40,L 42 41,M 43 4,I 44 (.ixS 1 (.s 42) (.s 43)),J (.st 1 (.s 44) (.v (.int .u8 1)))]
def ZFZ:=R [2,3] [M 45 4,M 46 0,I 47 (.nilck (.s 46)),F 48 2 47,L 49 48,M 50 4,I 51 (.ixS 1 (.s 49) (.s 50)),L 52 51,I 53 (C ZDh [(.s 45),(.s 52)]),X 54 53 0,X 55 53 1,M 2 54,M 3 55]
def ZBG:PF:=⟨false,
 (D ZFR
 (D (D ZFS
 (E 6
 (D ZFT
 .ret)
 .skip))
 (D (D ZFU
 (E 12
 (D ZFV
 .ret)
 .skip))
 (D ZFW
 (D ZFX
 (D ZFY
 (D ZFZ
 .ret))))))),
 [.s 2,.s 3]⟩
theorem ZIP:ck0 false [] ZBG Tryz.f151=some ZBG:=by kernel_rfl
def ZVT:=R [0] [K 2 0,K 3 0]
def ZVU:=R [0,2,3] [K 2 8,K 3 16]
def ZVV:=R [2,3,4,5] [M 4 0,K 5 0]
def ZVW:=R [2,3,4,5,6] [B 6 .lss 5 4]
def ZVX:=R [2,3,4,5] [M 7 2,W 8 .mul 7 2,M 2 8]
def ZVY:=R [2,3,4,5] [M 9 3,W 10 .mul 9 4,I 11 (.mnx false (.s 10) (V 65536)),M 3 11]
def ZVZ:=R [2,3,4,5] [W 12 .add 5 1,M 5 12]
def ZVa:PC:=(D ZVW
 (D (E 6
 .skip
 (.exit 0))
 (D (.block 1
 (D ZVX
 ZVY))
 ZVZ)))
def ZVb:=R [2,3] [M 13 2,M 14 3,I 15 (.mnx false (.s 14) (V 65536)),M 2 13,M 3 15]
def ZJ7:PF:=⟨false,
 (D ZVT
 (D ZVU
 (D (D ZVV
 (.block 0
 (.loop ZVa)))
 (D ZVb
 .ret)))),
 [.s 2,.s 3]⟩
theorem Zcm:ck0 false [] ZJ7 Tryz.f153=some ZJ7:=by kernel_rfl
def ZNv:=R [] [I 2 (.mv (.v (.bool false)))]
def ZNw:=R [2] [I 2 (.mv (.v (.bool true)))]
def ZF4:PF:=⟨false,
 (D ZNv
 (D ZNw
 .ret)),
 [.s 2]⟩
theorem ZVd:ck0 false [] ZF4 Tryz.f154=some ZF4:=by kernel_rfl
def ZLP:=R [0] [I 2 (.mv (.v (.bool false)))]
def ZLQ:=R [2] [M 3 0,I 4 (.bin .lss (.s 3) (.v (.int .u8 128))),M 5 4,U 6 5 false 0,G 7 5 false (.bin .gtr (.s 6) (.v (.int .u8 191))),I 8 (.pick (.s 5) (.v (.bool true)) (.s 7)),M 2 8]
def ZEM:PF:=⟨false,
 (D ZLP
 (D ZLQ
 .ret)),
 [.s 2]⟩
theorem ZRZ:ck0 false [] ZEM Tryz.f155=some ZEM:=by kernel_rfl
def ZNx:=R [0] [I 2 (.mv (.v (.bool false)))]
def ZNy:=R [2] [M 3 0,I 4 (.bin .eql (.s 3) (.v (.int .u8 10))),M 2 4]
def ZF5:PF:=⟨false,
 (D ZNx
 (D ZNy
 .ret)),
 [.s 2]⟩
theorem ZVf:ck0 false [] ZF5 Tryz.f156=some ZF5:=by kernel_rfl
def ZNz:=R [0,1] [K 4 0]
def ZN0:=R [0,1,5] [K 5 0]
def ZN1:=R [0,1,5,8,9] [M 7 0,I 8 (.len 0 (.s 7)),K 9 0]
def ZN2:=R [0,1,5,8,9,10] [B 10 .lss 9 8]
def ZN3:=R [0,1,5,6,8,9] [M 11 9,M 6 11]
def ZN4:=R [0,1,5,8,9,16] [M 12 1,M 13 0,M 14 6,I 15 (.ixStr (.s 13) (.s 14)),I 16 (.call .norm (.s 12) [(.s 15)])]
def ZN5:=R [0,1,5,8,9] [M 17 5,W 18 .add 17 1,M 5 18]
def ZN6:=R [0,1,5,8,9] [W 19 .add 9 1,M 9 19]
def ZN7:PC:=(D ZN2
 (D (E 10
 .skip
 (.exit 0))
 (D (.block 1
 (D ZN3
 (D ZN4
 (E 16
 ZN5
 .skip))))
 ZN6)))
def ZN8:=R [4] [M 20 5,M 4 20]
def ZF6:PF:=⟨false,
 (D ZNz
 (D ZN0
 (D (D ZN1
 (.block 0
 (.loop ZN7)))
 (D ZN8
 .ret)))),
 [.s 4]⟩
theorem ZVh:ck0 false [] ZF6 Tryz.f157=some ZF6:=by kernel_rfl
def ZIQ:=R [1,2] [I 1 (.box (.s 0)),I 2 (.box (.v ZM))]
def ZIR:=R [1,2,5] [T 3 3 1,I 4 (.build [(.int .i64 0),(.int .i64 0),(.int .i64 0)] []),I 5 (.eqs false 0 [(0,0),(1,0),(2,0)] (.s 3) (.s 4))]
def ZIS:=R [2] [I 6 (.build [(.int .i64 0),(.int .i64 0),(.int .i64 0)] []),N 3 2 6]
def ZIT:=R [2] [I 7 (.ixA 3 1 (.s 1) (V 0)),L 8 7,I 9 (.ixA 3 1 (.s 1) (V 1)),L 10 9,I 11 (.ixA 3 1 (.s 1) (V 2)),L 12 11,I 13 (.build [(.int .i64 0),(.int .i64 0),(.int .i64 0)] [(0,1,(.s 8)),(1,1,(.s 10)),(2,1,(.s 12))]),N 3 2 13]
def ZC7:PF:=⟨false,
 (D ZIQ
 (D (D ZIR
 (E 5
 (D ZIS
 .ret)
 .skip))
 (D ZIT
 .ret))),
 [.c 2 true 3]⟩
theorem ZLS:ck0 false [] ZC7 Tryz.f158=some ZC7:=by kernel_rfl
end Go.Q15
