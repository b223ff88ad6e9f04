/- Resolved code, printed by program. No condition. -/
import Derived.Test.YtcdebbidfgmieaaGreatProg
import Derived.KernelRfl
import Derived.Test.YtcdebbidfgmieaaGreatRpT3
set_option linter.unusedVariables false
set_option linter.unusedSimpArgs false
namespace Go.Q15
open Go Go.QAbs Go.Proofs
set_option maxRecDepth 100000
noncomputable abbrev c0(b:Bool)(h:List Hint)(f:Func):=Zv Proofs.Tryz.prog b h f
def kp0:PC->List (List Nat)
 | .seq a b=>kp0 a++kp0 b
 | .reg k _=>[k]
 | .regH _ k _=>[k]
 | .ite _ a b=>kp0 a++kp0 b
 | .loop b=>kp0 b
 | .block _ b=>kp0 b
 | _=>[]
def hz0(ov:List (Nat × Hint)):Nat->List (List Nat)->List Hint
 | _,[]=>[]
 | n,k::l=>((ov.find? fun p=>p.1==n).map (·.2)).getD ⟨k,[],[],[],[],[]⟩::hz0 ov (n+1) l
def h0(ov:List (Nat × Hint))(p:PF):List Hint:=hz0 ov 0 (kp0 p.body)
def h0R(ov:List (Nat × Hint))(p:RF):List Hint:=hz0 ov 0 (kp0 p.pre++kp0 p.rng.assign++kp0 p.rng.body++kp0 p.post)
noncomputable abbrev ck0 (b:Bool) (o:List (Nat × Hint)) (p:PF) (f:Func):=c0 b (h0 o p) f
abbrev QG:FuncId:=5
abbrev Xa:FuncId:=7
abbrev Yr:FuncId:=9
abbrev Ys:FuncId:=10
abbrev ZCx:FuncId:=11
abbrev ZB6:FuncId:=14
abbrev JS:FuncId:=15
abbrev JC:FuncId:=16
abbrev Qa:FuncId:=17
abbrev Xb:FuncId:=19
abbrev JX:FuncId:=20
abbrev J5:FuncId:=22
abbrev Ju:FuncId:=23
abbrev JY:FuncId:=24
abbrev Ya:FuncId:=25
abbrev ZAR:FuncId:=30
abbrev ZAS:FuncId:=31
abbrev Yt:FuncId:=36
abbrev X6:FuncId:=37
abbrev ZIA:FuncId:=38
abbrev Xo:FuncId:=39
abbrev JN:FuncId:=40
abbrev ZEF:FuncId:=41
abbrev Xp:FuncId:=42
abbrev ZIB:FuncId:=43
abbrev Xq:FuncId:=46
abbrev ZAh:FuncId:=47
abbrev Yb:FuncId:=48
abbrev Ye:FuncId:=49
abbrev JF:FuncId:=50
abbrev Yf:FuncId:=51
abbrev JT:FuncId:=52
abbrev X7:FuncId:=53
abbrev YH:FuncId:=54
abbrev JH:FuncId:=55
abbrev Zan:FuncId:=58
abbrev ZDv:FuncId:=59
abbrev ZCy:FuncId:=60
abbrev Yo:FuncId:=61
abbrev ZCz:FuncId:=64
abbrev ZAi:FuncId:=65
abbrev ZAj:FuncId:=66
abbrev YI:FuncId:=67
abbrev Y3:FuncId:=68
abbrev ZAa:FuncId:=69
abbrev YA:FuncId:=70
abbrev Qn:FuncId:=71
abbrev Xr:FuncId:=72
abbrev ZAH:FuncId:=73
abbrev ZBs:FuncId:=74
abbrev JZ:FuncId:=79
abbrev Yg:FuncId:=80
abbrev Qo:FuncId:=81
abbrev ZAA:FuncId:=82
abbrev J6:FuncId:=83
abbrev ZBO:FuncId:=84
abbrev Yu:FuncId:=85
abbrev Xc:FuncId:=86
abbrev ZC0:FuncId:=87
abbrev ZDw:FuncId:=88
abbrev ZID:FuncId:=93
abbrev JU:FuncId:=94
abbrev Yh:FuncId:=95
abbrev Yi:FuncId:=96
abbrev ZC1:FuncId:=97
abbrev ZFR:FuncId:=98
abbrev QP:FuncId:=99
abbrev Qu:FuncId:=100
abbrev ZC2:FuncId:=101
abbrev ZBA:FuncId:=102
abbrev Y4:FuncId:=103
abbrev ZB7:FuncId:=104
abbrev ZBB:FuncId:=105
abbrev Qr:FuncId:=106
abbrev Z9:FuncId:=109
abbrev Xd:FuncId:=110
abbrev ZBP:FuncId:=111
abbrev ZFS:FuncId:=112
abbrev Xe:FuncId:=113
abbrev Y5:FuncId:=115
abbrev ZBQ:FuncId:=116
abbrev ZIE:FuncId:=117
abbrev ZAk:FuncId:=118
abbrev ZAl:FuncId:=119
abbrev Jy:FuncId:=120
abbrev JO:FuncId:=121
abbrev Yj:FuncId:=132
abbrev Xf:FuncId:=133
abbrev ZB8:FuncId:=134
abbrev ZC3:FuncId:=135
abbrev YB:FuncId:=136
abbrev ZAm:FuncId:=137
abbrev ZEG:FuncId:=138
abbrev ZDy:FuncId:=139
abbrev Xs:FuncId:=140
abbrev Jm:FuncId:=141
abbrev ZBR:FuncId:=147
abbrev ZFT:FuncId:=148
abbrev ZEH:FuncId:=149
abbrev ZFU:FuncId:=150
abbrev Xg:FuncId:=151
abbrev ZEI:FuncId:=153
abbrev ZAI:FuncId:=154
abbrev Xt:FuncId:=155
abbrev ZAJ:FuncId:=156
abbrev ZBt:FuncId:=157
abbrev Yv:FuncId:=158
abbrev I(d:Nat)(o:PO):PI:=⟨some d,none,false,o⟩
abbrev G(d g:Nat)(b:Bool)(o:PO):PI:=⟨some d,some (g,b),false,o⟩
abbrev J(o:PO):PI:=⟨none,none,false,o⟩
abbrev C(f:FuncId)(a:List Opd):PO:=.call .norm (.v (.func (.func f) [] [])) a
abbrev H(k:List Nat):Hint:=⟨k,[],[],[],[],[]⟩
abbrev V(i:Int):Opd:=.v (.int .i64 i)
abbrev M(d s:Nat):PI:=I d (.mv (.s s))
abbrev X(d s i:Nat):PI:=I d (.ext (.s s) i)
abbrev L(d s:Nat):PI:=I d (.ld false 1 (.s s))
abbrev T(d n s:Nat):PI:=I d (.ld true n (.s s))
abbrev F(d n s:Nat):PI:=I d (.fadr n (.s s))
abbrev U(d g:Nat)(b:Bool)(s:Nat):PI:=G d g b (.mv (.s s))
abbrev W(d:Nat)(o:BinOp)(s:Nat)(i:Int):PI:=I d (.bin o (.s s) (V i))
abbrev B(d:Nat)(o:BinOp)(s t:Nat):PI:=I d (.bin o (.s s) (.s t))
abbrev K(d:Nat)(i:Int):PI:=I d (.mv (V i))
abbrev N(n a x:Nat):PI:=J (.st n (.s a) (.s x))
abbrev E(c:Nat)(a b:PC):PC:=.ite (.s c) a b
abbrev D(a b:PC):PC:=.seq a b
abbrev R(k:List Nat)(l:List PI):PC:=.reg k l
abbrev ZT:AV:=.agg [(.int .u64 0),(.int .i64 0),(.int .i64 0),(.int .i64 0),(.int .i64 0),(.str []),.nils]
abbrev ZR:AV:=.agg [(.int .u64 0),(.int .i64 0),(.int .i64 0),(.int .i64 0),(.int .i64 0)]
abbrev ZM:AV:=.agg [(.int .i64 0),(.int .i64 0),(.int .i64 0)]
abbrev ZN:AV:=.agg [(.int .i64 0),(.str []),.nils]
abbrev ZK:AV:=.agg [(.int .u64 0),(.int .i64 0),(.int .i64 0),(.int .i64 0)]
def ZC4:=R [0,1,2,3] [I 8 (.mv (.v (.bool false)))]
def ZC5:=R [0,1,2,3,42] [M 30 0,M 31 1,I 32 (C Xa [(.s 30),(.s 31)]),M 33 32,U 34 33 false 2,G 35 33 false (.len 1 (.s 34)),G 36 33 false (.bin .gtr (.s 35) (V 10)),I 37 (.pick (.s 33) (.v (.bool true)) (.s 36)),M 38 37,U 39 38 false 3,G 40 38 false (.len 1 (.s 39)),G 41 38 false (.bin .gtr (.s 40) (V 40)),I 42 (.pick (.s 38) (.v (.bool true)) (.s 41))]
def ZC6:=R [8] [I 43 (C Qa []),M 8 43]
def ZC7:=R [2,3,9,10,12] [M 45 0,M 46 1,I 47 (C Yr [(.s 45),(.s 46)]),M 44 47,X 48 44 0,X 49 44 1,X 50 44 2,X 51 44 3,M 9 48,M 10 49,M 11 50,M 12 51]
def ZC8:=R [2,3,9,10,53] [M 52 12,I 53 (.un .not (.s 52))]
def ZC9:=R [8] [I 8 (.mv (.v (.bool false)))]
def ZDA:=R [2,3,9,10,13] [I 13 (.onil 5)]
def ZDB:=R [2,3,9,10,13,14] [K 14 0]
def ZDC:=R [2,3,9,10,13,14,62] [M 54 14,M 55 2,I 56 (.len 1 (.s 55)),B 57 .lss 54 56,M 58 57,U 59 58 true 10,G 60 58 true (.len 1 (.s 59)),G 61 58 true (.bin .gtr (.s 60) (V 0)),I 62 (.pick (.s 58) (.s 61) (.v (.bool false)))]
def ZDD:=R [2,3,9,10,13,14] [M 65 13,M 66 10,M 67 2,M 68 14,I 69 (.ixS 1 (.s 67) (.s 68)),L 70 69,M 71 10,I 72 (.len 1 (.s 71)),W 73 .sub 72 1,I 74 (C Ys [(.s 70),(.s 73)]),I 75 (.ixS 5 (.s 66) (.s 74)),T 76 5 75,I 77 (.bslice false 5 [ZR] [(0,(.s 76))]),I 78 (.app 5 40 (.s 65) (.s 77)),M 13 78]
def ZB9:=R [2,3,9,10,13,14] [M 63 14,W 64 .add 63 1,M 14 64]
def p_quartolaw22_ReachParts_11:PC:=(D (D ZDC
 (E 62
 .skip
 (.exit 0)))
 (D (.block 1
 ZDD)
 ZB9))
def Y9:=R [3,9,13,15] [I 15 (.onil 1)]
def XA:=R [3,9,13,15,16] [M 79 9,I 80 (C J5 [(.s 79)]),M 16 80]
def XB:=R [3,9,13,15,16,17] [K 17 0]
def ZCA:=R [3,9,13,15,16,17,89] [M 81 17,M 82 3,I 83 (.len 1 (.s 82)),B 84 .lss 81 83,M 85 84,U 86 85 true 16,G 87 85 true (.len 1 (.s 86)),G 88 85 true (.bin .gtr (.s 87) (V 0)),I 89 (.pick (.s 85) (.s 88) (.v (.bool false)))]
def ZCB:=R [3,9,13,15,16,17,18] [M 92 16,M 93 3,M 94 17,I 95 (.ixS 1 (.s 93) (.s 94)),L 96 95,M 97 16,I 98 (.len 1 (.s 97)),W 99 .sub 98 1,I 100 (C Ys [(.s 96),(.s 99)]),I 101 (.ixS 1 (.s 92) (.s 100)),L 102 101,M 18 102]
def ZCC:=R [3,9,13,15,16,17,18,106] [M 103 15,M 104 18,I 105 (C JC [(.s 103),(.s 104)]),I 106 (.un .not (.s 105))]
def ZCD:=R [3,9,13,15,16,17] [M 107 15,M 108 18,I 109 (.bslice false 1 [(.int .u64 0)] [(0,(.s 108))]),I 110 (.app 1 8 (.s 107) (.s 109)),M 15 110]
def ZCE:=R [3,9,13,15,16,17] [M 90 17,W 91 .add 90 1,M 17 91]
def p_quartolaw22_ReachParts_20:PC:=(D (D ZCA
 (E 89
 .skip
 (.exit 2)))
 (D (.block 3
 (D ZCB
 (D ZCC
 (E 106
 ZCD
 .skip))))
 ZCE))
def XC:=R [9,13,15,16,19,20] [M 112 9,M 113 13,M 114 15,I 115 (C Ju [(.s 112),(.s 113),(.s 114)]),M 111 115,X 116 111 0,X 117 111 1,I 19 (.box (.v (.agg [(.int .i64 0),(.int .i64 0),(.int .i64 0),(.int .i64 0),(.int .i64 0)]))),N 5 19 116,M 20 117]
def XD:=R [9,13,15,16,19,20,21,22] [M 119 9,M 120 13,I 121 (C Xb [(.s 119),(.s 120)]),M 118 121,X 122 118 0,X 123 118 1,M 21 122,M 22 123]
def XE:=R [9,15,16,19,20,21,22,23,24] [M 125 9,M 126 13,M 127 15,I 128 (C JY [(.s 125),(.s 126),(.s 127)]),M 124 128,X 129 124 0,X 130 124 1,M 23 129,M 24 130]
def XF:=R [9,15,16,19,21,23,140] [M 131 20,W 132 .neq 131 0,M 133 132,U 134 133 false 22,G 135 133 false (.bin .neq (.s 134) (V 0)),I 136 (.pick (.s 133) (.v (.bool true)) (.s 135)),M 137 136,U 138 137 false 24,G 139 137 false (.bin .neq (.s 138) (V 0)),I 140 (.pick (.s 137) (.v (.bool true)) (.s 139))]
def XG:=R [8] [I 8 (.mv (.v (.bool false)))]
def XH:=R [15,16,19,21,23,25] [M 141 9,I 142 (C Ya [(.s 141)]),I 25 (.box (.v (.agg [(.int .i64 0),(.int .i64 0),(.int .i64 0),(.int .i64 0),(.int .i64 0),(.int .i64 0),(.int .i64 0)]))),N 7 25 142]
def XI:=R [15,16,19,21,23,187] [F 143 0 19,L 144 143,F 145 1 19,L 146 145,B 147 .add 144 146,F 148 2 19,L 149 148,B 150 .add 147 149,F 151 3 19,L 152 151,B 153 .add 150 152,F 154 4 19,L 155 154,B 156 .add 153 155,F 157 0 25,L 158 157,B 159 .neq 156 158,M 160 159,G 161 160 false (.fadr 2 (.s 19)),G 162 160 false (.ld false 1 (.s 161)),G 163 160 false (.fadr 1 (.s 25)),G 164 160 false (.ld false 1 (.s 163)),G 165 160 false (.bin .neq (.s 162) (.s 164)),I 166 (.pick (.s 160) (.v (.bool true)) (.s 165)),M 167 166,G 168 167 false (.fadr 3 (.s 19)),G 169 167 false (.ld false 1 (.s 168)),G 170 167 false (.fadr 3 (.s 25)),G 171 167 false (.ld false 1 (.s 170)),G 172 167 false (.bin .neq (.s 169) (.s 171)),I 173 (.pick (.s 167) (.v (.bool true)) (.s 172)),M 174 173,G 175 174 false (.fadr 0 (.s 19)),G 176 174 false (.ld false 1 (.s 175)),U 177 174 false 21,G 178 174 false (.len 1 (.s 177)),G 179 174 false (.bin .neq (.s 176) (.s 178)),I 180 (.pick (.s 174) (.v (.bool true)) (.s 179)),M 181 180,G 182 181 false (.fadr 4 (.s 19)),G 183 181 false (.ld false 1 (.s 182)),U 184 181 false 23,G 185 181 false (.len 1 (.s 184)),G 186 181 false (.bin .neq (.s 183) (.s 185)),I 187 (.pick (.s 181) (.v (.bool true)) (.s 186))]
def XJ:=R [8] [I 8 (.mv (.v (.bool false)))]
def XK:=R [15,16,19,21,23,26] [K 26 0]
def XL:=R [15,16,19,21,23,26,27] [K 27 0]
def ZCF:=R [15,16,19,21,23,26,27,191] [M 188 27,M 189 16,I 190 (.len 1 (.s 189)),B 191 .lss 188 190]
def ZCG:=R [15,16,19,21,23,26,27,28] [M 194 16,M 195 27,I 196 (.ixS 1 (.s 194) (.s 195)),L 197 196,M 28 197]
def ZCH:=R [15,16,19,21,23,26,27,28,29] [K 29 0]
def ZCI:=R [15,16,19,21,23,26,27,28,29,200] [M 198 21,M 199 28,I 200 (C JC [(.s 198),(.s 199)])]
def ZCJ:=R [15,16,19,21,23,26,27,28,29] [M 201 29,W 202 .add 201 1,M 29 202]
def ZCK:=R [15,16,19,21,23,26,27,28,29,205] [M 203 15,M 204 28,I 205 (C JC [(.s 203),(.s 204)])]
def ZCL:=R [15,16,19,21,23,26,27,28,29] [M 206 26,W 207 .add 206 1,M 26 207]
def ZCM:=R [15,16,19,21,23,26,27,28,29] [M 208 29,W 209 .add 208 1,M 29 209]
def ZCN:=R [15,16,19,21,23,26,27,29,212] [M 210 23,M 211 28,I 212 (C JC [(.s 210),(.s 211)])]
def ZCO:=R [15,16,19,21,23,26,27,29] [M 213 29,W 214 .add 213 1,M 29 214]
def ZCP:=R [15,16,19,21,23,26,27,216] [M 215 29,W 216 .neq 215 1]
def ZCQ:=R [8] [I 8 (.mv (.v (.bool false)))]
def ZCR:=R [15,16,19,21,23,26,27] [M 192 27,W 193 .add 192 1,M 27 193]
def p_quartolaw22_ReachParts_44:PC:=(D (D ZCF
 (E 191
 .skip
 (.exit 4)))
 (D (.block 5
 (D ZCG
 (D ZCH
 (D (D ZCI
 (E 200
 ZCJ
 (D ZCK
 (E 205
 (D ZCL
 ZCM)
 .skip))))
 (D (D ZCN
 (E 212
 ZCO
 .skip))
 (D ZCP
 (E 216
 (D ZCQ
 .ret)
 .skip)))))))
 ZCR))
def XM:=R [8] [M 217 26,F 218 1 19,L 219 218,B 220 .eql 217 219,M 221 220,G 222 221 true (C Qa []),I 223 (.pick (.s 221) (.s 222) (.v (.bool false))),M 8 223]
def QN:PF:=⟨false,
 (D ZC4
 (D (D ZC5
 (E 42
 (D ZC6
 .ret)
 .skip))
 (D ZC7
 (D (D ZC8
 (E 53
 (D ZC9
 .ret)
 .skip))
 (D ZDA
 (D (D ZDB
 (.block 0
 (.loop p_quartolaw22_ReachParts_11)))
 (D Y9
 (D XA
 (D (D XB
 (.block 2
 (.loop p_quartolaw22_ReachParts_20)))
 (D XC
 (D XD
 (D XE
 (D (D XF
 (E 140
 (D XG
 .ret)
 .skip))
 (D XH
 (D (D XI
 (E 187
 (D XJ
 .ret)
 .skip))
 (D XK
 (D (D XL
 (.block 4
 (.loop p_quartolaw22_ReachParts_44)))
 (D XM
 .ret)))))))))))))))))),
 [.s 8]⟩
theorem ZEK:ck0 false [(6,⟨[2,3,9,10,13],[0],[],[],[],[]⟩),(11,⟨[3,9,13,15],[0],[],[],[],[]⟩)] QN Tryz.f5=some QN:=by kernel_rfl
def ZFV:=R [0,1] [I 4 (.mv (.v (.bool false)))]
def ZFW:=R [4] [M 5 0,I 6 (C ZAR [(.s 5)]),M 7 6,U 8 7 false 1,G 9 7 false (C ZAS [(.s 8)]),I 10 (.pick (.s 7) (.v (.bool true)) (.s 9)),M 11 10,U 12 11 false 1,G 13 11 false (.len 1 (.s 12)),G 14 11 false (.bin .gtr (.s 13) (V 12)),I 15 (.pick (.s 11) (.v (.bool true)) (.s 14)),M 4 15]
def ZBc:PF:=⟨false,
 (D ZFV
 (D ZFW
 .ret)),
 [.s 4]⟩
theorem ZIH:ck0 false [] ZBc Tryz.f7=some ZBc:=by kernel_rfl
def ZII:=R [0,1] [I 4 (.mv (.v .nilptr)),I 5 (.mv (.v .nils)),I 6 (.mv (.v .nils)),I 7 (.mv (.v (.bool false)))]
def ZIJ:=R [0,1,8,9,10] [M 20 0,I 21 (C Yt [(.s 20)]),M 19 21,X 22 19 0,X 23 19 1,X 24 19 2,M 8 22,M 9 23,M 10 24]
def ZIK:=R [0,1,8,9,26] [M 25 10,I 26 (.un .not (.s 25))]
def ZIL:=R [4,5,6,7] [I 4 (.mv (.v .nilptr)),I 5 (.mv (.v .nils)),I 6 (.mv (.v .nils)),I 7 (.mv (.v (.bool false)))]
def ZIM:=R [1,8,9,11] [I 27 (.bslice false 1 [] []),M 28 0,I 29 (.app 1 16 (.s 27) (.s 28)),M 11 29]
def ZIN:=R [1,8,9,11,12] [K 12 0]
def ZIO:=R [1,8,9,11,12,33] [M 30 12,M 31 1,I 32 (.len 1 (.s 31)),B 33 .lss 30 32]
def ZIP:=R [1,8,9,11,12,13,14] [M 37 8,M 38 9,M 39 1,M 40 12,M 41 12,W 42 .add 41 1,I 43 (.slc 5 (.s 39) (some (.s 40)) (some (.s 42))),I 44 (C X6 [(.s 37),(.s 38),(.s 43)]),M 36 44,X 45 36 0,X 46 36 1,M 13 45,M 14 46]
def ZIQ:=R [1,8,9,11,12,13,48] [M 47 14,I 48 (.un .not (.s 47))]
def ZIR:=R [4,5,6,7] [I 4 (.mv (.v .nilptr)),I 5 (.mv (.v .nils)),I 6 (.mv (.v .nils)),I 7 (.mv (.v (.bool false)))]
def ZGx:=R [1,8,9,11,12,13,15,16] [M 50 8,M 51 13,I 52 (.ixS 7 (.s 51) (V 0)),T 53 7 52,I 54 (C ZIA [(.s 50),(.s 53)]),M 49 54,X 55 49 0,X 56 49 1,M 15 55,M 16 56]
def ZGy:=R [1,8,9,11,12,13,15,58] [M 57 16,W 58 .neq 57 0]
def ZGz:=R [4,5,6,7] [I 4 (.mv (.v .nilptr)),I 5 (.mv (.v .nils)),I 6 (.mv (.v .nils)),I 7 (.mv (.v (.bool false)))]
def ZG0:=R [1,8,9,11,12,15,16,17] [M 60 8,M 61 13,I 62 (.ixS 7 (.s 61) (V 0)),T 63 7 62,I 64 (C Xo [(.s 60),(.s 63)]),M 59 64,X 65 59 0,X 66 59 1,X 67 59 2,I 17 (.box (.v ZR)),N 5 17 65,M 18 66,M 16 67]
def ZG1:=R [1,8,9,11,12,15,16,17,69] [M 68 16,W 69 .eql 68 6]
def ZG2:=R [1,8,9,11,12,15,17,71] [M 70 16,W 71 .neq 70 0]
def ZG3:=R [4,5,6,7] [I 4 (.mv (.v .nilptr)),I 5 (.mv (.v .nils)),I 6 (.mv (.v .nils)),I 7 (.mv (.v (.bool false)))]
def ZG4:=R [1,8,9,11,12,15] [M 72 9,T 73 5 17,I 74 (.bslice false 5 [ZR] [(0,(.s 73))]),I 75 (.app 5 40 (.s 72) (.s 74)),M 9 75]
def ZG5:=R [1,8,9,11,12] [M 76 11,M 77 15,I 78 (.bslice false 1 [(.str [])] [(0,(.s 77))]),I 79 (.app 1 16 (.s 76) (.s 78)),M 11 79]
def ZG6:=R [1,8,9,11,12] [M 34 12,W 35 .add 34 1,M 12 35]
def ZG7:PC:=(D (D ZIO
 (E 33
 .skip
 (.exit 0)))
 (D (.block 1
 (D ZIP
 (D (D ZIQ
 (E 48
 (D ZIR
 .ret)
 .skip))
 (D ZGx
 (D (D ZGy
 (E 58
 (D ZGz
 .ret)
 .skip))
 (D ZG0
 (D (D ZG1
 (E 69
 (.exit 1)
 .skip))
 (D (D ZG2
 (E 71
 (D ZG3
 .ret)
 .skip))
 (D ZG4
 ZG5)))))))))
 ZG6))
def ZG8:=R [4,5,6,7] [M 80 8,M 81 9,M 82 11,M 4 80,M 5 81,M 6 82,I 7 (.mv (.v (.bool true)))]
def ZAT:PF:=⟨true,
 (D ZII
 (D ZIJ
 (D (D ZIK
 (E 26
 (D ZIL
 .ret)
 .skip))
 (D ZIM
 (D (D ZIN
 (.block 0
 (.loop ZG7)))
 (D ZG8
 .ret)))))),
 [.s 4,.s 5,.s 6,.s 7]⟩
theorem ZLS:ck0 true [] ZAT Tryz.f9=some ZAT:=by kernel_rfl
def ZIS:=R [0,1] [K 4 0]
def ZIT:=R [4] [M 5 0,M 6 1,I 7 (C JN [(.s 5),(.s 6)]),M 4 7]
def ZDE:PF:=⟨false,
 (D ZIS
 (D ZIT
 .ret)),
 [.s 4]⟩
theorem ZLU:ck0 false [] ZDE Tryz.f10=some ZDE:=by kernel_rfl
def ZPd:=R [5,6,7,8,9,10] [I 5 (.box (.s 0)),I 6 (.box (.s 1)),I 7 (.box (.s 2)),I 8 (.box (.s 3)),I 9 (.box (.s 4)),I 10 (.box (.v (.agg [(.int .u64 0),(.int .i64 0),(.int .i64 0),(.int .i64 0),(.int .i64 0),.nils,.nils]))),K 11 0]
def ZPe:=R [10,11] [L 12 5,I 13 (.mkf (.func Xp) [] [(.s 5),(.s 6),(.s 7),(.s 8),(.s 9)]),T 14 5 6,I 15 (.bslice false 5 [ZR] [(0,(.s 14))]),I 16 (C ZEF [(.s 12),(.s 13),(.s 15)]),X 17 16 0,X 18 16 1,N 7 10 17,M 11 18]
def ZIU:PF:=⟨false,
 (D ZPd
 (D ZPe
 .ret)),
 [.c 10 true 7,.s 11]⟩
theorem ZWz:ck0 false [] ZIU Tryz.f11=some ZIU:=by kernel_rfl
def ZW0:=R [0,3,20] [I 3 (.box (.s 1)),I 4 (.mv (.v .nils)),K 5 0]
def ZW1:=R [0,3,6,20] [M 10 0,T 11 5 3,I 12 (C Xq [(.s 10),(.s 11)]),M 6 12]
def ZW2:=R [0,3,6,14,20] [M 13 6,W 14 .neq 13 0]
def ZW3:=R [4,5] [M 15 6,I 4 (.mv (.v .nils)),M 5 15]
def ZW4:=R [0,3,7,20] [I 7 (.boxnil 1)]
def ZW5:=R [0,3,7,8,20] [I 16 (.mkmap),I 8 (.box (.v .nilmap)),N 1 8 16]
def ZW6:=R [7,8,19,20] [M 17 0,T 18 5 3,I 19 (C ZAh [(.s 17),(.s 18)])]
def ZW7:=R [7,8,9] [M 9 20]
def ZW8:=R [7,8,9,25] [L 22 8,M 23 9,I 24 (.look 0 (.bool false) false (.s 22) (.s 23)),I 25 (.un .not (.s 24))]
def ZW9:=R [7,9] [L 26 8,M 27 9,J (.mupd 0 (.s 26) (.s 27) (.v (.bool true)))]
def ZSz:=R [7] [L 28 7,M 29 9,I 30 (.bslice false 1 [(.int .u64 0)] [(0,(.s 29))]),I 31 (.app 1 8 (.s 28) (.s 30)),N 1 7 31]
def ZS0:=R [4,5] [L 32 7,M 4 32,K 5 0]
def p_rope_Nodes:RF:=⟨33,
 (D ZW0
 (D (D ZW1
 (D ZW2
 (E 14
 (D ZW3
 .ret)
 .skip)))
 (D ZW4
 (D ZW5
 (D ZW6
 .skip))))),
 ⟨(.s 19),[20,21],
 ZW7,
 (.block 1
 (D ZW8
 (E 25
 (D ZW9
 ZSz)
 .skip)))⟩,
 (D .skip
 (D ZS0
 .ret)),
 [.s 4,.s 5]⟩
theorem ZeZ:ZWp Proofs.Tryz.prog (h0R [(4,⟨[0,3,7,20],[0],[],[],[],[]⟩)] p_rope_Nodes) Proofs.Tryz.f14=some p_rope_Nodes:=by kernel_rfl
def ZDF:=R [0,1] [I 4 (.mv (.v (.bool false)))]
def ZDG:=R [0,1,10] [M 6 0,I 7 (.len 1 (.s 6)),M 8 1,I 9 (.len 1 (.s 8)),B 10 .neq 7 9]
def ZDH:=R [4] [I 4 (.mv (.v (.bool false)))]
def ZDI:=R [0,1,5] [K 5 0]
def ZDJ:=R [0,1,5,14] [M 11 5,M 12 0,I 13 (.len 1 (.s 12)),B 14 .lss 11 13]
def ZDK:=R [0,1,5,25] [M 17 0,M 18 5,I 19 (.ixS 1 (.s 17) (.s 18)),L 20 19,M 21 1,M 22 5,I 23 (.ixS 1 (.s 21) (.s 22)),L 24 23,B 25 .neq 20 24]
def ZDL:=R [4] [I 4 (.mv (.v (.bool false)))]
def ZDM:=R [0,1,5] [M 15 5,W 16 .add 15 1,M 5 16]
def ZDN:PC:=(D (D ZDJ
 (E 14
 .skip
 (.exit 0)))
 (D (.block 1
 (D ZDK
 (E 25
 (D ZDL
 .ret)
 .skip)))
 ZDM))
def ZDO:=R [4] [I 4 (.mv (.v (.bool true)))]
def ZAB:PF:=⟨false,
 (D ZDF
 (D (D ZDG
 (E 10
 (D ZDH
 .ret)
 .skip))
 (D (D ZDI
 (.block 0
 (.loop ZDN)))
 (D ZDO
 .ret)))),
 [.s 4]⟩
theorem ZEM:ck0 false [] ZAB Tryz.f15=some ZAB:=by kernel_rfl
def ZKE:=R [0,1] [I 4 (.mv (.v (.bool false)))]
def ZKF:=R [0,1,5] [K 5 0]
def ZKG:=R [0,1,5,9] [M 6 5,M 7 0,I 8 (.len 1 (.s 7)),B 9 .lss 6 8]
def ZKH:=R [0,1,5,17] [M 12 0,M 13 5,I 14 (.ixS 1 (.s 12) (.s 13)),L 15 14,M 16 1,B 17 .eql 15 16]
def ZKI:=R [4] [I 4 (.mv (.v (.bool true)))]
def ZKJ:=R [0,1,5] [M 10 5,W 11 .add 10 1,M 5 11]
def ZKK:PC:=(D (D ZKG
 (E 9
 .skip
 (.exit 0)))
 (D (.block 1
 (D ZKH
 (E 17
 (D ZKI
 .ret)
 .skip)))
 ZKJ))
def ZKL:=R [4] [I 4 (.mv (.v (.bool false)))]
def ZDz:PF:=⟨false,
 (D ZKE
 (D (D ZKF
 (.block 0
 (.loop ZKK)))
 (D ZKL
 .ret))),
 [.s 4]⟩
theorem ZMx:ck0 false [] ZDz Tryz.f16=some ZDz:=by kernel_rfl
def ZG9:=R [] [I 0 (.mv (.v (.bool false)))]
def ZHA:=R [1,2,3,4] [I 8 (C Yb []),M 7 8,X 9 7 0,X 10 7 1,X 11 7 2,X 12 7 3,I 2 (.box (.v ZR)),I 3 (.box (.v ZR)),M 1 9,N 5 2 10,N 5 3 11,M 4 12]
def ZHB:=R [1,2,3,14] [M 13 4,I 14 (.un .not (.s 13))]
def ZHC:=R [0] [I 0 (.mv (.v (.bool false)))]
def ZHD:=R [5,6] [M 16 1,T 17 5 2,T 18 5 3,I 19 (.bslice false 5 [ZR,ZR] [(0,(.s 17)),(1,(.s 18))]),I 20 (C JX [(.s 16),(.s 19)]),M 15 20,X 21 15 0,X 22 15 1,M 5 21,M 6 22]
def ZHE:=R [0] [M 23 6,W 24 .eql 23 0,M 25 24,U 26 25 true 5,G 27 25 true (.bslice false 1 [(.int .u64 0)] [(0,(.v (.int .u64 65537)))]),G 28 25 true (C JS [(.s 26),(.s 27)]),I 29 (.pick (.s 25) (.s 28) (.v (.bool false))),M 0 29]
def JD:PF:=⟨false,
 (D ZG9
 (D ZHA
 (D (D ZHB
 (E 14
 (D ZHC
 .ret)
 .skip))
 (D ZHD
 (D ZHE
 .ret))))),
 [.s 0]⟩
theorem ZKN:ck0 false [] JD Tryz.f17=some JD:=by kernel_rfl
def Zao:=R [0,1] [I 4 (.mv (.v .nils)),K 5 0]
def Zap:=R [6,7] [M 9 0,M 10 1,I 11 (C Ye [(.s 9),(.s 10)]),M 8 11,X 12 8 0,X 13 8 1,M 6 12,M 7 13]
def Zaq:=R [6,7,15] [M 14 7,W 15 .neq 14 0]
def Zar:=R [4,5] [M 16 7,I 4 (.mv (.v .nils)),M 5 16]
def Zas:=R [4,5] [M 17 6,I 18 (C JF [(.s 17),(V 1)]),M 4 18,K 5 0]
def ZAb:PF:=⟨false,
 (D Zao
 (D Zap
 (D (D Zaq
 (E 15
 (D Zar
 .ret)
 .skip))
 (D Zas
 .ret)))),
 [.s 4,.s 5]⟩
theorem Zg6:ck0 false [] ZAb Tryz.f19=some ZAb:=by kernel_rfl
def ZPf:=R [0,1] [I 4 (.mv (.v .nils)),K 5 0]
def ZPg:=R [6,7] [M 9 0,M 10 1,I 11 (C Ye [(.s 9),(.s 10)]),M 8 11,X 12 8 0,X 13 8 1,M 6 12,M 7 13]
def ZPh:=R [6,7,15] [M 14 7,W 15 .neq 14 0]
def ZPi:=R [4,5] [M 16 7,I 4 (.mv (.v .nils)),M 5 16]
def ZPj:=R [4,5] [M 17 6,I 18 (C JF [(.s 17),(V 2)]),M 4 18,K 5 0]
def Yk:PF:=⟨false,
 (D ZPf
 (D ZPg
 (D (D ZPh
 (E 15
 (D ZPi
 .ret)
 .skip))
 (D ZPj
 .ret)))),
 [.s 4,.s 5]⟩
theorem ZXB:ck0 false [] Yk Tryz.f20=some Yk:=by kernel_rfl
def ZEc:=R [0] [I 2 (.mv (.v .nils))]
def ZEd:=R [0,4] [M 3 0,I 4 (.eqs false 3 [] (.s 3) (.v .nilptr))]
def ZEe:=R [2] [I 2 (.mv (.v .nils))]
def ZEf:=R [2] [M 5 0,I 6 (.nilck (.s 5)),F 7 1 6,L 8 7,I 9 (C Yf [(.s 8)]),M 2 9]
def ZAz:PF:=⟨false,
 (D ZEc
 (D (D ZEd
 (E 4
 (D ZEe
 .ret)
 .skip))
 (D ZEf
 .ret))),
 [.s 2]⟩
theorem ZHG:ck0 false [] ZAz Tryz.f22=some ZAz:=by kernel_rfl
def ZS1:=R [0,1,2,6] [I 6 (.box (.v (.agg [(.int .i64 0),(.int .i64 0),(.int .i64 0),(.int .i64 0),(.int .i64 0)]))),K 7 0]
def ZS2:=R [0,6,8,9,10,11] [M 15 0,M 16 1,M 17 2,I 18 (C JT [(.s 15),(.s 16),(.s 17)]),M 14 18,X 19 14 0,X 20 14 1,X 21 14 2,X 22 14 3,M 8 19,M 9 20,M 10 21,M 11 22]
def ZS3:=R [0,6,8,9,10,11,24] [M 23 11,W 24 .neq 23 0]
def ZS4:=R [6,7] [I 25 (.build [(.int .i64 0),(.int .i64 0),(.int .i64 0),(.int .i64 0),(.int .i64 0)] []),M 26 11,N 5 6 25,M 7 26]
def ZS5:=R [6,8,9,10,12,13] [M 28 0,I 29 (C X7 [(.s 28)]),M 27 29,X 30 27 0,X 31 27 1,M 12 30,M 13 31]
def ZS6:=R [6,7] [M 32 8,M 33 9,M 34 12,I 35 (.len 1 (.s 34)),M 36 13,I 37 (.len 1 (.s 36)),M 38 10,I 39 (.len 2 (.s 38)),I 40 (.build [(.int .i64 0),(.int .i64 0),(.int .i64 0),(.int .i64 0),(.int .i64 0)] [(0,1,(.s 32)),(1,1,(.s 33)),(2,1,(.s 35)),(3,1,(.s 37)),(4,1,(.s 39))]),N 5 6 40,K 7 0]
def YS:PF:=⟨false,
 (D ZS1
 (D ZS2
 (D (D ZS3
 (E 24
 (D ZS4
 .ret)
 .skip))
 (D ZS5
 (D ZS6
 .ret))))),
 [.c 6 true 5,.s 7]⟩
theorem Zau:ck0 false [] YS Tryz.f23=some YS:=by kernel_rfl
def ZPk:=R [0,1,2] [I 6 (.mv (.v .nils)),K 7 0]
def ZPl:=R [10,11] [M 13 0,M 14 1,M 15 2,I 16 (C JT [(.s 13),(.s 14),(.s 15)]),M 12 16,X 17 12 0,X 18 12 1,X 19 12 2,X 20 12 3,M 8 17,M 9 18,M 10 19,M 11 20]
def ZPm:=R [10,11,22] [M 21 11,W 22 .neq 21 0]
def ZPn:=R [6,7] [M 23 11,I 6 (.mv (.v .nils)),M 7 23]
def ZPo:=R [6,7] [M 24 10,I 25 (C JF [(.s 24),(V 1)]),M 6 25,K 7 0]
def J4:PF:=⟨false,
 (D ZPk
 (D ZPl
 (D (D ZPm
 (E 22
 (D ZPn
 .ret)
 .skip))
 (D ZPo
 .ret)))),
 [.s 6,.s 7]⟩
theorem ZXD:ck0 false [] J4 Tryz.f24=some J4:=by kernel_rfl
def ZHH:=R [0,2] [I 2 (.box (.v (.agg [(.int .i64 0),(.int .i64 0),(.int .i64 0),(.int .i64 0),(.int .i64 0),(.int .i64 0),(.int .i64 0)])))]
def ZHI:=R [0,2,4] [M 3 0,I 4 (.eqs false 3 [] (.s 3) (.v .nilptr))]
def ZHJ:=R [2] [I 5 (.build [(.int .i64 0),(.int .i64 0),(.int .i64 0),(.int .i64 0),(.int .i64 0),(.int .i64 0),(.int .i64 0)] []),N 7 2 5]
def ZHK:=R [2] [M 6 0,I 7 (.nilck (.s 6)),F 8 0 7,L 9 8,M 10 0,I 11 (.nilck (.s 10)),F 12 1 11,L 13 12,I 14 (.call .pure (.v (.func (.func YH) [] [])) [(.s 13)]),I 15 (.len 1 (.s 14)),M 16 0,I 17 (.nilck (.s 16)),F 18 2 17,L 19 18,I 20 (.len 2 (.s 19)),M 21 0,I 22 (.nilck (.s 21)),F 23 1 22,L 24 23,I 25 (.call .pure (.v (.func (.func JH) [] [])) [(.s 24)]),I 26 (.len 1 (.s 25)),M 27 0,I 28 (.nilck (.s 27)),F 29 3 28,L 30 29,M 31 0,I 32 (.nilck (.s 31)),F 33 4 32,L 34 33,M 35 0,I 36 (.nilck (.s 35)),F 37 5 36,L 38 37,I 39 (.build [(.int .i64 0),(.int .i64 0),(.int .i64 0),(.int .i64 0),(.int .i64 0),(.int .i64 0),(.int .i64 0)] [(0,1,(.s 9)),(1,1,(.s 15)),(2,1,(.s 20)),(3,1,(.s 26)),(4,1,(.s 30)),(5,1,(.s 34)),(6,1,(.s 38))]),N 7 2 39]
def ZBv:PF:=⟨false,
 (D ZHH
 (D (D ZHI
 (E 4
 (D ZHJ
 .ret)
 .skip))
 (D ZHK
 .ret))),
 [.c 2 true 7]⟩
theorem ZKP:ck0 false [(3,⟨[2],[],[(8,.pure),(19,.pure)],[],[],[]⟩)] ZBv Tryz.f25=some ZBv:=by kernel_rfl
def ZIV:=R [0] [I 2 (.mv (.v (.bool false)))]
def ZIW:=R [0,3] [K 3 0]
def ZIX:=R [0,3,4] [K 4 0]
def ZIY:=R [0,3,4,12] [M 5 4,M 6 0,I 7 (.len 1 (.s 6)),B 8 .lss 5 7,M 9 8,U 10 9 true 3,G 11 9 true (.bin .leq (.s 10) (V 900)),I 12 (.pick (.s 9) (.s 11) (.v (.bool false)))]
def ZIZ:=R [0,3,4] [M 15 3,M 16 0,M 17 4,I 18 (.ixS 1 (.s 16) (.s 17)),L 19 18,I 20 (.len 0 (.s 19)),I 21 (.mnx false (.s 20) (V 1000)),B 22 .add 15 21,M 3 22]
def ZIa:=R [0,3,4] [M 13 4,W 14 .add 13 1,M 4 14]
def ZIb:PC:=(D (D ZIY
 (E 12
 .skip
 (.exit 0)))
 (D (.block 1
 ZIZ)
 ZIa))
def ZIc:=R [2] [M 23 0,I 24 (.len 1 (.s 23)),W 25 .gtr 24 4,M 26 25,U 27 26 false 3,G 28 26 false (.bin .gtr (.s 27) (V 900)),I 29 (.pick (.s 26) (.v (.bool true)) (.s 28)),M 2 29]
def ZDP:PF:=⟨false,
 (D ZIV
 (D ZIW
 (D (D ZIX
 (.block 0
 (.loop ZIb)))
 (D ZIc
 .ret)))),
 [.s 2]⟩
theorem ZLW:ck0 false [] ZDP Tryz.f30=some ZDP:=by kernel_rfl
def ZId:=R [0] [I 2 (.mv (.v (.bool false)))]
def ZIe:=R [0,3] [K 3 0]
def ZIf:=R [0,3,11] [M 4 3,M 5 0,I 6 (.len 1 (.s 5)),B 7 .lss 4 6,M 8 7,U 9 8 true 3,G 10 8 true (.bin .lss (.s 9) (V 100)),I 11 (.pick (.s 8) (.s 10) (.v (.bool false)))]
def ZIg:=R [0,3,20] [M 14 0,M 15 3,I 16 (.ixS 5 (.s 14) (.s 15)),F 17 4 16,L 18 17,I 19 (.len 0 (.s 18)),W 20 .gtr 19 200]
def ZIh:=R [2] [I 2 (.mv (.v (.bool true)))]
def ZIi:=R [0,3] [M 12 3,W 13 .add 12 1,M 3 13]
def ZIj:PC:=(D (D ZIf
 (E 11
 .skip
 (.exit 0)))
 (D (.block 1
 (D ZIg
 (E 20
 (D ZIh
 .ret)
 .skip)))
 ZIi))
def ZIk:=R [2] [M 21 0,I 22 (.len 1 (.s 21)),W 23 .gtr 22 60,M 2 23]
def ZDQ:PF:=⟨false,
 (D ZId
 (D (D ZIe
 (.block 0
 (.loop ZIj)))
 (D ZIk
 .ret))),
 [.s 2]⟩
theorem ZLY:ck0 false [] ZDQ Tryz.f31=some ZDQ:=by kernel_rfl
def ZIl:=R [0] [I 2 (.mv (.v .nilptr)),I 3 (.mv (.v .nils)),I 4 (.mv (.v (.bool false)))]
def ZIm:=R [0,5,6] [I 12 (C ZDv [(V 1500),(.v (.int .u64 3))]),M 11 12,X 13 11 0,X 14 11 1,M 5 13,M 6 14]
def ZIn:=R [0,5,20] [M 15 5,I 16 (.eqs false 3 [] (.s 15) (.v .nilptr)),M 17 16,U 18 17 false 6,G 19 17 false (.bin .neq (.s 18) (V 0)),I 20 (.pick (.s 17) (.v (.bool true)) (.s 19))]
def ZIo:=R [2,3,4] [I 2 (.mv (.v .nilptr)),I 3 (.mv (.v .nils)),I 4 (.mv (.v (.bool false)))]
def ZIp:=R [0,5,7] [I 7 (.onil 5)]
def ZIq:=R [0,5,7,8] [K 8 0]
def ZIr:=R [0,5,7,8,24] [M 21 8,M 22 0,I 23 (.len 1 (.s 22)),B 24 .lss 21 23]
def ZIs:=R [0,5,7,8,9,10] [M 28 5,M 29 0,M 30 8,I 31 (.ixS 1 (.s 29) (.s 30)),L 32 31,I 33 (C ZCy [(.s 28),(.s 32)]),M 27 33,X 34 27 0,X 35 27 1,I 9 (.box (.v ZR)),N 5 9 34,M 10 35]
def ZIt:=R [0,5,7,8,9,37] [M 36 10,W 37 .neq 36 0]
def ZIu:=R [2,3,4] [I 2 (.mv (.v .nilptr)),I 3 (.mv (.v .nils)),I 4 (.mv (.v (.bool false)))]
def ZHL:=R [0,5,7,8] [M 38 7,T 39 5 9,I 40 (.bslice false 5 [ZR] [(0,(.s 39))]),I 41 (.app 5 40 (.s 38) (.s 40)),M 7 41]
def ZHM:=R [0,5,7,8] [M 25 8,W 26 .add 25 1,M 8 26]
def ZHN:PC:=(D (D ZIr
 (E 24
 .skip
 (.exit 0)))
 (D (.block 1
 (D ZIs
 (D (D ZIt
 (E 37
 (D ZIu
 .ret)
 .skip))
 ZHL)))
 ZHM))
def ZHO:=R [2,3,4] [M 42 5,M 43 7,M 2 42,M 3 43,I 4 (.mv (.v (.bool true)))]
def ZDR:PF:=⟨true,
 (D ZIl
 (D ZIm
 (D (D ZIn
 (E 20
 (D ZIo
 .ret)
 .skip))
 (D ZIp
 (D (D ZIq
 (.block 0
 (.loop ZHN)))
 (D ZHO
 .ret)))))),
 [.s 2,.s 3,.s 4]⟩
theorem ZLa:ck0 true [(4,⟨[0,5,7],[0],[],[],[],[]⟩)] ZDR Tryz.f36=some ZDR:=by kernel_rfl
def ZHP:=R [0,1,2] [I 6 (.mv (.v .nils)),I 7 (.mv (.v (.bool false)))]
def ZHQ:=R [0,1,2,8] [I 8 (.onil 7)]
def ZHR:=R [0,1,2,8,9] [K 9 0]
def ZHS:=R [0,1,2,8,9,19] [M 16 9,M 17 2,I 18 (.len 1 (.s 17)),B 19 .lss 16 18]
def ZHT:=R [0,1,2,8,9,24] [M 22 1,I 23 (.len 1 (.s 22)),W 24 .eql 23 0]
def ZHU:=R [0,1,2,8,9,10,11] [M 26 2,M 27 9,I 28 (.ixS 5 (.s 26) (.s 27)),F 29 4 28,L 30 29,I 31 (C ZAi [(.s 30)]),M 25 31,X 32 25 0,X 33 25 1,I 10 (.box (.v ZT)),N 7 10 32,M 11 33]
def ZHV:=R [0,1,2,8,9,10,35] [M 34 11,W 35 .neq 34 0]
def ZHW:=R [6,7] [I 6 (.mv (.v .nils)),I 7 (.mv (.v (.bool false)))]
def ZHX:=R [0,1,2,8,9] [M 36 8,T 37 7 10,I 38 (.bslice false 7 [ZT] [(0,(.s 37))]),I 39 (.app 7 80 (.s 36) (.s 38)),M 8 39]
def ZHY:=R [0,1,2,8,9,12] [M 40 1,M 41 2,M 42 9,I 43 (.ixS 5 (.s 41) (.s 42)),F 44 1 43,L 45 44,M 46 1,I 47 (.len 1 (.s 46)),W 48 .sub 47 1,I 49 (C JN [(.s 45),(.s 48)]),I 50 (.ixS 5 (.s 40) (.s 49)),T 51 5 50,I 12 (.box (.v ZR)),N 5 12 51]
def ZFX:=R [0,1,2,8,9,12,13,14] [M 53 0,T 54 5 12,I 55 (C Yo [(.s 53),(.s 54)]),M 52 55,X 56 52 0,X 57 52 1,I 13 (.box (.v ZT)),N 7 13 56,M 14 57]
def ZFY:=R [0,1,2,8,9,12,13,59] [M 58 14,W 59 .neq 58 0]
def ZFZ:=R [6,7] [I 6 (.mv (.v .nils)),I 7 (.mv (.v (.bool false)))]
def ZFa:=R [0,1,2,8,9,12,13,15] [M 60 2,M 61 9,I 62 (.ixS 5 (.s 60) (.s 61)),F 63 2 62,L 64 63,F 65 2 12,F 66 0 65,L 67 66,I 68 (C JN [(.s 64),(.s 67)]),M 15 68]
def ZFb:=R [0,1,2,8,9,13,14] [M 70 0,T 71 7 13,M 72 15,M 73 2,M 74 9,I 75 (.ixS 5 (.s 73) (.s 74)),F 76 3 75,L 77 76,F 78 2 12,F 79 0 78,L 80 79,M 81 15,B 82 .sub 80 81,I 83 (.call .pure (.v (.func (.func JN) [] [])) [(.s 77),(.s 82)]),M 84 2,M 85 9,I 86 (.ixS 5 (.s 84) (.s 85)),F 87 4 86,L 88 87,I 89 (C ZAj [(.s 70),(.s 71),(.s 72),(.s 83),(.s 88)]),M 69 89,X 90 69 0,X 91 69 1,N 7 13 90,M 14 91]
def ZFc:=R [0,1,2,8,9,13,93] [M 92 14,W 93 .neq 92 0]
def ZFd:=R [6,7] [I 6 (.mv (.v .nils)),I 7 (.mv (.v (.bool false)))]
def ZFe:=R [0,1,2,8,9] [M 94 8,T 95 7 13,I 96 (.bslice false 7 [ZT] [(0,(.s 95))]),I 97 (.app 7 80 (.s 94) (.s 96)),M 8 97]
def ZFf:=R [0,1,2,8,9] [M 20 9,W 21 .add 20 1,M 9 21]
def ZFg:PC:=(D (D ZHS
 (E 19
 .skip
 (.exit 0)))
 (D (.block 1
 (D (D ZHT
 (E 24
 (D ZHU
 (D (D ZHV
 (E 35
 (D ZHW
 .ret)
 .skip))
 (D ZHX
 (.exit 1))))
 .skip))
 (D ZHY
 (D ZFX
 (D (D ZFY
 (E 59
 (D ZFZ
 .ret)
 .skip))
 (D ZFa
 (D ZFb
 (D (D ZFc
 (E 93
 (D ZFd
 .ret)
 .skip))
 ZFe))))))))
 ZFf))
def ZFh:=R [6,7] [M 98 8,M 6 98,I 7 (.mv (.v (.bool true)))]
def ZBw:PF:=⟨false,
 (D ZHP
 (D ZHQ
 (D (D ZHR
 (.block 0
 (.loop ZFg)))
 (D ZFh
 .ret)))),
 [.s 6,.s 7]⟩
theorem ZKR:ck0 false [(1,⟨[0,1,2,8],[0],[],[],[],[]⟩),(14,⟨[0,1,2,8,9,13,14],[],[(13,.pure)],[],[],[]⟩)] ZBw Tryz.f37=some ZBw:=by kernel_rfl
def Zav:=R [2,3] [I 2 (.box (.s 0)),I 3 (.box (.s 1)),I 4 (.mv (.v (.str []))),K 5 0]
def Zaw:=R [2,3,6] [L 10 2,T 11 7 3,I 12 (C YI [(.s 10),(.s 11)]),M 6 12]
def Zax:=R [2,3,6,14] [M 13 6,W 14 .neq 13 0]
def Zay:=R [4,5] [M 15 6,I 4 (.mv (.v (.str []))),M 5 15]
def Zaz:=R [2,3,7] [I 7 (.boxnil 1)]
def Za0:=R [2,3,7,8] [I 8 (.box (.v .nilfunc))]
def Za1:=R [3,7,8] [I 16 (.mkf (.func Y3) [] [(.s 2),(.s 7),(.s 8)]),N 1 8 16]
def Za2:=R [3,7,8,19] [T 17 7 3,I 18 (C Qn [(.s 17)]),W 19 .eql 18 1]
def Za3:=R [4,5] [I 4 (.mv (.v (.str []))),K 5 0]
def Za4:=R [7,9] [L 20 8,T 21 7 3,I 22 (.call .norm (.s 20) [(.s 21)]),M 9 22]
def ZXE:=R [7,9,24] [M 23 9,W 24 .neq 23 0]
def ZXF:=R [4,5] [M 25 9,I 4 (.mv (.v (.str []))),M 5 25]
def ZXG:=R [4,5] [L 26 7,I 27 (.b2s (.s 26)),M 4 27,K 5 0]
def ZSY:PF:=⟨false,
 (D Zav
 (D (D Zaw
 (D Zax
 (E 14
 (D Zay
 .ret)
 .skip)))
 (D Zaz
 (D Za0
 (D Za1
 (D (D Za2
 (E 19
 (D Za3
 .ret)
 .skip))
 (D (D Za4
 (D ZXE
 (E 24
 (D ZXF
 .ret)
 .skip)))
 (D ZXG
 .ret)))))))),
 [.s 4,.s 5]⟩
theorem Zg8:ck0 false [(4,⟨[2,3,7],[0],[],[],[],[]⟩)] ZSY Tryz.f38=some ZSY:=by kernel_rfl
def ZXH:=R [0,3,4,5] [I 3 (.box (.s 1)),I 4 (.box (.v ZR)),I 5 (.onil 1),K 6 0]
def ZXI:=R [4,5,6,7] [M 12 0,T 13 7 3,I 14 (C Xr [(.s 12),(.s 13)]),M 11 14,X 15 11 0,X 16 11 1,M 7 15,M 6 16]
def ZXJ:=R [4,5,6,7,18] [M 17 6,W 18 .neq 17 0]
def ZXK:=R [4,5,6] [I 19 (.build [(.int .u64 0),(.int .i64 0),(.int .i64 0),(.int .i64 0),(.int .i64 0)] []),M 20 6,N 5 4 19,I 5 (.onil 1),M 6 20]
def ZXL:=R [4,5,7,26] [M 21 7,I 22 (.nilck (.s 21)),F 23 1 22,L 24 23,I 25 (.len 1 (.s 24)),W 26 .gtr 25 0]
def ZXM:=R [4,5,7,8,10] [M 28 7,I 29 (C ZAH [(.s 28)]),M 27 29,X 30 27 0,X 31 27 1,X 32 27 2,M 8 30,M 9 31,M 10 32]
def ZXN:=R [4,5,7,8,10,34] [M 33 10,W 34 .neq 33 0]
def ZXO:=R [4,5,6] [I 35 (.build [(.int .u64 0),(.int .i64 0),(.int .i64 0),(.int .i64 0),(.int .i64 0)] []),M 36 10,N 5 4 35,I 5 (.onil 1),M 6 36]
def ZXP:=R [4,5,7] [M 37 5,M 38 8,I 39 (.bslice false 1 [(.int .u64 0)] [(0,(.s 38))]),I 40 (.app 1 8 (.s 37) (.s 39)),M 5 40]
def ZXQ:PC:=(D (D ZXL
 (E 26
 .skip
 (.exit 0)))
 (.block 1
 (D ZXM
 (D (D ZXN
 (E 34
 (D ZXO
 .ret)
 .skip))
 ZXP))))
def ZS7:=R [4,5,6] [M 42 7,I 43 (C ZBs [(.s 42)]),M 41 43,X 44 41 0,X 45 41 1,N 5 4 44,M 6 45]
def ZS8:=R [4,5,6] [T 46 5 4,M 47 5,M 48 6,N 5 4 46,M 5 47,M 6 48]
def ZMy:PF:=⟨false,
 (D ZXH
 (D ZXI
 (D (D ZXJ
 (E 18
 (D ZXK
 .ret)
 .skip))
 (D (.block 0
 (.loop ZXQ))
 (D ZS7
 (D ZS8
 .ret)))))),
 [.c 4 true 5,.s 5,.s 6]⟩
theorem Zeb:ck0 false [(0,⟨[0,3,4,5],[2],[],[],[],[]⟩),(3,⟨[4,5,6],[3],[],[],[],[]⟩),(7,⟨[4,5,6],[3],[],[],[],[]⟩)] ZMy Tryz.f39=some ZMy:=by kernel_rfl
def ZIv:=R [0,1] [K 4 0]
def ZIw:=R [4] [M 5 0,I 6 (.cint .u64 (.s 5)),M 7 1,W 8 .add 7 1,I 9 (.cint .u64 (.s 8)),B 10 .rem 6 9,I 11 (.cint .i64 (.s 10)),M 4 11]
def ZDS:PF:=⟨false,
 (D ZIv
 (D ZIw
 .ret)),
 [.s 4]⟩
theorem ZLc:ck0 false [] ZDS Tryz.f40=some ZDS:=by kernel_rfl
def ZS9:=R [0,1,2,6] [I 6 (.box (.v (.agg [(.int .u64 0),(.int .i64 0),(.int .i64 0),(.int .i64 0),(.int .i64 0),.nils,.nils]))),K 7 0]
def ZTA:=R [0,2,6,8,9] [M 19 1,I 20 (.call .norm (.s 19) []),M 18 20,X 21 18 0,X 22 18 1,I 8 (.box (.v ZT)),N 7 8 21,M 9 22]
def ZTB:=R [0,2,6,8,9,24] [M 23 9,W 24 .neq 23 0]
def ZTC:=R [6,7] [I 25 (.build [(.int .u64 0),(.int .i64 0),(.int .i64 0),(.int .i64 0),(.int .i64 0),.nils,.nils] []),M 26 9,N 7 6 25,M 7 26]
def ZTD:=R [0,2,6,8,10] [I 27 (.build [(.int .u64 0),(.int .i64 0),(.int .i64 0),(.int .i64 0),(.int .i64 0),.nils,.nils] []),I 10 (.box (.v (.agg [(.int .u64 0),(.int .i64 0),(.int .i64 0),(.int .i64 0),(.int .i64 0),.nils,.nils]))),N 7 10 27]
def ZTE:=R [0,2,6,8,10,11] [I 28 (.mkmap),M 11 28]
def ZTF:=R [0,6,8,10,11,29,30,31] [M 29 2,I 30 (.len 1 (.s 29)),K 31 0]
def ZTG:=R [0,6,8,10,11,29,30,31,32] [B 32 .lss 31 30]
def ZTH:=R [0,6,8,10,11,13,29,30,31] [I 33 (.ixS 5 (.s 29) (.s 31)),T 34 5 33,I 13 (.box (.v ZR)),N 5 13 34]
def ZTI:=R [0,6,8,10,11,14,15,29,30,31] [M 36 0,T 37 5 13,T 38 7 8,I 39 (C ZCz [(.s 36),(.s 37),(.s 38)]),M 35 39,X 40 35 0,X 41 35 1,M 14 40,M 15 41]
def ZPp:=R [0,6,8,10,11,14,15,29,30,31,43] [M 42 15,W 43 .neq 42 0]
def ZPq:=R [6,7] [I 44 (.build [(.int .u64 0),(.int .i64 0),(.int .i64 0),(.int .i64 0),(.int .i64 0),.nils,.nils] []),M 45 15,N 7 6 44,M 7 45]
def ZPr:=R [0,6,8,10,11,29,30,31,46,47,48] [M 46 14,I 47 (.len 1 (.s 46)),K 48 0]
def ZPs:=R [0,6,8,10,11,29,30,31,46,47,48,49] [B 49 .lss 48 47]
def ZPt:=R [0,6,8,10,11,17,29,30,31,46,47,48] [I 50 (.ixS 1 (.s 46) (.s 48)),L 51 50,M 17 51]
def ZPu:=R [0,6,8,10,11,17,29,30,31,46,47,48,55] [M 52 11,M 53 17,I 54 (.look 0 (.bool false) false (.s 52) (.s 53)),I 55 (.un .not (.s 54))]
def ZPv:=R [0,6,8,10,11,17,29,30,31,46,47,48] [M 56 11,M 57 17,J (.mupd 0 (.s 56) (.s 57) (.v (.bool true)))]
def ZPw:=R [0,6,8,10,11,29,30,31,46,47,48] [F 58 6 10,L 59 58,M 60 17,I 61 (.bslice false 1 [(.int .u64 0)] [(0,(.s 60))]),I 62 (.app 1 8 (.s 59) (.s 61)),F 63 6 10,N 1 63 62]
def ZPx:=R [0,6,8,10,11,29,30,31,46,47,48] [W 64 .add 48 1,M 48 64]
def p_edit_change_19:PC:=(D ZPs
 (D (E 49
 .skip
 (.exit 2))
 (D (.block 3
 (D ZPt
 (D ZPu
 (E 55
 (D ZPv
 ZPw)
 .skip))))
 ZPx)))
def ZPy:=R [0,6,8,10,11,29,30,31] [W 65 .add 31 1,M 31 65]
def p_edit_change_21:PC:=(D ZTG
 (D (E 32
 .skip
 (.exit 0))
 (D (.block 1
 (D ZTH
 (D ZTI
 (D (D ZPp
 (E 43
 (D ZPq
 .ret)
 .skip))
 (D ZPr
 (.block 2
 (.loop p_edit_change_19)))))))
 ZPy)))
def ZPz:=R [6,9,10] [M 67 0,T 68 7 8,I 69 (C Xo [(.s 67),(.s 68)]),M 66 69,X 70 66 0,X 71 66 1,X 72 66 2,F 73 0 10,N 5 73 70,F 74 5 10,N 1 74 71,M 9 72]
def ZP0:=R [6,9,10,76] [M 75 9,W 76 .neq 75 0]
def ZP1:=R [6,7] [I 77 (.build [(.int .u64 0),(.int .i64 0),(.int .i64 0),(.int .i64 0),(.int .i64 0),.nils,.nils] []),M 78 9,N 7 6 77,M 7 78]
def ZP2:=R [6,7] [T 79 7 10,N 7 6 79,K 7 0]
def ZKs:PF:=⟨false,
 (D ZS9
 (D ZTA
 (D (D ZTB
 (E 24
 (D ZTC
 .ret)
 .skip))
 (D ZTD
 (D ZTE
 (D (D ZTF
 (.block 0
 (.loop p_edit_change_21)))
 (D (D ZPz
 (D ZP0
 (E 76
 (D ZP1
 .ret)
 .skip)))
 (D ZP2
 .ret)))))))),
 [.c 6 true 7,.s 7]⟩
theorem Za6:ck0 false [] ZKs Tryz.f41=some ZKs:=by kernel_rfl
def ZLd:=R [0,1,2,3,4,5] [I 5 (.box (.v ZT)),K 6 0]
def ZLe:=R [5,6] [L 7 0,T 8 5 1,L 9 2,L 10 3,L 11 4,I 12 (C ZIB [(.s 7),(.s 8),(.s 9),(.s 10),(.s 11)]),X 13 12 0,X 14 12 1,N 7 5 13,M 6 14]
def ZEg:PF:=⟨false,
 (D ZLd
 (D ZLe
 .ret)),
 [.c 5 true 7,.s 6]⟩
theorem ZP4:ck0 false [] ZEg Tryz.f42=some ZEg:=by kernel_rfl
def Za7:=R [0,2,3,4,6,10] [I 6 (.box (.s 1)),I 10 (.box (.v ZT)),K 11 0]
def Za8:=R [0,2,3,4,10,12,13] [M 15 0,T 16 5 6,I 17 (C Yo [(.s 15),(.s 16)]),M 14 17,X 18 14 0,X 19 14 1,I 12 (.box (.v ZT)),N 7 12 18,M 13 19]
def Za9:=R [0,2,3,4,10,12,13,21] [M 20 13,W 21 .neq 20 0]
def ZbA:=R [10,11] [I 22 (.build [(.int .u64 0),(.int .i64 0),(.int .i64 0),(.int .i64 0),(.int .i64 0),(.str []),.nils] []),M 23 13,N 7 10 22,M 11 23]
def ZbB:=R [10,11] [M 24 0,T 25 7 12,M 26 2,M 27 3,M 28 4,I 29 (C ZAj [(.s 24),(.s 25),(.s 26),(.s 27),(.s 28)]),X 30 29 0,X 31 29 1,N 7 10 30,M 11 31]
def ZSZ:PF:=⟨false,
 (D Za7
 (D Za8
 (D (D Za9
 (E 21
 (D ZbA
 .ret)
 .skip))
 (D ZbB
 .ret)))),
 [.c 10 true 7,.s 11]⟩
theorem ZhA:ck0 false [] ZSZ Tryz.f43=some ZSZ:=by kernel_rfl
def ZXR:=R [0,3,23] [I 3 (.box (.s 1)),K 4 0]
def ZXS:=R [0,3,6,23] [M 11 0,T 12 5 3,I 13 (C Yo [(.s 11),(.s 12)]),M 10 13,X 14 10 0,X 15 10 1,I 5 (.box (.v ZT)),N 7 5 14,M 6 15]
def ZXT:=R [0,3,6,17,23] [M 16 6,W 17 .neq 16 0]
def ZXU:=R [4] [M 18 6,M 4 18]
def ZXV:=R [0,3,7,23] [I 7 (.box (V 0)),J (.st 1 (.s 7) (V 0))]
def ZXW:=R [7,21,23] [M 19 0,T 20 5 3,I 21 (C ZAh [(.s 19),(.s 20)])]
def ZXX:=R [7,9] [I 9 (.box (.v (.agg [(.int .i64 0),(.str []),.nils,(.int .i64 0)]))),N 4 9 23]
def ZXY:=R [7,9,26] [F 24 3 9,L 25 24,W 26 .neq 25 0]
def ZXZ:=R [7] [F 27 3 9,L 28 27,N 1 7 28]
def ZXa:=R [4] [L 29 7,M 4 29]
def p_rope_Check:RF:=⟨30,
 (D ZXR
 (D (D ZXS
 (D ZXT
 (E 17
 (D ZXU
 .ret)
 .skip)))
 (D ZXV
 (D .skip
 (D ZXW
 .skip))))),
 ⟨(.s 21),[22,23],
 ZXX,
 (.block 1
 (D ZXY
 (E 26
 (D ZXZ
 (.exit 0))
 .skip)))⟩,
 (D .skip
 (D ZXa
 .ret)),
 [.s 4]⟩
theorem Zed:ZWp Proofs.Tryz.prog (h0R [] p_rope_Check) Proofs.Tryz.f46=some p_rope_Check:=by kernel_rfl
def ZXb:=R [2,3] [I 2 (.box (.s 0)),I 3 (.box (.s 1)),I 4 (.mv (.v .nilfunc))]
def ZXc:=R [4] [I 5 (.mkf (.func JZ) [] [(.s 2),(.s 3)]),M 4 5]
def ZMz:PF:=⟨true,
 (D ZXb
 (D ZXc
 .ret)),
 [.s 4]⟩
theorem Zef:ck0 true [] ZMz Tryz.f47=some ZMz:=by kernel_rfl
def ZHZ:=R [1,2] [I 0 (.mv (.v .nilptr)),I 1 (.box (.v ZR)),I 2 (.box (.v ZR)),I 3 (.mv (.v (.bool false)))]
def ZHa:=R [1,2,4,5] [I 10 (C ZDv [(V 8),(.v (.int .u64 4))]),M 9 10,X 11 9 0,X 12 9 1,M 4 11,M 5 12]
def ZHb:=R [1,2,4,18] [M 13 4,I 14 (.eqs false 3 [] (.s 13) (.v .nilptr)),M 15 14,U 16 15 false 5,G 17 15 false (.bin .neq (.s 16) (V 0)),I 18 (.pick (.s 15) (.v (.bool true)) (.s 17))]
def ZHc:=R [0,1,2,3] [I 19 (.build [(.int .u64 0),(.int .i64 0),(.int .i64 0),(.int .i64 0),(.int .i64 0)] []),I 20 (.build [(.int .u64 0),(.int .i64 0),(.int .i64 0),(.int .i64 0),(.int .i64 0)] []),I 0 (.mv (.v .nilptr)),N 5 1 19,N 5 2 20,I 3 (.mv (.v (.bool false)))]
def ZHd:=R [1,2,4,5,6] [M 22 4,I 23 (C ZCy [(.s 22),(.v (.str [97,98,99,100,101,102,103,104,105,106,107,108,109,110,111,112,113]))]),M 21 23,X 24 21 0,X 25 21 1,I 6 (.box (.v ZR)),N 5 6 24,M 5 25]
def ZHe:=R [1,2,4,5,6,7,8] [M 27 4,T 28 5 6,I 29 (C ZAA [(.s 27),(.s 28),(V 9),(.v (.str [120,121,122]))]),M 26 29,X 30 26 0,X 31 26 1,I 7 (.box (.v (.agg [(.int .u64 0),(.int .i64 0),(.int .i64 0),(.int .i64 0),(.int .i64 0),.nils,.nils]))),N 7 7 30,M 8 31]
def ZHf:=R [0,1,2,3] [M 32 4,T 33 5 6,F 34 0 7,I 35 (.w (.hide [(.s 1)]) (.ld true 5 (.s 34))),M 36 5,W 37 .eql 36 0,M 38 37,U 39 38 true 8,G 40 38 true (.bin .eql (.s 39) (V 0)),I 41 (.pick (.s 38) (.s 40) (.v (.bool false))),M 42 41,G 43 42 true (.fadr 0 (.s 6)),G 44 42 true (.ld false 1 (.s 43)),G 45 42 true (.bin .eql (.s 44) (.v (.int .u64 65538))),I 46 (.pick (.s 42) (.s 45) (.v (.bool false))),M 47 46,G 48 47 true (.fadr 0 (.s 7)),G 49 47 true (.fadr 0 (.s 48)),G 50 47 true (.w (.hide [(.s 1),(.s 2)]) (.ld false 1 (.s 49))),G 51 47 true (.bin .eql (.s 50) (.v (.int .u64 65540))),I 52 (.pick (.s 47) (.s 51) (.v (.bool false))),M 0 32,J (.w (.plain (.s 1)) (.st 5 (.s 1) (.s 33))),J (.w (.plain (.s 2)) (.st 5 (.s 2) (.s 35))),M 3 52]
def ZBx:PF:=⟨true,
 (D ZHZ
 (D ZHa
 (D (D ZHb
 (E 18
 (D ZHc
 .ret)
 .skip))
 (D ZHd
 (D ZHe
 (D ZHf
 .ret)))))),
 [.s 0,.c 1 true 5,.c 2 true 5,.s 3]⟩
theorem ZKT:ck0 true [(6,⟨[0,1,2,3],[],[],[],[(18,(.hide [(.s 1),(.s 2)])),(23,(.plain (.s 2))),(22,(.plain (.s 1))),(3,(.hide [(.s 1)]))],[]⟩)] ZBx Tryz.f48=some ZBx:=by kernel_rfl
def ZP5:=R [0,1] [I 4 (.mv (.v .nilmap)),K 5 0]
def ZP6:=R [0,1,17] [M 16 0,I 17 (.eqs false 3 [] (.s 16) (.v .nilptr))]
def ZP7:=R [4,5] [I 4 (.mv (.v .nilmap)),K 5 1]
def ZP8:=R [0,1,18,19,20] [M 18 1,I 19 (.len 1 (.s 18)),K 20 0]
def ZP9:=R [0,1,18,19,20,21] [B 21 .lss 20 19]
def ZQA:=R [0,1,7,18,19,20] [I 22 (.ixS 5 (.s 18) (.s 20)),T 23 5 22,I 7 (.box (.v ZR)),N 5 7 23]
def ZQB:=R [0,1,8,18,19,20] [M 24 0,T 25 5 7,I 26 (C Xq [(.s 24),(.s 25)]),M 8 26]
def ZQC:=R [0,1,8,18,19,20,28] [M 27 8,W 28 .neq 27 0]
def ZQD:=R [4,5] [M 29 8,I 4 (.mv (.v .nilmap)),M 5 29]
def ZQE:=R [0,1,18,19,20] [W 30 .add 20 1,M 20 30]
def ZM0:PC:=(D ZP9
 (D (E 21
 .skip
 (.exit 0))
 (D (.block 1
 (D ZQA
 (D ZQB
 (D ZQC
 (E 28
 (D ZQD
 .ret)
 .skip)))))
 ZQE)))
def ZM1:=R [0,1,9] [I 31 (.mkmap),M 9 31]
def ZM2:=R [0,9,32,33,34] [M 32 1,I 33 (.len 1 (.s 32)),K 34 0]
def ZM3:=R [0,9,32,33,34,35] [B 35 .lss 34 33]
def ZM4:=R [0,9,11,32,33,34] [I 36 (.ixS 5 (.s 32) (.s 34)),T 37 5 36,I 11 (.box (.v ZR)),N 5 11 37]
def ZM5:=R [0,9,12,13,32,33,34] [M 39 0,T 40 5 11,I 41 (C ZB6 [(.s 39),(.s 40)]),M 38 41,X 42 38 0,X 43 38 1,M 12 42,M 13 43]
def ZM6:=R [0,9,12,13,32,33,34,45] [M 44 13,W 45 .neq 44 0]
def ZM7:=R [4,5] [M 46 13,I 4 (.mv (.v .nilmap)),M 5 46]
def ZM8:=R [0,9,32,33,34,47,48,49] [M 47 12,I 48 (.len 1 (.s 47)),K 49 0]
def ZM9:=R [0,9,32,33,34,47,48,49,50] [B 50 .lss 49 48]
def ZNA:=R [0,9,15,32,33,34,47,48,49] [I 51 (.ixS 1 (.s 47) (.s 49)),L 52 51,M 15 52]
def ZNB:=R [0,9,32,33,34,47,48,49] [M 53 9,M 54 15,I 55 (.look 0 (.int .i64 0) false (.s 53) (.s 54)),W 56 .add 55 1,J (.mupd 0 (.s 53) (.s 54) (.s 56))]
def ZNC:=R [0,9,32,33,34,47,48,49] [W 57 .add 49 1,M 49 57]
def ZND:PC:=(D ZM9
 (D (E 50
 .skip
 (.exit 4))
 (D (.block 5
 (D ZNA
 ZNB))
 ZNC)))
def ZNE:=R [0,9,32,33,34] [W 58 .add 34 1,M 34 58]
def ZNF:PC:=(D ZM3
 (D (E 35
 .skip
 (.exit 2))
 (D (.block 3
 (D ZM4
 (D ZM5
 (D (D ZM6
 (E 45
 (D ZM7
 .ret)
 .skip))
 (D ZM8
 (.block 4
 (.loop ZND)))))))
 ZNE)))
def ZNG:=R [4,5] [M 59 9,M 4 59,K 5 0]
def ZIx:PF:=⟨true,
 (D ZP5
 (D (D ZP6
 (E 17
 (D ZP7
 .ret)
 .skip))
 (D (D ZP8
 (.block 0
 (.loop ZM0)))
 (D ZM1
 (D (D ZM2
 (.block 2
 (.loop ZNF)))
 (D ZNG
 .ret)))))),
 [.s 4,.s 5]⟩
theorem ZXe:ck0 true [] ZIx Tryz.f49=some ZIx:=by kernel_rfl
def ZDd:=R [0] [I 2 (.mv (.v .nils))]
def ZDe:=R [0,3] [I 3 (.onil 1)]
def ZDf:=R [0,3,9,10,11] [M 8 0,I 9 (C J6 [(.s 8),(.v (.int .u8 1))]),I 10 (.len 1 (.s 9)),K 11 0]
def ZDg:=R [0,3,9,10,11,12] [B 12 .lss 11 10]
def ZDh:=R [0,3,5,9,10,11] [I 13 (.ixS 1 (.s 9) (.s 11)),L 14 13,M 5 14]
def ZDi:=R [0,3,6,9,10,11] [M 16 5,M 17 0,I 18 (.nilck (.s 17)),F 19 2 18,L 20 19,M 21 5,I 22 (.ixS 1 (.s 20) (.s 21)),L 23 22,I 24 (C ZBO [(.s 16),(.s 23)]),M 15 24,X 25 15 0,X 26 15 1,M 6 25,M 7 26]
def ZDj:=R [0,3,9,10,11] [M 27 3,M 28 6,I 29 (.bslice false 1 [(.int .u64 0)] [(0,(.s 28))]),I 30 (.app 1 8 (.s 27) (.s 29)),M 3 30]
def ZDk:=R [0,3,9,10,11] [W 31 .add 11 1,M 11 31]
def ZDl:PC:=(D ZDg
 (D (E 12
 .skip
 (.exit 0))
 (D (.block 1
 (D ZDh
 (D ZDi
 ZDj)))
 ZDk)))
def ZDm:=R [2] [M 32 3,M 2 32]
def ZAc:PF:=⟨false,
 (D ZDd
 (D ZDe
 (D (D ZDf
 (.block 0
 (.loop ZDl)))
 (D ZDm
 .ret)))),
 [.s 2]⟩
theorem ZEi:ck0 false [(1,⟨[0,3],[0],[],[],[],[]⟩)] ZAc Tryz.f51=some ZAc:=by kernel_rfl
def ZHg:=R [0] [I 2 (.mv (.v .nils)),I 3 (.mv (.v .nils))]
def ZHh:=R [0,5] [M 4 0,I 5 (.eqs false 3 [] (.s 4) (.v .nilptr))]
def ZHi:=R [2,3] [I 2 (.mv (.v .nils)),I 3 (.mv (.v .nils))]
def ZHj:=R [2,3] [M 6 0,I 7 (.nilck (.s 6)),F 8 1 7,L 9 8,I 10 (.call .pure (.v (.func (.func YH) [] [])) [(.s 9)]),M 11 0,I 12 (.nilck (.s 11)),F 13 1 12,L 14 13,I 15 (C JH [(.s 14)]),M 2 10,M 3 15]
def ZBy:PF:=⟨false,
 (D ZHg
 (D (D ZHh
 (E 5
 (D ZHi
 .ret)
 .skip))
 (D ZHj
 .ret))),
 [.s 2,.s 3]⟩
theorem ZKV:ck0 false [(3,⟨[2,3],[],[(4,.pure)],[],[],[]⟩)] ZBy Tryz.f53=some ZBy:=by kernel_rfl
def ZFi:=R [0] [I 2 (.mv (.v .nils))]
def ZFj:=R [0,7] [M 6 0,I 7 (.eqs false 3 [] (.s 6) (.v .nilptr))]
def ZFk:=R [2] [I 2 (.mv (.v .nils))]
def ZFl:=R [0,3] [M 8 0,I 9 (.nilck (.s 8)),F 10 0 9,L 11 10,I 12 (.len 1 (.s 11)),I 13 (.mkslice 1 8 (.int .i64 0) (.s 12) (.s 12)),M 3 13]
def ZFm:=R [3] [M 14 3,M 15 0,I 16 (.nilck (.s 15)),F 17 0 16,L 18 17,I 19 (.cpy 1 (.s 14) (.s 18))]
def ZFn:=R [3,4,5] [M 20 3,I 21 (.len 1 (.s 20)),W 22 .sub 21 1,K 4 0,M 5 22]
def ZFo:=R [3,4,5,25] [M 23 4,M 24 5,B 25 .lss 23 24]
def ZFp:=R [3,4,5] [M 30 3,M 31 4,M 32 3,M 33 5,M 34 3,M 35 5,I 36 (.ixS 1 (.s 34) (.s 35)),L 37 36,M 38 3,M 39 4,I 40 (.ixS 1 (.s 38) (.s 39)),L 41 40,I 42 (.ixS 1 (.s 30) (.s 31)),N 1 42 37,I 43 (.ixS 1 (.s 32) (.s 33)),N 1 43 41]
def ZFq:=R [3,4,5] [M 26 4,W 27 .add 26 1,M 28 5,W 29 .sub 28 1,M 4 27,M 5 29]
def ZFr:PC:=(D (D ZFo
 (E 25
 .skip
 (.exit 0)))
 (D (.block 1
 ZFp)
 ZFq))
def ZEj:=R [2] [M 44 3,M 2 44]
def ZBd:PF:=⟨false,
 (D ZFi
 (D (D ZFj
 (E 7
 (D ZFk
 .ret)
 .skip))
 (D ZFl
 (D ZFm
 (D (D ZFn
 (.block 0
 (.loop ZFr)))
 (D ZEj
 .ret)))))),
 [.s 2]⟩
theorem ZIz:ck0 false [] ZBd Tryz.f54=some ZBd:=by kernel_rfl
def ZCS:=R [0] [I 2 (.mv (.v .nils))]
def ZCT:=R [2] [M 3 0,I 4 (C J6 [(.s 3),(.v (.int .u8 2))]),M 2 4]
def X3:PF:=⟨false,
 (D ZCS
 (D ZCT
 .ret)),
 [.s 2]⟩
theorem ZDo:ck0 false [] X3 Tryz.f55=some X3:=by kernel_rfl
def ZTJ:=R [0,3,20] [I 3 (.box (.s 1)),I 4 (.mv (.v .nils)),K 5 0]
def ZTK:=R [0,3,6,20] [M 10 0,T 11 5 3,I 12 (C Xq [(.s 10),(.s 11)]),M 6 12]
def ZTL:=R [0,3,6,14,20] [M 13 6,W 14 .neq 13 0]
def ZTM:=R [4,5] [M 15 6,I 4 (.mv (.v .nils)),M 5 15]
def ZTN:=R [0,3,7,20] [I 7 (.boxnil 1)]
def ZTO:=R [7,18,20] [M 16 0,T 17 5 3,I 18 (C ZAh [(.s 16),(.s 17)])]
def ZTP:=R [7,9] [I 9 (.box (.v (.agg [(.int .i64 0),(.str []),.nils,(.int .i64 0)]))),N 4 9 20]
def ZTQ:=R [7,9,24] [F 21 0 9,F 22 0 21,L 23 22,W 24 .eql 23 0]
def ZTR:=R [7] [L 25 7,F 26 0 9,F 27 1 26,L 28 27,I 29 (.bslice false 1 [(.str [])] [(0,(.s 28))]),I 30 (.app 1 16 (.s 25) (.s 29)),N 1 7 30]
def ZTS:=R [4,5] [L 31 7,M 4 31,K 5 0]
def ZKt:RF:=⟨32,
 (D ZTJ
 (D (D ZTK
 (D ZTL
 (E 14
 (D ZTM
 .ret)
 .skip)))
 (D ZTN
 (D ZTO
 .skip)))),
 ⟨(.s 18),[19,20],
 ZTP,
 (.block 1
 (D ZTQ
 (E 24
 ZTR
 .skip)))⟩,
 (D .skip
 (D ZTS
 .ret)),
 [.s 4,.s 5]⟩
theorem ZbD:ZWp Proofs.Tryz.prog (h0R [(4,⟨[0,3,7,20],[0],[],[],[],[]⟩)] ZKt) Proofs.Tryz.f58=some ZKt:=by kernel_rfl
def ZbE:=R [0,1] [I 4 (.mv (.v .nilptr)),K 5 0]
def ZbF:=R [0,6,7] [M 9 0,M 10 1,I 11 (C ZC0 [(.s 9),(.s 10)]),M 8 11,X 12 8 0,X 13 8 1,M 6 12,M 7 13]
def ZbG:=R [0,6,7,15] [M 14 7,W 15 .neq 14 0]
def ZbH:=R [4,5] [M 16 7,I 4 (.mv (.v .nilptr)),M 5 16]
def ZbI:=R [4,5] [M 17 0,M 18 6,I 19 (.mkmap),I 20 (.build [(.int .i64 0),.nilptr,.nilmap,(.int .i64 0),(.int .i64 0),(.int .i64 0)] [(0,1,(.s 17)),(1,1,(.s 18)),(2,1,(.s 19))]),I 21 (.box (.s 20)),M 4 21,K 5 0]
def ZSa:PF:=⟨true,
 (D ZbE
 (D ZbF
 (D (D ZbG
 (E 15
 (D ZbH
 .ret)
 .skip))
 (D ZbI
 .ret)))),
 [.s 4,.s 5]⟩
theorem ZhC:ck0 true [] ZSa Tryz.f59=some ZSa:=by kernel_rfl
def Zeg:=R [0,1,4] [I 4 (.box (.v ZR)),K 5 0]
def Zeh:=R [0,1,4,11] [M 10 0,I 11 (.eqs false 3 [] (.s 10) (.v .nilptr))]
def Zei:=R [4,5] [I 12 (.build [(.int .u64 0),(.int .i64 0),(.int .i64 0),(.int .i64 0),(.int .i64 0)] []),N 5 4 12,K 5 1]
def Zej:=R [0,4,6,7] [M 14 1,I 15 (C ZAi [(.s 14)]),M 13 15,X 16 13 0,X 17 13 1,I 6 (.box (.v ZT)),N 7 6 16,M 7 17]
def Zek:=R [0,4,6,7,19] [M 18 7,W 19 .neq 18 0]
def Zel:=R [4,5] [I 20 (.build [(.int .u64 0),(.int .i64 0),(.int .i64 0),(.int .i64 0),(.int .i64 0)] []),M 21 7,N 5 4 20,M 5 21]
def Zem:=R [4,7,8] [M 23 0,T 24 7 6,I 25 (C Xo [(.s 23),(.s 24)]),M 22 25,X 26 22 0,X 27 22 1,X 28 22 2,I 8 (.box (.v ZR)),N 5 8 26,M 9 27,M 7 28]
def Zen:=R [4,5] [T 29 5 8,M 30 7,N 5 4 29,M 5 30]
def ZXf:PF:=⟨false,
 (D Zeg
 (D (D Zeh
 (E 11
 (D Zei
 .ret)
 .skip))
 (D Zej
 (D (D Zek
 (E 19
 (D Zel
 .ret)
 .skip))
 (D Zem
 (D Zen
 .ret)))))),
 [.c 4 true 5,.s 5]⟩
theorem Zis:ck0 false [] ZXf Tryz.f60=some ZXf:=by kernel_rfl
def ZbJ:=R [0,3,4] [I 3 (.box (.s 1)),I 4 (.box (.v ZT)),K 5 0]
def ZbK:=R [0,3,4,8] [M 7 0,I 8 (.eqs false 3 [] (.s 7) (.v .nilptr))]
def ZbL:=R [4,5] [I 9 (.build [(.int .u64 0),(.int .i64 0),(.int .i64 0),(.int .i64 0),(.int .i64 0),(.str []),.nils] []),N 7 4 9,K 5 1]
def ZbM:=R [0,3,4,12] [T 10 5 3,I 11 (.build [(.int .u64 0),(.int .i64 0),(.int .i64 0),(.int .i64 0),(.int .i64 0)] []),I 12 (.eqs false 0 [(0,0),(1,0),(2,0),(3,0),(4,0)] (.s 10) (.s 11))]
def ZbN:=R [4,5] [I 13 (.build [(.int .u64 0),(.int .i64 0),(.int .i64 0),(.int .i64 0),(.int .i64 0),(.str []),.nils] []),N 7 4 13,K 5 0]
def ZbO:=R [0,3,4,16] [F 14 0 3,L 15 14,I 16 (.bin .eql (.s 15) (.v (.int .u64 0)))]
def ZbP:=R [4,5] [I 17 (.build [(.int .u64 0),(.int .i64 0),(.int .i64 0),(.int .i64 0),(.int .i64 0),(.str []),.nils] []),N 7 4 17,K 5 2]
def ZbQ:=R [3,4,6] [M 18 0,F 19 0 3,L 20 19,F 21 1 3,L 22 21,F 23 2 3,T 24 3 23,I 25 (C ZDw [(.s 18),(.s 20),(.s 22),(.s 24)]),M 6 25]
def ZbR:=R [3,4,6,27] [M 26 6,W 27 .neq 26 0]
def ZbS:=R [4,5] [I 28 (.build [(.int .u64 0),(.int .i64 0),(.int .i64 0),(.int .i64 0),(.int .i64 0),(.str []),.nils] []),M 29 6,N 7 4 28,M 5 29]
def ZXg:=R [4,5] [F 30 0 3,L 31 30,F 32 1 3,L 33 32,F 34 2 3,T 35 3 34,I 36 (.build [(.int .u64 0),(.int .i64 0),(.int .i64 0),(.int .i64 0),(.int .i64 0),(.str []),.nils] [(0,1,(.s 31)),(1,1,(.s 33)),(2,3,(.s 35))]),N 7 4 36,K 5 0]
def ZSb:PF:=⟨false,
 (D ZbJ
 (D (D ZbK
 (E 8
 (D ZbL
 .ret)
 .skip))
 (D (D ZbM
 (E 12
 (D ZbN
 .ret)
 .skip))
 (D (D ZbO
 (E 16
 (D ZbP
 .ret)
 .skip))
 (D (D ZbQ
 (D ZbR
 (E 27
 (D ZbS
 .ret)
 .skip)))
 (D ZXg
 .ret)))))),
 [.c 4 true 7,.s 5]⟩
theorem ZhE:ck0 false [] ZSb Tryz.f61=some ZSb:=by kernel_rfl
def ZQF:=R [0,4,5] [I 4 (.box (.s 1)),I 5 (.box (.s 2)),I 6 (.mv (.v .nils)),K 7 0]
def ZQG:=R [0,4,5,9] [M 18 0,T 19 5 4,I 20 (C Yo [(.s 18),(.s 19)]),M 17 20,X 21 17 0,X 22 17 1,I 8 (.box (.v ZT)),N 7 8 21,M 9 22]
def ZQH:=R [0,4,5,9,24] [M 23 9,W 24 .neq 23 0]
def ZQI:=R [6,7] [M 25 9,I 6 (.mv (.v .nils)),M 7 25]
def ZQJ:=R [0,4,5,10] [M 26 0,T 27 7 5,I 28 (C YI [(.s 26),(.s 27)]),M 10 28]
def ZQK:=R [0,4,5,10,30] [M 29 10,W 30 .neq 29 0]
def ZQL:=R [6,7] [M 31 10,I 6 (.mv (.v .nils)),M 7 31]
def ZQM:=R [0,4,5,11] [I 32 (.mkmap),I 11 (.box (.v .nilmap)),N 1 11 32]
def ZQN:=R [0,4,11,34,35,36] [T 33 7 5,I 34 (C ZID [(.s 33)]),I 35 (.len 1 (.s 34)),K 36 0]
def ZQO:=R [0,4,11,34,35,36,37] [B 37 .lss 36 35]
def ZNH:=R [0,4,11,13,34,35,36] [I 38 (.ixS 1 (.s 34) (.s 36)),L 39 38,M 13 39]
def ZNI:=R [0,4,11,14,34,35,36] [M 40 0,M 41 13,L 42 11,I 43 (C JU [(.s 40),(.s 41),(.s 42),(.v (.func (.func Yh) [] []))]),M 14 43]
def ZNJ:=R [0,4,11,14,34,35,36,45] [M 44 14,W 45 .neq 44 0]
def ZNK:=R [6,7] [M 46 14,I 6 (.mv (.v .nils)),M 7 46]
def ZNL:=R [0,4,11,34,35,36] [W 47 .add 36 1,M 36 47]
def ZNM:PC:=(D ZQO
 (D (E 37
 .skip
 (.exit 0))
 (D (.block 1
 (D ZNH
 (D ZNI
 (D ZNJ
 (E 45
 (D ZNK
 .ret)
 .skip)))))
 ZNL)))
def ZNN:=R [0,4,11,15] [I 15 (.boxnil 1)]
def ZNO:=R [0,4,11,15,50] [F 48 0 4,L 49 48,I 50 (.bin .eql (.s 49) (.v (.int .u64 0)))]
def ZNP:=R [6,7] [I 6 (.mv (.v .nils)),K 7 0]
def ZNQ:=R [15,16] [M 51 0,F 52 0 4,L 53 52,I 54 (.mkmap),I 55 (.mkf (.func Yi) [] [(.s 11),(.s 15)]),I 56 (C JU [(.s 51),(.s 53),(.s 54),(.s 55)]),M 16 56]
def ZNR:=R [15,16,58] [M 57 16,W 58 .neq 57 0]
def ZNS:=R [6,7] [M 59 16,I 6 (.mv (.v .nils)),M 7 59]
def ZNT:=R [6,7] [L 60 15,M 6 60,K 7 0]
def ZI0:PF:=⟨false,
 (D ZQF
 (D (D ZQG
 (D ZQH
 (E 24
 (D ZQI
 .ret)
 .skip)))
 (D (D ZQJ
 (D ZQK
 (E 30
 (D ZQL
 .ret)
 .skip)))
 (D ZQM
 (D (D ZQN
 (.block 0
 (.loop ZNM)))
 (D ZNN
 (D (D ZNO
 (E 50
 (D ZNP
 .ret)
 .skip))
 (D ZNQ
 (D (D ZNR
 (E 58
 (D ZNS
 .ret)
 .skip))
 (D ZNT
 .ret)))))))))),
 [.s 6,.s 7]⟩
theorem ZXi:ck0 false [(15,⟨[0,4,11,15],[0],[],[],[],[]⟩)] ZI0 Tryz.f64=some ZI0:=by kernel_rfl
def ZXj:=R [0,2] [I 2 (.box (.v ZT)),K 3 0]
def ZXk:=R [0,2,14] [M 12 0,I 13 (.len 0 (.s 12)),W 14 .gtr 13 65536]
def ZXl:=R [2,3] [I 15 (.build [(.int .u64 0),(.int .i64 0),(.int .i64 0),(.int .i64 0),(.int .i64 0),(.str []),.nils] []),N 7 2 15,K 3 5]
def ZXm:=R [0,2,4] [I 4 (.onil 7)]
def ZXn:=R [2,4,17,18,19] [M 16 0,I 17 (C ZC1 [(.s 16)]),I 18 (.len 1 (.s 17)),K 19 0]
def ZXo:=R [2,4,17,18,19,20] [B 20 .lss 19 18]
def ZXp:=R [2,4,6,17,18,19] [I 21 (.ixS 1 (.s 17) (.s 19)),L 22 21,M 6 22]
def ZXq:=R [2,4,17,18,19] [M 23 4,M 24 6,I 25 (.build [(.int .u64 0),(.int .i64 0),(.int .i64 0),(.int .i64 0),(.int .i64 0),(.str []),.nils] [(5,1,(.s 24))]),I 26 (.bslice false 7 [ZT] [(0,(.s 25))]),I 27 (.app 7 80 (.s 23) (.s 26)),M 4 27]
def ZXr:=R [2,4,17,18,19] [W 28 .add 19 1,M 19 28]
def ZXs:PC:=(D ZXo
 (D (E 20
 .skip
 (.exit 0))
 (D (.block 1
 (D ZXp
 ZXq))
 ZXr)))
def ZTT:=R [2,4,31] [M 29 4,I 30 (.len 1 (.s 29)),W 31 .gtr 30 1]
def ZTU:=R [2,4,7,8] [M 33 4,I 34 (.len 1 (.s 33)),I 35 (C ZFR [(.s 34),(V 4)]),M 32 35,X 36 32 0,X 37 32 1,M 7 36,M 8 37]
def ZTV:=R [2,4,7,8,39] [M 38 8,W 39 .neq 38 0]
def ZTW:=R [2,3] [I 40 (.build [(.int .u64 0),(.int .i64 0),(.int .i64 0),(.int .i64 0),(.int .i64 0),(.str []),.nils] []),M 41 8,N 7 2 40,M 3 41]
def ZTX:=R [2,4,7,9] [I 9 (.onil 7)]
def ZTY:=R [2,4,9,42,43,44] [M 42 7,I 43 (.len 1 (.s 42)),K 44 0]
def ZTZ:=R [2,4,9,42,43,44,45] [B 45 .lss 44 43]
def ZTa:=R [2,4,9,11,42,43,44] [I 46 (.ixS 1 (.s 42) (.s 44)),L 47 46,M 11 47]
def ZTb:=R [2,4,9,11,42,43,44] [M 48 9,M 49 4,M 50 11,I 51 (.slc 7 (.s 49) none (some (.s 50))),I 52 (C QP [(.s 51)]),I 53 (.bslice false 7 [ZT] [(0,(.s 52))]),I 54 (.app 7 80 (.s 48) (.s 53)),M 9 54]
def ZTc:=R [2,4,9,42,43,44] [M 55 4,M 56 11,I 57 (.slc 7 (.s 55) (some (.s 56)) none),M 4 57]
def ZTd:=R [2,4,9,42,43,44] [W 58 .add 44 1,M 44 58]
def ZTe:PC:=(D ZTZ
 (D (E 45
 .skip
 (.exit 4))
 (D (.block 5
 (D ZTa
 (D ZTb
 ZTc)))
 ZTd)))
def ZTf:=R [2,4] [M 59 9,M 4 59]
def ZGh:PC:=(D (D ZTT
 (E 31
 .skip
 (.exit 2)))
 (.block 3
 (D ZTU
 (D (D ZTV
 (E 39
 (D ZTW
 .ret)
 .skip))
 (D ZTX
 (D (D ZTY
 (.block 4
 (.loop ZTe)))
 ZTf))))))
def ZGi:=R [2,3] [M 60 4,I 61 (C QP [(.s 60)]),N 7 2 61,K 3 0]
def ZNU:PF:=⟨false,
 (D ZXj
 (D (D ZXk
 (E 14
 (D ZXl
 .ret)
 .skip))
 (D ZXm
 (D (D ZXn
 (.block 0
 (.loop ZXs)))
 (D (.block 2
 (.loop ZGh))
 (D ZGi
 .ret)))))),
 [.c 2 true 7,.s 3]⟩
theorem Zep:ck0 false [(3,⟨[0,2,4],[0],[],[],[],[]⟩),(13,⟨[2,4,7,9],[0],[],[],[],[]⟩)] ZNU Tryz.f65=some ZNU:=by kernel_rfl
def ZQP:=R [0,2,3,4,6,10] [I 6 (.box (.s 1)),I 10 (.box (.v ZT)),K 11 0]
def ZQQ:=R [0,2,3,4,6,10,12] [M 20 0,T 21 7 6,I 22 (C YI [(.s 20),(.s 21)]),M 12 22]
def ZQR:=R [0,2,3,4,6,10,12,24] [M 23 12,W 24 .neq 23 0]
def ZQS:=R [10,11] [I 25 (.build [(.int .u64 0),(.int .i64 0),(.int .i64 0),(.int .i64 0),(.int .i64 0),(.str []),.nils] []),M 26 12,N 7 10 25,M 11 26]
def ZQT:=R [0,2,3,4,6,10,13] [T 27 7 6,I 28 (C Qu [(.s 27)]),M 13 28]
def ZQU:=R [0,2,3,4,6,10,13,46] [M 29 2,W 30 .lss 29 0,M 31 30,U 32 31 false 2,U 33 31 false 13,G 34 31 false (.bin .gtr (.s 32) (.s 33)),I 35 (.pick (.s 31) (.v (.bool true)) (.s 34)),M 36 35,U 37 36 false 3,G 38 36 false (.bin .lss (.s 37) (V 0)),I 39 (.pick (.s 36) (.v (.bool true)) (.s 38)),M 40 39,U 41 40 false 3,U 42 40 false 13,U 43 40 false 2,G 44 40 false (.bin .sub (.s 42) (.s 43)),G 45 40 false (.bin .gtr (.s 41) (.s 44)),I 46 (.pick (.s 40) (.v (.bool true)) (.s 45))]
def ZQV:=R [10,11] [I 47 (.build [(.int .u64 0),(.int .i64 0),(.int .i64 0),(.int .i64 0),(.int .i64 0),(.str []),.nils] []),N 7 10 47,K 11 3]
def ZQW:=R [0,2,3,4,6,10,60] [M 48 13,M 49 3,B 50 .sub 48 49,M 51 4,I 52 (.len 0 (.s 51)),I 53 (.mnx false (.s 52) (V 65536)),I 54 (.bin .sub (V 65536) (.s 53)),B 55 .gtr 50 54,M 56 55,U 57 56 false 4,G 58 56 false (.len 0 (.s 57)),G 59 56 false (.bin .gtr (.s 58) (V 65536)),I 60 (.pick (.s 56) (.v (.bool true)) (.s 59))]
def ZQX:=R [10,11] [I 61 (.build [(.int .u64 0),(.int .i64 0),(.int .i64 0),(.int .i64 0),(.int .i64 0),(.str []),.nils] []),N 7 10 61,K 11 5]
def ZQY:=R [0,2,3,4,6,10,67] [M 62 3,W 63 .eql 62 0,M 64 63,U 65 64 true 4,G 66 64 true (.bin .eql (.s 65) (.v (.str []))),I 67 (.pick (.s 64) (.s 66) (.v (.bool false)))]
def ZNV:=R [10,11] [T 68 7 6,I 69 (C ZC2 [(.s 68)]),N 7 10 69,K 11 0]
def ZNW:=R [0,3,4,10,14,15,16] [M 71 0,T 72 7 6,M 73 2,I 74 (C ZBA [(.s 71),(.s 72),(.s 73)]),M 70 74,X 75 70 0,X 76 70 1,X 77 70 2,I 14 (.box (.v ZT)),I 15 (.box (.v ZT)),N 7 14 75,N 7 15 76,M 16 77]
def ZNX:=R [0,3,4,10,14,15,16,79] [M 78 16,W 79 .neq 78 0]
def ZNY:=R [10,11] [I 80 (.build [(.int .u64 0),(.int .i64 0),(.int .i64 0),(.int .i64 0),(.int .i64 0),(.str []),.nils] []),M 81 16,N 7 10 80,M 11 81]
def ZNZ:=R [0,4,10,14,16,18] [M 83 0,T 84 7 15,M 85 3,I 86 (C ZBA [(.s 83),(.s 84),(.s 85)]),M 82 86,X 87 82 0,X 88 82 1,X 89 82 2,I 17 (.box (.v ZT)),I 18 (.box (.v ZT)),N 7 17 87,N 7 18 88,M 16 89]
def ZNa:=R [0,4,10,14,16,18,91] [M 90 16,W 91 .neq 90 0]
def ZNb:=R [10,11] [I 92 (.build [(.int .u64 0),(.int .i64 0),(.int .i64 0),(.int .i64 0),(.int .i64 0),(.str []),.nils] []),M 93 16,N 7 10 92,M 11 93]
def ZNc:=R [0,10,14,16,18,19] [M 95 4,I 96 (C ZAi [(.s 95)]),M 94 96,X 97 94 0,X 98 94 1,I 19 (.box (.v ZT)),N 7 19 97,M 16 98]
def ZNd:=R [0,10,14,16,18,19,100] [M 99 16,W 100 .neq 99 0]
def ZNe:=R [10,11] [I 101 (.build [(.int .u64 0),(.int .i64 0),(.int .i64 0),(.int .i64 0),(.int .i64 0),(.str []),.nils] []),M 102 16,N 7 10 101,M 11 102]
def ZNf:=R [0,10,14,16,18] [M 104 0,T 105 7 14,T 106 7 19,I 107 (C Y4 [(.s 104),(.s 105),(.s 106)]),M 103 107,X 108 103 0,X 109 103 1,N 7 14 108,M 16 109]
def ZNg:=R [0,10,14,16,18,111] [M 110 16,W 111 .neq 110 0]
def ZNh:=R [10,11] [I 112 (.build [(.int .u64 0),(.int .i64 0),(.int .i64 0),(.int .i64 0),(.int .i64 0),(.str []),.nils] []),M 113 16,N 7 10 112,M 11 113]
def ZNi:=R [10,14,16] [M 115 0,T 116 7 14,T 117 7 18,I 118 (C Y4 [(.s 115),(.s 116),(.s 117)]),M 114 118,X 119 114 0,X 120 114 1,N 7 14 119,M 16 120]
def ZNj:=R [10,11] [T 121 7 14,I 122 (C ZC2 [(.s 121)]),M 123 16,N 7 10 122,M 11 123]
def ZI1:PF:=⟨false,
 (D ZQP
 (D (D ZQQ
 (D ZQR
 (E 24
 (D ZQS
 .ret)
 .skip)))
 (D ZQT
 (D (D ZQU
 (E 46
 (D ZQV
 .ret)
 .skip))
 (D (D ZQW
 (E 60
 (D ZQX
 .ret)
 .skip))
 (D (D ZQY
 (E 67
 (D ZNV
 .ret)
 .skip))
 (D ZNW
 (D (D ZNX
 (E 79
 (D ZNY
 .ret)
 .skip))
 (D ZNZ
 (D (D ZNa
 (E 91
 (D ZNb
 .ret)
 .skip))
 (D ZNc
 (D (D ZNd
 (E 100
 (D ZNe
 .ret)
 .skip))
 (D (D ZNf
 (D ZNg
 (E 111
 (D ZNh
 .ret)
 .skip)))
 (D ZNi
 (D ZNj
 .ret))))))))))))))),
 [.c 10 true 7,.s 11]⟩
theorem ZXu:ck0 false [] ZI1 Tryz.f66=some ZI1:=by kernel_rfl
def ZXv:=R [0,3] [I 3 (.box (.s 1)),K 4 0]
def ZXw:=R [0,3,7] [M 6 0,I 7 (.eqs false 3 [] (.s 6) (.v .nilptr))]
def ZXx:=R [4] [K 4 1]
def ZXy:=R [0,3,10] [T 8 7 3,I 9 (C Qn [(.s 8)]),W 10 .eql 9 1]
def ZXz:=R [4] [K 4 0]
def ZX0:=R [3,5] [M 11 0,T 12 7 3,I 13 (C ZB7 [(.s 11),(.s 12),(.v (.bool false)),(V 0)]),M 5 13]
def ZX1:=R [3,5,15] [M 14 5,W 15 .neq 14 0]
def ZX2:=R [4] [M 16 5,M 4 16]
def ZX3:=R [19] [T 17 7 3,I 18 (C Qu [(.s 17)]),W 19 .gtr 18 65536]
def ZX4:=R [4] [K 4 5]
def ZTg:=R [4] [K 4 0]
def ZNk:PF:=⟨false,
 (D ZXv
 (D (D ZXw
 (E 7
 (D ZXx
 .ret)
 .skip))
 (D (D ZXy
 (E 10
 (D ZXz
 .ret)
 .skip))
 (D (D ZX0
 (D ZX1
 (E 15
 (D ZX2
 .ret)
 .skip)))
 (D (D ZX3
 (E 19
 (D ZX4
 .ret)
 .skip))
 (D ZTg
 .ret)))))),
 [.s 4]⟩
theorem Zer:ck0 false [] ZNk Tryz.f67=some ZNk:=by kernel_rfl
def ZTh:=R [1,2,3,4] [I 4 (.box (.s 0)),K 5 0]
def ZTi:=R [1,2,3,4,15] [F 13 1 4,L 14 13,W 15 .eql 14 0]
def ZTj:=R [2,6,7] [L 17 1,T 18 7 4,I 19 (C ZAa [(.s 17),(.s 18)]),M 16 19,X 20 16 0,X 21 16 1,M 6 20,M 7 21]
def ZTk:=R [7] [L 22 2,M 23 6,I 24 (.app 1 1 (.s 22) (.s 23)),N 1 2 24]
def ZTl:=R [5] [M 25 7,M 5 25]
def ZTm:=R [3,8,9] [L 27 1,T 28 7 4,I 29 (C YA [(.s 27),(.s 28)]),M 26 29,X 30 26 0,X 31 26 1,M 8 30,M 9 31]
def ZTn:=R [3,8,9,33] [M 32 9,W 33 .neq 32 0]
def ZTo:=R [5] [M 34 9,M 5 34]
def ZTp:=R [3,35,36,37] [M 35 8,I 36 (.len 1 (.s 35)),K 37 0]
def ZTq:=R [3,35,36,37,38] [B 38 .lss 37 36]
def ZQZ:=R [3,11,35,36,37] [I 39 (.ixS 7 (.s 35) (.s 37)),T 40 7 39,I 11 (.box (.v ZT)),N 7 11 40]
def ZQa:=R [3,12,35,36,37] [L 41 3,T 42 7 11,I 43 (.call .norm (.s 41) [(.s 42)]),M 12 43]
def ZQb:=R [3,12,35,36,37,45] [M 44 12,W 45 .neq 44 0]
def ZQc:=R [5] [M 46 12,M 5 46]
def ZQd:=R [3,35,36,37] [W 47 .add 37 1,M 37 47]
def ZQe:PC:=(D ZTq
 (D (E 38
 .skip
 (.exit 0))
 (D (.block 1
 (D ZQZ
 (D ZQa
 (D ZQb
 (E 45
 (D ZQc
 .ret)
 .skip)))))
 ZQd)))
def ZQf:=R [5] [K 5 0]
def ZKu:PF:=⟨false,
 (D ZTh
 (D (D ZTi
 (E 15
 (D ZTj
 (D ZTk
 (D ZTl
 .ret)))
 .skip))
 (D ZTm
 (D (D ZTn
 (E 33
 (D ZTo
 .ret)
 .skip))
 (D (D ZTp
 (.block 0
 (.loop ZQe)))
 (D ZQf
 .ret)))))),
 [.s 5]⟩
theorem ZbU:ck0 false [] ZKu Tryz.f68=some ZKu:=by kernel_rfl
def ZbV:=R [0,3] [I 3 (.box (.s 1)),I 4 (.mv (.v (.str []))),K 5 0]
def ZbW:=R [0,3,10] [F 8 0 3,L 9 8,I 10 (.bin .eql (.s 9) (.v (.int .u64 0)))]
def ZbX:=R [4,5] [F 11 5 3,L 12 11,M 4 12,K 5 0]
def ZbY:=R [6,7] [M 14 0,F 15 0 3,L 16 15,I 17 (C Qo [(.s 14),(.s 16)]),M 13 17,X 18 13 0,X 19 13 1,I 6 (.box (.v ZN)),N 3 6 18,M 7 19]
def ZbZ:=R [4,5] [F 20 1 6,L 21 20,M 22 7,M 4 21,M 5 22]
def ZSc:PF:=⟨false,
 (D ZbV
 (D (D ZbW
 (E 10
 (D ZbX
 .ret)
 .skip))
 (D ZbY
 (D ZbZ
 .ret)))),
 [.s 4,.s 5]⟩
theorem ZhG:ck0 false [] ZSc Tryz.f69=some ZSc:=by kernel_rfl
def ZNl:=R [0,3] [I 3 (.box (.s 1)),I 4 (.mv (.v .nils)),K 5 0]
def ZNm:=R [0,3,13] [F 11 0 3,L 12 11,I 13 (.bin .eql (.s 12) (.v (.int .u64 0)))]
def ZNn:=R [4,5] [F 14 6 3,L 15 14,M 4 15,K 5 0]
def ZNo:=R [6,7] [M 17 0,F 18 0 3,L 19 18,I 20 (C Qo [(.s 17),(.s 19)]),M 16 20,X 21 16 0,X 22 16 1,I 6 (.box (.v ZN)),N 3 6 21,M 7 22]
def ZNp:=R [6,7,24] [M 23 7,W 24 .neq 23 0]
def ZNq:=R [4,5] [M 25 7,I 4 (.mv (.v .nils)),M 5 25]
def ZNr:=R [6,8] [I 8 (.onil 7)]
def ZNs:=R [6,8,27,28,29] [F 26 2 6,L 27 26,I 28 (.len 1 (.s 27)),K 29 0]
def ZNt:=R [6,8,27,28,29,30] [B 30 .lss 29 28]
def ZNu:=R [6,8,10,27,28,29] [I 31 (.ixS 4 (.s 27) (.s 29)),T 32 4 31,I 10 (.box (.v ZK)),N 4 10 32]
def ZLf:=R [6,8,27,28,29] [M 33 8,F 34 0 10,L 35 34,F 36 0 6,L 37 36,W 38 .sub 37 1,F 39 1 10,T 40 3 39,I 41 (.build [(.int .u64 0),(.int .i64 0),(.int .i64 0),(.int .i64 0),(.int .i64 0),(.str []),.nils] [(0,1,(.s 35)),(1,1,(.s 38)),(2,3,(.s 40))]),I 42 (.bslice false 7 [ZT] [(0,(.s 41))]),I 43 (.app 7 80 (.s 33) (.s 42)),M 8 43]
def ZLg:=R [6,8,27,28,29] [W 44 .add 29 1,M 29 44]
def ZDT:PC:=(D ZNt
 (D (E 30
 .skip
 (.exit 0))
 (D (.block 1
 (D ZNu
 ZLf))
 ZLg)))
def ZLh:=R [8,47] [M 45 8,I 46 (.len 1 (.s 45)),W 47 .eql 46 0]
def ZLi:=R [4,5] [I 4 (.mv (.v .nils)),K 5 23]
def ZLj:=R [4,5] [M 48 8,M 4 48,K 5 0]
def ZGj:PF:=⟨false,
 (D ZNl
 (D (D ZNm
 (E 13
 (D ZNn
 .ret)
 .skip))
 (D ZNo
 (D (D ZNp
 (E 24
 (D ZNq
 .ret)
 .skip))
 (D ZNr
 (D (D ZNs
 (.block 0
 (.loop ZDT)))
 (D (D ZLh
 (E 47
 (D ZLi
 .ret)
 .skip))
 (D ZLj
 .ret)))))))),
 [.s 4,.s 5]⟩
theorem ZTs:ck0 false [(6,⟨[6,8],[0],[],[],[],[]⟩)] ZGj Tryz.f70=some ZGj:=by kernel_rfl
def Zba:=R [1] [I 1 (.box (.s 0)),K 2 0]
def Zbb:=R [1,3] [F 4 2 1,T 5 3 4,I 6 (.build [(.int .i64 0),(.int .i64 0),(.int .i64 0)] []),I 7 (.eqs false 0 [(0,0),(1,0),(2,0)] (.s 5) (.s 6)),M 8 7,G 9 8 true (.fadr 0 (.s 1)),G 10 8 true (.ld false 1 (.s 9)),G 11 8 true (.bin .eql (.s 10) (.v (.int .u64 0))),I 12 (.pick (.s 8) (.s 11) (.v (.bool false))),M 3 12]
def Zbc:=R [1,3,13] [M 14 3,M 15 14,G 16 15 true (.fadr 1 (.s 1)),G 17 15 true (.ld false 1 (.s 16)),G 18 15 true (.bin .eql (.s 17) (V 0)),I 19 (.pick (.s 15) (.s 18) (.v (.bool false))),M 20 19,G 21 20 true (.fadr 5 (.s 1)),G 22 20 true (.ld false 1 (.s 21)),G 23 20 true (.bin .eql (.s 22) (.v (.str []))),I 24 (.pick (.s 20) (.s 23) (.v (.bool false))),M 25 24,G 26 25 true (.fadr 6 (.s 1)),G 27 25 true (.ld false 1 (.s 26)),G 28 25 true (.len 1 (.s 27)),G 29 25 true (.bin .eql (.s 28) (V 0)),I 30 (.pick (.s 25) (.s 29) (.v (.bool false))),M 13 30]
def Zbd:=R [2] [K 2 1]
def Zbe:=R [1,3,31] [F 32 0 1,L 33 32,I 34 (.bin .neq (.s 33) (.v (.int .u64 0))),M 35 34,G 36 35 true (.fadr 5 (.s 1)),G 37 35 true (.ld false 1 (.s 36)),G 38 35 true (.bin .eql (.s 37) (.v (.str []))),I 39 (.pick (.s 35) (.s 38) (.v (.bool false))),M 40 39,G 41 40 true (.fadr 6 (.s 1)),G 42 40 true (.ld false 1 (.s 41)),G 43 40 true (.len 1 (.s 42)),G 44 40 true (.bin .eql (.s 43) (V 0)),I 45 (.pick (.s 40) (.s 44) (.v (.bool false))),M 31 45]
def Zbf:=R [2] [K 2 2]
def Zbg:=R [1,3,46] [M 47 3,M 48 47,G 49 48 true (.fadr 1 (.s 1)),G 50 48 true (.ld false 1 (.s 49)),G 51 48 true (.bin .eql (.s 50) (V 0)),I 52 (.pick (.s 48) (.s 51) (.v (.bool false))),M 53 52,G 54 53 true (.fadr 6 (.s 1)),G 55 53 true (.ld false 1 (.s 54)),G 56 53 true (.len 1 (.s 55)),G 57 53 true (.bin .eql (.s 56) (V 0)),I 58 (.pick (.s 53) (.s 57) (.v (.bool false))),M 59 58,G 60 59 true (.fadr 5 (.s 1)),G 61 59 true (.ld false 1 (.s 60)),G 62 59 true (.len 0 (.s 61)),G 63 59 true (.bin .leq (.s 62) (V 16)),I 64 (.pick (.s 59) (.s 63) (.v (.bool false))),M 46 64]
def Zbh:=R [2] [K 2 3]
def Zbi:=R [65] [M 66 3,M 67 66,G 68 67 true (.fadr 5 (.s 1)),G 69 67 true (.ld false 1 (.s 68)),G 70 67 true (.bin .eql (.s 69) (.v (.str []))),I 71 (.pick (.s 67) (.s 70) (.v (.bool false))),M 72 71,G 73 72 true (.fadr 1 (.s 1)),G 74 72 true (.ld false 1 (.s 73)),G 75 72 true (.bin .geq (.s 74) (V 1)),I 76 (.pick (.s 72) (.s 75) (.v (.bool false))),M 77 76,G 78 77 true (.fadr 1 (.s 1)),G 79 77 true (.ld false 1 (.s 78)),G 80 77 true (.bin .leq (.s 79) (V 16)),I 81 (.pick (.s 77) (.s 80) (.v (.bool false))),M 82 81,G 83 82 true (.fadr 6 (.s 1)),G 84 82 true (.ld false 1 (.s 83)),G 85 82 true (.len 1 (.s 84)),G 86 82 true (.bin .geq (.s 85) (V 2)),I 87 (.pick (.s 82) (.s 86) (.v (.bool false))),M 88 87,G 89 88 true (.fadr 6 (.s 1)),G 90 88 true (.ld false 1 (.s 89)),G 91 88 true (.len 1 (.s 90)),G 92 88 true (.bin .leq (.s 91) (V 4)),I 93 (.pick (.s 88) (.s 92) (.v (.bool false))),M 65 93]
def Zbj:=R [2] [K 2 4]
def ZX5:=R [2] [K 2 0]
def ZSd:PF:=⟨false,
 (D Zba
 (D Zbb
 (D (.block 0
 (D Zbc
 (E 13
 (D Zbd
 .ret)
 (D Zbe
 (E 31
 (D Zbf
 .ret)
 (D Zbg
 (E 46
 (D Zbh
 .ret)
 (D Zbi
 (E 65
 (D Zbj
 .ret)
 .skip)))))))))
 (D ZX5
 .ret)))),
 [.s 2]⟩
theorem ZhI:ck0 false [] ZSd Tryz.f71=some ZSd:=by kernel_rfl
def ZX6:=R [0,3] [I 3 (.box (.s 1)),I 4 (.mv (.v .nilptr)),K 5 0]
def ZX7:=R [0,3,6] [M 8 0,T 9 7 3,I 10 (C YI [(.s 8),(.s 9)]),M 6 10]
def ZX8:=R [0,3,6,12] [M 11 6,W 12 .neq 11 0]
def ZX9:=R [4,5] [M 13 6,I 4 (.mv (.v .nilptr)),M 5 13]
def ZYA:=R [0,3,19] [T 14 7 3,I 15 (C ZBB [(.s 14)]),M 16 0,I 17 (C Ya [(.s 16)]),I 18 (.fld false 1 1 (.s 17)),B 19 .gtr 15 18]
def ZYB:=R [4,5] [I 4 (.mv (.v .nilptr)),K 5 6]
def ZYC:=R [3,7] [M 20 0,I 21 (.build [.nilptr,.nils,.nilptr] [(0,1,(.s 20))]),I 22 (.box (.s 21)),M 7 22]
def ZYD:=R [7] [M 23 7,M 24 7,T 25 7 3,I 26 (C Qr [(.s 24),(.s 25)]),I 27 (.nilck (.s 23)),F 28 2 27,N 1 28 26]
def ZYE:=R [4,5] [M 29 7,M 4 29,K 5 0]
def ZNv:PF:=⟨true,
 (D ZX6
 (D (D ZX7
 (D ZX8
 (E 12
 (D ZX9
 .ret)
 .skip)))
 (D (D ZYA
 (E 19
 (D ZYB
 .ret)
 .skip))
 (D ZYC
 (D ZYD
 (D ZYE
 .ret)))))),
 [.s 4,.s 5]⟩
theorem Zet:ck0 true [] ZNv Tryz.f72=some ZNv:=by kernel_rfl
def ZNw:=R [0] [I 2 (.mv (.v (.int .u64 0))),I 3 (.mv (.v (.bool false))),K 4 0]
def ZNx:=R [0,6] [M 5 0,I 6 (.eqs false 3 [] (.s 5) (.v .nilptr))]
def ZNy:=R [2,3,4] [I 2 (.mv (.v (.int .u64 0))),I 3 (.mv (.v (.bool false))),K 4 1]
def ZNz:=R [0,12] [M 7 0,I 8 (.nilck (.s 7)),F 9 1 8,L 10 9,I 11 (.len 1 (.s 10)),W 12 .eql 11 0]
def ZN0:=R [2,3,4] [I 2 (.mv (.v (.int .u64 0))),I 3 (.mv (.v (.bool true))),K 4 0]
def ZN1:=R [0,2,4] [M 14 0,I 15 (.nilck (.s 14)),F 16 1 15,L 17 16,I 18 (.ixS 1 (.s 17) (V 0)),L 19 18,I 20 (.call .norm (.s 19) []),M 13 20,X 21 13 0,X 22 13 1,M 2 21,M 4 22]
def ZN2:=R [0,2,4,24] [M 23 4,W 24 .neq 23 0]
def ZN3:=R [2,3,4] [M 25 4,I 2 (.mv (.v (.int .u64 0))),I 3 (.mv (.v (.bool false))),M 4 25]
def ZN4:=R [0,2] [M 26 0,M 27 0,I 28 (.nilck (.s 27)),F 29 1 28,L 30 29,I 31 (.slc 1 (.s 30) (some (V 1)) none),I 32 (.nilck (.s 26)),F 33 1 32,N 1 33 31]
def ZN5:=R [2,3,4] [M 34 2,M 35 0,I 36 (.nilck (.s 35)),F 37 1 36,L 38 37,I 39 (.len 1 (.s 38)),W 40 .eql 39 0,M 2 34,M 3 40,K 4 0]
def ZGk:PF:=⟨false,
 (D ZNw
 (D (D ZNx
 (E 6
 (D ZNy
 .ret)
 .skip))
 (D (D ZNz
 (E 12
 (D ZN0
 .ret)
 .skip))
 (D ZN1
 (D (D ZN2
 (E 24
 (D ZN3
 .ret)
 .skip))
 (D ZN4
 (D ZN5
 .ret))))))),
 [.s 2,.s 3,.s 4]⟩
theorem ZTu:ck0 false [] ZGk Tryz.f73=some ZGk:=by kernel_rfl
def ZN6:=R [0,2] [I 2 (.box (.v ZR)),K 3 0]
def ZN7:=R [0,2,5] [M 4 0,I 5 (.eqs false 3 [] (.s 4) (.v .nilptr))]
def ZN8:=R [2,3] [I 6 (.build [(.int .u64 0),(.int .i64 0),(.int .i64 0),(.int .i64 0),(.int .i64 0)] []),N 5 2 6,K 3 1]
def ZN9:=R [0,2,12] [M 7 0,I 8 (.nilck (.s 7)),F 9 1 8,L 10 9,I 11 (.len 1 (.s 10)),W 12 .gtr 11 0]
def ZOA:=R [2,3] [I 13 (.build [(.int .u64 0),(.int .i64 0),(.int .i64 0),(.int .i64 0),(.int .i64 0)] []),N 5 2 13,K 3 8]
def ZOB:=R [2,3] [M 14 0,I 15 (.nilck (.s 14)),F 16 2 15,L 17 16,I 18 (.nilck (.s 17)),T 19 5 18,N 5 2 19,K 3 0]
def ZGl:PF:=⟨false,
 (D ZN6
 (D (D ZN7
 (E 5
 (D ZN8
 .ret)
 .skip))
 (D (D ZN9
 (E 12
 (D ZOA
 .ret)
 .skip))
 (D ZOB
 .ret)))),
 [.c 2 true 5,.s 3]⟩
theorem ZTw:ck0 false [] ZGl Tryz.f74=some ZGl:=by kernel_rfl
def ZQg:=R [1,2,3] [I 3 (.box (.s 0))]
def ZQh:=R [1,2,3,4] [I 4 (.box (.v .nilfunc))]
def ZQi:=R [2,4] [I 5 (.mkf (.func Yg) [] [(.s 1),(.s 3),(.s 4)]),N 1 4 5]
def ZQj:=R [2,4,8] [F 6 0 2,L 7 6,I 8 (.bin .neq (.s 7) (.v (.int .u64 0)))]
def ZQk:=R [] [L 9 4,F 10 0 2,L 11 10,I 12 (.call .norm (.s 9) [(.s 11)])]
def ZI2:PF:=⟨false,
 (D ZQg
 (D ZQh
 (D ZQi
 (D ZQj
 (E 8
 ZQk
 .skip))))),
 []⟩
theorem ZYG:ck0 false [] ZI2 Tryz.f79=some ZI2:=by kernel_rfl
def ZLk:=R [0,1,2,3] [I 5 (.mv (.v (.bool false)))]
def ZLl:=R [0,2,3,6,7] [L 11 1,M 12 0,I 13 (C Qo [(.s 11),(.s 12)]),M 10 13,X 14 10 0,X 15 10 1,I 6 (.box (.v ZN)),N 3 6 14,M 7 15]
def ZLm:=R [3,6,26] [L 16 2,M 17 0,T 18 3 6,M 19 7,I 20 (.build [(.int .i64 0),(.str []),.nils,(.int .i64 0)] [(0,3,(.s 18)),(3,1,(.s 19))]),I 21 (.call .norm (.s 16) [(.s 17),(.s 20)]),I 22 (.un .not (.s 21)),M 23 22,U 24 23 false 7,G 25 23 false (.bin .neq (.s 24) (V 0)),I 26 (.pick (.s 23) (.v (.bool true)) (.s 25))]
def ZLn:=R [5] [I 5 (.mv (.v (.bool false)))]
def ZLo:=R [3,28,29,30] [F 27 2 6,L 28 27,I 29 (.len 1 (.s 28)),K 30 0]
def ZLp:=R [3,28,29,30,31] [B 31 .lss 30 29]
def ZLq:=R [3,9,28,29,30] [I 32 (.ixS 4 (.s 28) (.s 30)),T 33 4 32,I 9 (.box (.v ZK)),N 4 9 33]
def ZLr:=R [3,28,29,30,38] [L 34 3,F 35 0 9,L 36 35,I 37 (.call .norm (.s 34) [(.s 36)]),I 38 (.un .not (.s 37))]
def ZLs:=R [5] [I 5 (.mv (.v (.bool false)))]
def ZLt:=R [3,28,29,30] [W 39 .add 30 1,M 30 39]
def ZKW:PC:=(D ZLp
 (D (E 31
 .skip
 (.exit 0))
 (D (.block 1
 (D ZLq
 (D ZLr
 (E 38
 (D ZLs
 .ret)
 .skip))))
 ZLt)))
def ZKX:=R [5] [I 5 (.mv (.v (.bool true)))]
def ZEk:PF:=⟨false,
 (D ZLk
 (D ZLl
 (D (D ZLm
 (E 26
 (D ZLn
 .ret)
 .skip))
 (D (D ZLo
 (.block 0
 (.loop ZKW)))
 (D ZKX
 .ret))))),
 [.s 5]⟩
theorem ZQm:ck0 false [] ZEk Tryz.f80=some ZEk:=by kernel_rfl
def ZKY:=R [0,1,4] [I 4 (.box (.v ZN)),K 5 0]
def ZKZ:=R [0,1,4,9] [M 8 0,I 9 (.eqs false 3 [] (.s 8) (.v .nilptr))]
def ZKa:=R [4,5] [I 10 (.build [(.int .i64 0),(.str []),.nils] []),N 3 4 10,K 5 1]
def ZKb:=R [0,4,6,7] [M 12 0,I 13 (.nilck (.s 12)),F 14 2 13,L 15 14,M 16 1,I 17 (.look 0 ZN true (.s 15) (.s 16)),M 11 17,X 18 11 0,X 19 11 1,I 6 (.box (.v ZN)),N 3 6 18,M 7 19]
def ZKc:=R [0,4,6,21] [M 20 7,I 21 (.un .not (.s 20))]
def ZKd:=R [4] [M 22 0,I 23 (.nilck (.s 22)),F 24 5 23,L 25 24,W 26 .add 25 1,I 27 (.nilck (.s 22)),F 28 5 27,N 1 28 26]
def ZKe:=R [4,5] [I 29 (.build [(.int .i64 0),(.str []),.nils] []),N 3 4 29,K 5 10]
def ZKf:=R [4,6] [F 30 2 6,L 31 30,I 32 (C Z9 [(.s 31)]),F 33 2 6,N 1 33 32]
def ZKg:=R [4,5] [T 34 3 6,N 3 4 34,K 5 0]
def ZD0:PF:=⟨false,
 (D ZKY
 (D (D ZKZ
 (E 9
 (D ZKa
 .ret)
 .skip))
 (D ZKb
 (D (D ZKc
 (E 21
 (D ZKd
 (D ZKe
 .ret))
 .skip))
 (D ZKf
 (D ZKg
 .ret)))))),
 [.c 4 true 3,.s 5]⟩
theorem ZOD:ck0 false [] ZD0 Tryz.f81=some ZD0:=by kernel_rfl
def ZTx:=R [0,2,3,5,8] [I 5 (.box (.s 1)),I 8 (.box (.v (.agg [(.int .u64 0),(.int .i64 0),(.int .i64 0),(.int .i64 0),(.int .i64 0),.nils,.nils]))),K 9 0]
def ZTy:=R [8,9] [M 10 0,T 11 5 5,M 12 2,M 13 3,I 14 (C ZCx [(.s 10),(.s 11),(.s 12),(V 0),(.s 13)]),X 15 14 0,X 16 14 1,N 7 8 15,M 9 16]
def ZKv:PF:=⟨false,
 (D ZTx
 (D ZTy
 .ret)),
 [.c 8 true 7,.s 9]⟩
theorem Zbl:ck0 false [] ZKv Tryz.f82=some ZKv:=by kernel_rfl
def ZEl:=R [0,1] [I 4 (.mv (.v .nils))]
def ZEm:=R [0,1,5] [I 5 (.onil 1)]
def ZEn:=R [0,1,5,9] [M 8 0,I 9 (.eqs false 3 [] (.s 8) (.v .nilptr))]
def ZEo:=R [4] [M 10 5,M 4 10]
def ZEp:=R [1,5,14,15,16] [M 11 0,I 12 (.nilck (.s 11)),F 13 1 12,L 14 13,I 15 (.len 1 (.s 14)),K 16 0]
def ZEq:=R [1,5,14,15,16,17] [B 17 .lss 16 15]
def ZEr:=R [1,5,6,7,14,15,16] [M 18 16,I 19 (.ixS 1 (.s 14) (.s 16)),L 20 19,M 6 18,M 7 20]
def ZEs:=R [1,5,6,14,15,16,23] [M 21 7,M 22 1,B 23 .eql 21 22]
def ZEt:=R [1,5,14,15,16] [M 24 5,M 25 6,I 26 (.bslice false 1 [(.int .i64 0)] [(0,(.s 25))]),I 27 (.app 1 8 (.s 24) (.s 26)),M 5 27]
def ZEu:=R [1,5,14,15,16] [W 28 .add 16 1,M 16 28]
def ZEN:PC:=(D ZEq
 (D (E 17
 .skip
 (.exit 0))
 (D (.block 1
 (D ZEr
 (D ZEs
 (E 23
 ZEt
 .skip))))
 ZEu)))
def ZEO:=R [4] [M 29 5,M 4 29]
def ZA0:PF:=⟨false,
 (D ZEl
 (D ZEm
 (D (D ZEn
 (E 9
 (D ZEo
 .ret)
 .skip))
 (D (D ZEp
 (.block 0
 (.loop ZEN)))
 (D ZEO
 .ret))))),
 [.s 4]⟩
theorem ZHl:ck0 false [(1,⟨[0,1,5],[0],[],[],[],[]⟩)] ZA0 Tryz.f83=some ZA0:=by kernel_rfl
def ZTz:=R [0,1] [I 4 (.mv (.v (.int .u64 0))),K 5 0]
def ZT0:=R [0,1,19] [M 6 0,W 7 .lss 6 0,M 8 7,U 9 8 false 0,G 10 8 false (.bin .geq (.s 9) (V 16384)),I 11 (.pick (.s 8) (.v (.bool true)) (.s 10)),M 12 11,U 13 12 false 1,G 14 12 false (.bin .lss (.s 13) (.v (.int .u64 1))),I 15 (.pick (.s 12) (.v (.bool true)) (.s 14)),M 16 15,U 17 16 false 1,G 18 16 false (.bin .gtr (.s 17) (.v (.int .u64 4294967295))),I 19 (.pick (.s 16) (.v (.bool true)) (.s 18))]
def ZT1:=R [4,5] [I 4 (.mv (.v (.int .u64 0))),K 5 3]
def ZT2:=R [4,5] [M 20 1,I 21 (.bin .shl (.s 20) (.v (.int .u64 16))),M 22 0,I 23 (.cint .u64 (.s 22)),B 24 .or 21 23,M 4 24,K 5 0]
def ZKw:PF:=⟨false,
 (D ZTz
 (D (D ZT0
 (E 19
 (D ZT1
 .ret)
 .skip))
 (D ZT2
 .ret))),
 [.s 4,.s 5]⟩
theorem Zbn:ck0 false [] ZKw Tryz.f84=some ZKw:=by kernel_rfl
def ZI3:=R [0,1] [I 4 (.mv (.v (.bool false)))]
def ZI4:=R [0,1,6] [M 5 0,I 6 (.eqs false 3 [] (.s 5) (.v .nilptr))]
def ZI5:=R [4] [I 4 (.mv (.v (.bool false)))]
def ZI6:=R [4] [M 7 0,I 8 (.nilck (.s 7)),F 9 1 8,L 10 9,M 11 1,I 12 (C Xd [(.s 10),(.s 11)]),M 4 12]
def ZDU:PF:=⟨false,
 (D ZI3
 (D (D ZI4
 (E 6
 (D ZI5
 .ret)
 .skip))
 (D ZI6
 .ret))),
 [.s 4]⟩
theorem ZLv:ck0 false [] ZDU Tryz.f85=some ZDU:=by kernel_rfl
def ZFs:=R [0,1] [K 4 0,I 5 (.mv (.v (.bool false)))]
def ZFt:=R [0,1,6,7] [M 10 1,I 11 (C ZBP [(.s 10)]),M 9 11,X 12 9 0,X 13 9 1,M 6 12,M 7 13]
def ZFu:=R [0,1,6,34] [M 14 7,W 15 .neq 14 0,M 16 15,U 17 16 false 6,U 18 16 false 0,G 19 16 false (.nilck (.s 18)),G 20 16 false (.fadr 1 (.s 19)),G 21 16 false (.ld false 1 (.s 20)),G 22 16 false (.len 1 (.s 21)),G 23 16 false (.bin .geq (.s 17) (.s 22)),I 24 (.pick (.s 16) (.v (.bool true)) (.s 23)),M 25 24,U 26 25 false 0,G 27 25 false (.nilck (.s 26)),G 28 25 false (.fadr 1 (.s 27)),G 29 25 false (.ld false 1 (.s 28)),U 30 25 false 6,G 31 25 false (.ixS 1 (.s 29) (.s 30)),G 32 25 false (.ld false 1 (.s 31)),G 33 25 false (.bin .neq (.s 32) (.v (.int .u8 1))),I 34 (.pick (.s 25) (.v (.bool true)) (.s 33))]
def ZFv:=R [4,5] [K 4 0,I 5 (.mv (.v (.bool false)))]
def ZFw:=R [0,6,7,8] [M 36 1,I 37 (C ZFS [(.s 36)]),M 35 37,X 38 35 0,X 39 35 1,M 8 38,M 7 39]
def ZFx:=R [4,5] [M 40 6,M 41 7,W 42 .eql 41 0,M 43 42,U 44 43 true 8,U 45 43 true 0,G 46 43 true (.nilck (.s 45)),G 47 43 true (.fadr 2 (.s 46)),G 48 43 true (.ld false 1 (.s 47)),U 49 43 true 6,G 50 43 true (.ixS 1 (.s 48) (.s 49)),G 51 43 true (.ld false 1 (.s 50)),G 52 43 true (.bin .eql (.s 44) (.s 51)),I 53 (.pick (.s 43) (.s 52) (.v (.bool false))),M 4 40,M 5 53]
def ZBe:PF:=⟨false,
 (D ZFs
 (D ZFt
 (D (D ZFu
 (E 34
 (D ZFv
 .ret)
 .skip))
 (D ZFw
 (D ZFx
 .ret))))),
 [.s 4,.s 5]⟩
theorem ZI8:ck0 false [] ZBe Tryz.f86=some ZBe:=by kernel_rfl
def ZQn:=R [0,1] [I 4 (.mv (.v .nilptr)),K 5 0]
def ZQo:=R [0,1,21] [M 8 0,W 9 .lss 8 1,M 10 9,U 11 10 false 0,G 12 10 false (.bin .gtr (.s 11) (V 16384)),I 13 (.pick (.s 10) (.v (.bool true)) (.s 12)),M 14 13,U 15 14 false 1,G 16 14 false (.bin .lss (.s 15) (.v (.int .u64 1))),I 17 (.pick (.s 14) (.v (.bool true)) (.s 16)),M 18 17,U 19 18 false 1,G 20 18 false (.bin .gtr (.s 19) (.v (.int .u64 4294967295))),I 21 (.pick (.s 18) (.v (.bool true)) (.s 20))]
def ZQp:=R [4,5] [I 4 (.mv (.v .nilptr)),K 5 3]
def ZQq:PC:=(.regH [3,1,5] [0,6] [M 22 0,I 23 (.w (.here 1) (.mkslice 1 8 (.int .i64 0) (.s 22) (.s 22))),M 24 0,I 25 (.w (.here 3) (.mkslice 1 1 (.int .u8 0) (.s 24) (.s 24))),M 26 0,I 27 (.w (.here 5) (.mkslice 1 8 (.int .u64 0) (.s 26) (.s 26))),M 28 1,I 29 (.build [.nils,.nils,.nils,(.int .u64 0)] [(0,1,(.s 23)),(1,1,(.s 25)),(2,1,(.s 27)),(3,1,(.s 28))]),I 30 (.box (.s 29)),M 6 30])
def ZQr:=R [0,6,31,32] [M 31 0,K 32 0]
def ZQs:=R [0,6,31,32,33] [B 33 .lss 32 31]
def ZQt:=R [0,6,7,31,32] [M 34 32,M 7 34]
def ZQu:=R [0,6,7,31,32] [M 35 6,I 36 (.nilck (.s 35)),F 37 0 36,L 38 37,M 39 7,M 40 0,W 41 .sub 40 1,M 42 7,B 43 .sub 41 42,I 44 (.ixS 1 (.s 38) (.s 39)),N 1 44 43]
def ZQv:=R [0,6,31,32] [M 45 6,I 46 (.nilck (.s 45)),F 47 2 46,L 48 47,M 49 7,I 50 (.ixS 1 (.s 48) (.s 49)),J (.st 1 (.s 50) (.v (.int .u64 1)))]
def ZQw:=R [0,6,31,32] [W 51 .add 32 1,M 32 51]
def ZOE:PC:=(D ZQs
 (D (E 33
 .skip
 (.exit 0))
 (D (.block 1
 (D ZQt
 (D ZQu
 ZQv)))
 ZQw)))
def ZOF:=R [4,5] [M 52 6,M 4 52,K 5 0]
def ZI9:PF:=⟨true,
 (D ZQn
 (D (D ZQo
 (E 21
 (D ZQp
 .ret)
 .skip))
 (D ZQq
 (D (D ZQr
 (.block 0
 (.loop ZOE)))
 (D ZOF
 .ret))))),
 [.s 4,.s 5]⟩
theorem ZYI:ck0 true [(3,⟨[0,6],[],[],[],[(1,(.here 1)),(5,(.here 5)),(3,(.here 3))],[3,1,5]⟩)] ZI9 Tryz.f87=some ZI9:=by kernel_rfl
def Zbo:=R [0,1,2,7] [I 7 (.box (.s 3)),K 8 0]
def Zbp:=R [2,7,9,10] [M 13 0,M 14 1,I 15 (C Qo [(.s 13),(.s 14)]),M 12 15,X 16 12 0,X 17 12 1,I 9 (.box (.v ZN)),N 3 9 16,M 10 17]
def Zbq:=R [2,7,9,10,19] [M 18 10,W 19 .neq 18 0]
def Zbr:=R [8] [M 20 10,M 8 20]
def Zbs:=R [2,7,9,10,11] [T 22 3 9,I 23 (C Xe [(.s 22)]),M 21 23,X 24 21 0,X 25 21 1,I 11 (.box (.v ZM)),N 3 11 24,M 10 25]
def Zbt:=R [38] [M 26 10,W 27 .neq 26 0,M 28 27,G 29 28 false (.fadr 0 (.s 9)),G 30 28 false (.ld false 1 (.s 29)),U 31 28 false 2,G 32 28 false (.bin .neq (.s 30) (.s 31)),I 33 (.pick (.s 28) (.v (.bool true)) (.s 32)),M 34 33,G 35 34 false (.ld true 3 (.s 11)),G 36 34 false (.ld true 3 (.s 7)),G 37 34 false (.eqs true 0 [(0,0),(1,0),(2,0)] (.s 35) (.s 36)),I 38 (.pick (.s 34) (.v (.bool true)) (.s 37))]
def Zbu:=R [8] [K 8 23]
def Zbv:=R [8] [K 8 0]
def ZSe:PF:=⟨false,
 (D Zbo
 (D Zbp
 (D (D Zbq
 (E 19
 (D Zbr
 .ret)
 .skip))
 (D Zbs
 (D (D Zbt
 (E 38
 (D Zbu
 .ret)
 .skip))
 (D Zbv
 .ret)))))),
 [.s 8]⟩
theorem ZhK:ck0 false [] ZSe Tryz.f88=some ZSe:=by kernel_rfl
def Zbw:=R [1] [I 1 (.box (.s 0)),I 2 (.mv (.v .nils))]
def Zbx:=R [1,3] [I 3 (.boxnil 1)]
def Zby:=R [1,3,4] [I 6 (.mkmap),I 4 (.box (.v .nilmap)),N 1 4 6]
def Zbz:=R [1,3,4,5] [I 5 (.box (.v .nilfunc))]
def Zb0:=R [1,3,5] [I 7 (.mkf (.func Y5) [] [(.s 4),(.s 3),(.s 5)]),N 1 5 7]
def Zb1:=R [3] [L 8 5,T 9 7 1,I 10 (.call .norm (.s 8) [(.s 9)])]
def Zb2:=R [2] [L 11 3,M 2 11]
def ZSf:PF:=⟨false,
 (D Zbw
 (D Zbx
 (D Zby
 (D Zbz
 (D Zb0
 (D Zb1
 (D Zb2
 .ret))))))),
 [.s 2]⟩
theorem ZhM:ck0 false [(1,⟨[1,3],[0],[],[],[],[]⟩)] ZSf Tryz.f93=some ZSf:=by kernel_rfl
def ZYJ:=R [0,1,2,3] [K 8 0]
def ZYK:=R [0,1,2,3,16] [M 14 2,M 15 1,I 16 (.look 0 (.bool false) false (.s 14) (.s 15))]
def ZYL:=R [8] [K 8 0]
def ZYM:=R [0,1,2,3] [M 17 2,M 18 1,J (.mupd 0 (.s 17) (.s 18) (.v (.bool true)))]
def ZYN:=R [0,1,2,3,9,10] [M 20 0,M 21 1,I 22 (C Qo [(.s 20),(.s 21)]),M 19 22,X 23 19 0,X 24 19 1,I 9 (.box (.v ZN)),N 3 9 23,M 10 24]
def ZYO:=R [0,1,2,3,9,10,26] [M 25 10,W 26 .neq 25 0]
def ZYP:=R [8] [M 27 10,M 8 27]
def ZYQ:=R [0,2,3,9] [M 28 3,M 29 1,I 30 (.call .norm (.s 28) [(.s 29)])]
def ZYR:=R [0,2,3,32,33,34] [F 31 2 9,L 32 31,I 33 (.len 1 (.s 32)),K 34 0]
def ZYS:=R [0,2,3,32,33,34,35] [B 35 .lss 34 33]
def ZT3:=R [0,2,3,12,32,33,34] [I 36 (.ixS 4 (.s 32) (.s 34)),T 37 4 36,I 12 (.box (.v ZK)),N 4 12 37]
def ZT4:=R [0,2,3,13,32,33,34] [M 38 0,F 39 0 12,L 40 39,M 41 2,M 42 3,I 43 (C JU [(.s 38),(.s 40),(.s 41),(.s 42)]),M 13 43]
def ZT5:=R [0,2,3,13,32,33,34,45] [M 44 13,W 45 .neq 44 0]
def ZT6:=R [8] [M 46 13,M 8 46]
def ZT7:=R [0,2,3,32,33,34] [W 47 .add 34 1,M 34 47]
def ZT8:PC:=(D ZYS
 (D (E 35
 .skip
 (.exit 0))
 (D (.block 1
 (D ZT3
 (D ZT4
 (D ZT5
 (E 45
 (D ZT6
 .ret)
 .skip)))))
 ZT7)))
def ZT9:=R [8] [K 8 0]
def ZOG:PF:=⟨false,
 (D ZYJ
 (D (D ZYK
 (E 16
 (D ZYL
 .ret)
 .skip))
 (D ZYM
 (D ZYN
 (D (D ZYO
 (E 26
 (D ZYP
 .ret)
 .skip))
 (D ZYQ
 (D (D ZYR
 (.block 0
 (.loop ZT8)))
 (D ZT9
 .ret)))))))),
 [.s 8]⟩
theorem Zev:ck0 false [] ZOG Tryz.f94=some ZOG:=by kernel_rfl
def ZEv:PF:=⟨false,
 .skip,
 []⟩
theorem ZQy:ck0 false [] ZEv Tryz.f95=some ZEv:=by kernel_rfl
def ZLw:=R [0,2,7] [L 4 1,M 5 0,I 6 (.look 0 (.bool false) false (.s 4) (.s 5)),I 7 (.un .not (.s 6))]
def ZLx:=R [] [L 8 2,M 9 0,I 10 (.bslice false 1 [(.int .u64 0)] [(0,(.s 9))]),I 11 (.app 1 8 (.s 8) (.s 10)),N 1 2 11]
def ZEw:PF:=⟨false,
 (D ZLw
 (E 7
 ZLx
 .skip)),
 []⟩
theorem ZQ0:ck0 false [] ZEw Tryz.f96=some ZEw:=by kernel_rfl
def ZQ1:=R [0] [I 2 (.mv (.v .nils))]
def ZQ2:=R [0,3] [I 3 (.onil 1)]
def ZQ3:=R [0,3,8,9,10] [M 6 0,I 7 (.len 0 (.s 6)),I 8 (C ZBQ [(.s 7),(V 16)]),I 9 (.len 1 (.s 8)),K 10 0]
def ZQ4:=R [0,3,8,9,10,11] [B 11 .lss 10 9]
def ZQ5:=R [0,3,5,8,9,10] [I 12 (.ixS 1 (.s 8) (.s 10)),L 13 12,M 5 13]
def ZQ6:=R [0,3,5,8,9,10] [M 14 3,M 15 0,M 16 5,I 17 (.slcS (.s 15) none (some (.s 16))),I 18 (.bslice false 1 [(.str [])] [(0,(.s 17))]),I 19 (.app 1 16 (.s 14) (.s 18)),M 3 19]
def ZQ7:=R [0,3,8,9,10] [M 20 0,M 21 5,I 22 (.slcS (.s 20) (some (.s 21)) none),M 0 22]
def ZQ8:=R [0,3,8,9,10] [W 23 .add 10 1,M 10 23]
def ZQ9:PC:=(D ZQ4
 (D (E 11
 .skip
 (.exit 0))
 (D (.block 1
 (D ZQ5
 (D ZQ6
 ZQ7)))
 ZQ8)))
def ZRA:=R [2] [M 24 3,M 2 24]
def ZJA:PF:=⟨false,
 (D ZQ1
 (D ZQ2
 (D (D ZQ3
 (.block 0
 (.loop ZQ9)))
 (D ZRA
 .ret)))),
 [.s 2]⟩
theorem ZYU:ck0 false [(1,⟨[0,3],[0],[],[],[],[]⟩)] ZJA Tryz.f97=some ZJA:=by kernel_rfl
def ZYV:=R [0,1] [I 4 (.mv (.v .nils)),K 5 0]
def ZYW:=R [0,1,11] [M 6 0,W 7 .lss 6 0,M 8 7,U 9 8 false 1,G 10 8 false (.bin .lss (.s 9) (V 1)),I 11 (.pick (.s 8) (.v (.bool true)) (.s 10))]
def ZYX:=R [4,5] [I 4 (.mv (.v .nils)),K 5 2]
def ZYY:=R [0,1,13] [M 12 0,W 13 .gtr 12 65536]
def ZYZ:=R [4,5] [I 4 (.mv (.v .nils)),K 5 5]
def ZYa:=R [4,5] [M 14 0,M 15 1,I 16 (C ZBQ [(.s 14),(.s 15)]),M 4 16,K 5 0]
def ZOH:PF:=⟨false,
 (D ZYV
 (D (D ZYW
 (E 11
 (D ZYX
 .ret)
 .skip))
 (D (D ZYY
 (E 13
 (D ZYZ
 .ret)
 .skip))
 (D ZYa
 .ret)))),
 [.s 4,.s 5]⟩
theorem Zex:ck0 false [] ZOH Tryz.f98=some ZOH:=by kernel_rfl
def ZYb:=R [0,2] [I 2 (.box (.v ZT))]
def ZYc:=R [0,2,3] [M 4 0,I 5 (.len 1 (.s 4)),W 6 .eql 5 0,M 3 6]
def ZYd:=R [2] [I 7 (.build [(.int .u64 0),(.int .i64 0),(.int .i64 0),(.int .i64 0),(.int .i64 0),(.str []),.nils] []),N 7 2 7]
def ZYe:=R [0,2,8] [M 9 0,I 10 (.len 1 (.s 9)),W 11 .eql 10 1,M 8 11]
def ZYf:=R [2] [M 12 0,I 13 (.ixS 7 (.s 12) (V 0)),T 14 7 13,N 7 2 14]
def ZYg:=R [2] [M 15 0,I 16 (.ixS 7 (.s 15) (V 0)),F 17 1 16,L 18 17,W 19 .add 18 1,I 20 (.w .imm (.bslice false 7 [] [])),M 21 0,I 22 (.w .app0 (.app 7 80 (.s 20) (.s 21))),I 23 (.build [(.int .u64 0),(.int .i64 0),(.int .i64 0),(.int .i64 0),(.int .i64 0),(.str []),.nils] [(1,1,(.s 19)),(6,1,(.s 22))]),N 7 2 23]
def ZOI:PF:=⟨false,
 (D ZYb
 (D (.block 0
 (D ZYc
 (E 3
 (D ZYd
 .ret)
 (D ZYe
 (E 8
 (D ZYf
 .ret)
 .skip)))))
 (D ZYg
 .ret))),
 [.c 2 true 7]⟩
theorem Zez:ck0 false [(5,⟨[2],[],[],[],[(7,.app0),(5,.imm)],[]⟩)] ZOI Tryz.f99=some ZOI:=by kernel_rfl
def ZYh:=R [1] [I 1 (.box (.s 0)),K 2 0]
def ZYi:=R [1,3] [F 6 2 1,F 7 0 6,L 8 7,F 9 5 1,L 10 9,I 11 (.len 0 (.s 10)),B 12 .add 8 11,M 3 12]
def ZYj:=R [3,14,15,16] [F 13 6 1,L 14 13,I 15 (.len 1 (.s 14)),K 16 0]
def ZYk:=R [3,14,15,16,17] [B 17 .lss 16 15]
def ZYl:=R [3,5,14,15,16] [I 18 (.ixS 7 (.s 14) (.s 16)),T 19 7 18,I 5 (.box (.v ZT)),N 7 5 19]
def ZYm:=R [3,14,15,16] [M 20 3,T 21 7 5,I 22 (C Qu [(.s 21)]),B 23 .add 20 22,M 3 23]
def ZYn:=R [3,14,15,16] [W 24 .add 16 1,M 16 24]
def ZYo:PC:=(D ZYk
 (D (E 17
 .skip
 (.exit 0))
 (D (.block 1
 (D ZYl
 ZYm))
 ZYn)))
def ZYp:=R [2] [M 25 3,M 2 25]
def ZOJ:PF:=⟨false,
 (D ZYh
 (D ZYi
 (D (D ZYj
 (.block 0
 (.loop ZYo)))
 (D ZYp
 .ret)))),
 [.s 2]⟩
theorem Ze1:ck0 false [] ZOJ Tryz.f100=some ZOJ:=by kernel_rfl
def Ze2:=R [1,2] [I 1 (.box (.s 0)),I 2 (.box (.v ZT))]
def Ze3:=R [1,2,9] [F 6 6 1,L 7 6,I 8 (.len 1 (.s 7)),W 9 .eql 8 0]
def Ze4:=R [1,2] [F 10 6 1,J (.st 1 (.s 10) (.v .nils))]
def Ze5:=R [2] [T 11 7 1,N 7 2 11]
def Ze6:=R [1,2,3] [F 12 6 1,L 13 12,I 14 (.len 1 (.s 13)),I 15 (.mkslice 7 80 ZT (.s 14) (.s 14)),M 3 15]
def Ze7:=R [1,2,3,17,18,19] [F 16 6 1,L 17 16,I 18 (.len 1 (.s 17)),K 19 0]
def Ze8:=R [1,2,3,17,18,19,20] [B 20 .lss 19 18]
def Ze9:=R [1,2,3,4,5,17,18,19] [M 21 19,I 22 (.ixS 7 (.s 17) (.s 19)),T 23 7 22,I 5 (.box (.v ZT)),M 4 21,N 7 5 23]
def ZfA:=R [1,2,3,17,18,19] [M 24 3,M 25 4,T 26 7 5,I 27 (C ZC2 [(.s 26)]),I 28 (.ixS 7 (.s 24) (.s 25)),N 7 28 27]
def ZfB:=R [1,2,3,17,18,19] [W 29 .add 19 1,M 19 29]
def Zb3:PC:=(D Ze8
 (D (E 20
 .skip
 (.exit 0))
 (D (.block 1
 (D Ze9
 ZfA))
 ZfB)))
def Zb4:=R [1,2] [M 30 3,F 31 6 1,N 1 31 30]
def Zb5:=R [2] [T 32 7 1,N 7 2 32]
def ZYq:PF:=⟨false,
 (D Ze2
 (D (D Ze3
 (E 9
 (D Ze4
 (D Ze5
 .ret))
 .skip))
 (D Ze6
 (D (D Ze7
 (.block 0
 (.loop Zb3)))
 (D Zb4
 (D Zb5
 .ret)))))),
 [.c 2 true 7]⟩
theorem Ziu:ck0 false [] ZYq Tryz.f101=some ZYq:=by kernel_rfl
def ZfC:=R [0,2,4,6,7] [I 4 (.box (.s 1)),I 6 (.box (.v ZT)),I 7 (.box (.v ZT)),K 8 0]
def ZfD:=R [0,2,4,6,7,18] [M 17 2,W 18 .eql 17 0]
def ZfE:=R [6,7,8] [I 19 (.build [(.int .u64 0),(.int .i64 0),(.int .i64 0),(.int .i64 0),(.int .i64 0),(.str []),.nils] []),I 20 (.w (.hide [(.s 6)]) (.ld true 7 (.s 4))),J (.w (.plain (.s 6)) (.st 7 (.s 6) (.s 19))),N 7 7 20,K 8 0]
def ZfF:=R [0,2,4,6,7,24] [M 21 2,T 22 7 4,I 23 (C Qu [(.s 22)]),B 24 .eql 21 23]
def ZfG:=R [6,7,8] [T 25 7 4,I 26 (.build [(.int .u64 0),(.int .i64 0),(.int .i64 0),(.int .i64 0),(.int .i64 0),(.str []),.nils] []),N 7 6 25,N 7 7 26,K 8 0]
def ZfH:=R [0,2,4,6,7,29] [F 27 1 4,L 28 27,W 29 .eql 28 0]
def ZfI:=R [2,6,7,9,10] [M 31 0,T 32 7 4,I 33 (C ZAa [(.s 31),(.s 32)]),M 30 33,X 34 30 0,X 35 30 1,M 9 34,M 10 35]
def ZfJ:=R [2,6,7,9,10,37] [M 36 10,W 37 .neq 36 0]
def ZfK:=R [6,7,8] [I 38 (.build [(.int .u64 0),(.int .i64 0),(.int .i64 0),(.int .i64 0),(.int .i64 0),(.str []),.nils] []),I 39 (.build [(.int .u64 0),(.int .i64 0),(.int .i64 0),(.int .i64 0),(.int .i64 0),(.str []),.nils] []),M 40 10,N 7 6 38,N 7 7 39,M 8 40]
def ZfL:=R [6,7,10,11,12] [M 42 9,M 43 2,I 44 (C ZIE [(.s 42),(.s 43)]),M 41 44,X 45 41 0,X 46 41 1,X 47 41 2,M 11 45,M 12 46,M 10 47]
def Zb6:=R [6,7,8] [M 48 11,I 49 (.build [(.int .u64 0),(.int .i64 0),(.int .i64 0),(.int .i64 0),(.int .i64 0),(.str []),.nils] [(5,1,(.s 48))]),M 50 12,I 51 (.build [(.int .u64 0),(.int .i64 0),(.int .i64 0),(.int .i64 0),(.int .i64 0),(.str []),.nils] [(5,1,(.s 50))]),M 52 10,N 7 6 49,N 7 7 51,M 8 52]
def Zb7:=R [0,2,6,7,8,13] [M 54 0,T 55 7 4,I 56 (C YA [(.s 54),(.s 55)]),M 53 56,X 57 53 0,X 58 53 1,M 13 57,M 8 58]
def Zb8:=R [0,2,6,7,8,13,60] [M 59 8,W 60 .neq 59 0]
def Zb9:=R [6,7,8] [I 61 (.build [(.int .u64 0),(.int .i64 0),(.int .i64 0),(.int .i64 0),(.int .i64 0),(.str []),.nils] []),I 62 (.build [(.int .u64 0),(.int .i64 0),(.int .i64 0),(.int .i64 0),(.int .i64 0),(.str []),.nils] []),M 63 8,N 7 6 61,N 7 7 62,M 8 63]
def ZcA:=R [0,2,6,7,13,14] [K 14 0]
def ZcB:=R [0,2,6,7,13,14,77] [M 64 14,W 65 .add 64 1,M 66 13,I 67 (.len 1 (.s 66)),B 68 .lss 65 67,M 69 68,U 70 69 true 2,U 71 69 true 13,U 72 69 true 14,G 73 69 true (.ixS 7 (.s 71) (.s 72)),G 74 69 true (.ld true 7 (.s 73)),G 75 69 true (C Qu [(.s 74)]),G 76 69 true (.bin .geq (.s 70) (.s 75)),I 77 (.pick (.s 69) (.s 76) (.v (.bool false)))]
def ZcC:=R [0,2,6,7,13,14] [M 78 2,M 79 13,M 80 14,I 81 (.ixS 7 (.s 79) (.s 80)),T 82 7 81,I 83 (C Qu [(.s 82)]),B 84 .sub 78 83,M 2 84]
def ZcD:=R [0,2,6,7,13,14] [M 85 14,W 86 .add 85 1,M 14 86]
def ZKx:PC:=(D (D ZcB
 (E 77
 .skip
 (.exit 0)))
 (.block 1
 (D ZcC
 ZcD)))
def ZcE:=R [0,2,6,7,13,14,88] [M 87 2,W 88 .eql 87 0]
def ZcF:=R [6,7,8] [M 89 13,M 90 14,I 91 (.slc 7 (.s 89) none (some (.s 90))),I 92 (.call .pure (.v (.func (.func QP) [] [])) [(.s 91)]),M 93 13,M 94 14,I 95 (.slc 7 (.s 93) (some (.s 94)) none),I 96 (C QP [(.s 95)]),N 7 6 92,N 7 7 96,K 8 0]
def ZcG:=R [0,6,7,8,13,14,15,16] [M 98 0,M 99 13,M 100 14,I 101 (.ixS 7 (.s 99) (.s 100)),T 102 7 101,M 103 2,I 104 (C ZBA [(.s 98),(.s 102),(.s 103)]),M 97 104,X 105 97 0,X 106 97 1,X 107 97 2,I 15 (.box (.v ZT)),I 16 (.box (.v ZT)),N 7 15 105,N 7 16 106,M 8 107]
def ZcH:=R [0,6,7,8,13,14,15,16,109] [M 108 8,W 109 .neq 108 0]
def ZcI:=R [6,7,8] [I 110 (.build [(.int .u64 0),(.int .i64 0),(.int .i64 0),(.int .i64 0),(.int .i64 0),(.str []),.nils] []),I 111 (.build [(.int .u64 0),(.int .i64 0),(.int .i64 0),(.int .i64 0),(.int .i64 0),(.str []),.nils] []),M 112 8,N 7 6 110,N 7 7 111,M 8 112]
def ZcJ:=R [0,6,7,8,13,14,16] [M 114 0,M 115 13,M 116 14,I 117 (.slc 7 (.s 115) none (some (.s 116))),I 118 (.call .pure (.v (.func (.func QP) [] [])) [(.s 117)]),T 119 7 15,I 120 (C Y4 [(.s 114),(.s 118),(.s 119)]),M 113 120,X 121 113 0,X 122 113 1,N 7 6 121,M 8 122]
def ZcK:=R [0,6,7,8,13,14,16,124] [M 123 8,W 124 .neq 123 0]
def ZcL:=R [6,7,8] [I 125 (.build [(.int .u64 0),(.int .i64 0),(.int .i64 0),(.int .i64 0),(.int .i64 0),(.str []),.nils] []),I 126 (.build [(.int .u64 0),(.int .i64 0),(.int .i64 0),(.int .i64 0),(.int .i64 0),(.str []),.nils] []),M 127 8,N 7 6 125,N 7 7 126,M 8 127]
def ZcM:=R [6,7,8] [M 129 0,T 130 7 16,M 131 13,M 132 14,W 133 .add 132 1,I 134 (.slc 7 (.s 131) (some (.s 133)) none),I 135 (.call .pure (.v (.func (.func QP) [] [])) [(.s 134)]),I 136 (C Y4 [(.s 129),(.s 130),(.s 135)]),M 128 136,X 137 128 0,X 138 128 1,N 7 7 137,M 8 138]
def ZcN:=R [6,7,8,140] [M 139 8,W 140 .neq 139 0]
def ZcO:=R [6,7,8] [I 141 (.build [(.int .u64 0),(.int .i64 0),(.int .i64 0),(.int .i64 0),(.int .i64 0),(.str []),.nils] []),I 142 (.build [(.int .u64 0),(.int .i64 0),(.int .i64 0),(.int .i64 0),(.int .i64 0),(.str []),.nils] []),M 143 8,N 7 6 141,N 7 7 142,M 8 143]
def ZcP:=R [6,7,8] [T 144 7 6,I 145 (.w (.hide [(.s 6)]) (.ld true 7 (.s 7))),J (.w (.plain (.s 6)) (.st 7 (.s 6) (.s 144))),N 7 7 145,K 8 0]
def ZYr:PF:=⟨false,
 (D ZfC
 (D (D ZfD
 (E 18
 (D ZfE
 .ret)
 .skip))
 (D (D ZfF
 (E 24
 (D ZfG
 .ret)
 .skip))
 (D (D ZfH
 (E 29
 (D ZfI
 (D (D ZfJ
 (E 37
 (D ZfK
 .ret)
 .skip))
 (D ZfL
 (D Zb6
 .ret))))
 .skip))
 (D Zb7
 (D (D Zb8
 (E 60
 (D Zb9
 .ret)
 .skip))
 (D ZcA
 (D (.block 0
 (.loop ZKx))
 (D (D ZcE
 (E 88
 (D ZcF
 .ret)
 .skip))
 (D ZcG
 (D (D ZcH
 (E 109
 (D ZcI
 .ret)
 .skip))
 (D (D ZcJ
 (D ZcK
 (E 124
 (D ZcL
 .ret)
 .skip)))
 (D (D ZcM
 (D ZcN
 (E 140
 (D ZcO
 .ret)
 .skip)))
 (D ZcP
 .ret)))))))))))))),
 [.c 6 true 7,.c 7 true 7,.s 8]⟩
theorem Ziw:ck0 false [(2,⟨[6,7,8],[],[],[],[(1,(.hide [(.s 6)])),(2,(.plain (.s 6)))],[]⟩),(19,⟨[6,7,8],[],[(3,.pure)],[],[],[]⟩),(23,⟨[0,6,7,8,13,14,16],[],[(4,.pure)],[],[],[]⟩),(26,⟨[6,7,8],[],[(6,.pure)],[],[],[]⟩),(29,⟨[6,7,8],[],[],[],[(1,(.hide [(.s 6)])),(2,(.plain (.s 6)))],[]⟩)] ZYr Tryz.f102=some ZYr:=by kernel_rfl
def ZUA:=R [0,4,5,6] [I 4 (.box (.s 1)),I 5 (.box (.s 2)),I 6 (.box (.v ZT)),K 7 0]
def ZUB:=R [0,4,5,6,12] [T 10 7 4,I 11 (C Qn [(.s 10)]),W 12 .eql 11 1]
def ZUC:=R [6,7] [T 13 7 5,N 7 6 13,K 7 0]
def ZUD:=R [0,4,5,6,16] [T 14 7 5,I 15 (C Qn [(.s 14)]),W 16 .eql 15 1]
def ZUE:=R [6,7] [T 17 7 4,N 7 6 17,K 7 0]
def ZUF:=R [6,8,9] [M 19 0,T 20 7 4,T 21 7 5,I 22 (C ZAk [(.s 19),(.s 20),(.s 21)]),M 18 22,X 23 18 0,X 24 18 1,M 8 23,M 9 24]
def ZUG:=R [6,8,9,26] [M 25 9,W 26 .neq 25 0]
def ZUH:=R [6,7] [I 27 (.build [(.int .u64 0),(.int .i64 0),(.int .i64 0),(.int .i64 0),(.int .i64 0),(.str []),.nils] []),M 28 9,N 7 6 27,M 7 28]
def ZUI:=R [6,7] [M 29 8,I 30 (C QP [(.s 29)]),N 7 6 30,K 7 0]
def ZKy:PF:=⟨false,
 (D ZUA
 (D (D ZUB
 (E 12
 (D ZUC
 .ret)
 .skip))
 (D (D ZUD
 (E 16
 (D ZUE
 .ret)
 .skip))
 (D ZUF
 (D (D ZUG
 (E 26
 (D ZUH
 .ret)
 .skip))
 (D ZUI
 .ret)))))),
 [.c 6 true 7,.s 7]⟩
theorem ZcR:ck0 false [] ZKy Tryz.f103=some ZKy:=by kernel_rfl
def ZYs:=R [0,2,3,5] [I 5 (.box (.s 1)),K 8 0]
def ZYt:=R [0,2,3,5,9] [T 14 7 5,I 15 (C Qn [(.s 14)]),M 9 15]
def ZYu:=R [0,2,5,9,30] [M 16 9,W 17 .eql 16 0,M 18 17,U 19 18 false 9,G 20 18 false (.bin .eql (.s 19) (V 1)),I 21 (.pick (.s 18) (.v (.bool true)) (.s 20)),M 22 21,U 23 22 false 2,U 24 22 false 23,G 25 24 true (.fadr 1 (.s 5)),G 26 24 true (.ld false 1 (.s 25)),U 27 24 true 3,G 28 24 true (.bin .neq (.s 26) (.s 27)),G 29 22 false (.pick (.s 24) (.s 28) (.v (.bool false))),I 30 (.pick (.s 22) (.v (.bool true)) (.s 29))]
def ZYv:=R [8] [K 8 23]
def ZYw:=R [0,2,5,32] [M 31 9,W 32 .eql 31 2]
def ZYx:=R [0,2,5,10] [M 33 0,F 34 0 5,L 35 34,F 36 1 5,L 37 36,F 38 2 5,T 39 3 38,I 40 (C ZDw [(.s 33),(.s 35),(.s 37),(.s 39)]),M 10 40]
def ZYy:=R [0,2,5,10,42] [M 41 10,W 42 .neq 41 0]
def ZYz:=R [8] [M 43 10,M 8 43]
def ZY0:=R [0,5,54] [M 44 2,M 45 44,G 46 45 true (.fadr 1 (.s 5)),G 47 45 true (.ld false 1 (.s 46)),G 48 45 true (.bin .eql (.s 47) (V 0)),I 49 (.pick (.s 45) (.s 48) (.v (.bool false))),M 50 49,G 51 50 true (.ld true 7 (.s 5)),G 52 50 true (C Qu [(.s 51)]),G 53 50 true (.bin .lss (.s 52) (V 8)),I 54 (.pick (.s 50) (.s 53) (.v (.bool false)))]
def ZY1:=R [8] [K 8 23]
def ZUJ:=R [0,5,56,57,58] [F 55 6 5,L 56 55,I 57 (.len 1 (.s 56)),K 58 0]
def ZUK:=R [0,5,56,57,58,59] [B 59 .lss 58 57]
def ZUL:=R [0,5,12,56,57,58] [I 60 (.ixS 7 (.s 56) (.s 58)),T 61 7 60,I 12 (.box (.v ZT)),N 7 12 61]
def ZUM:=R [0,5,13,56,57,58] [M 62 0,T 63 7 12,F 64 1 5,L 65 64,W 66 .sub 65 1,I 67 (C ZB7 [(.s 62),(.s 63),(.v (.bool true)),(.s 66)]),M 13 67]
def ZUN:=R [0,5,13,56,57,58,69] [M 68 13,W 69 .neq 68 0]
def ZUO:=R [8] [M 70 13,M 8 70]
def ZUP:=R [0,5,56,57,58] [W 71 .add 58 1,M 58 71]
def ZGm:PC:=(D ZUK
 (D (E 59
 .skip
 (.exit 0))
 (D (.block 1
 (D ZUL
 (D ZUM
 (D ZUN
 (E 69
 (D ZUO
 .ret)
 .skip)))))
 ZUP)))
def ZUQ:=R [8] [K 8 0]
def ZOK:PF:=⟨false,
 (D ZYs
 (D ZYt
 (D (D ZYu
 (E 30
 (D ZYv
 .ret)
 .skip))
 (D (D ZYw
 (E 32
 (D ZYx
 (D ZYy
 (E 42
 (D ZYz
 .ret)
 .skip)))
 .skip))
 (D (D ZY0
 (E 54
 (D ZY1
 .ret)
 .skip))
 (D (D ZUJ
 (.block 0
 (.loop ZGm)))
 (D ZUQ
 .ret))))))),
 [.s 8]⟩
theorem ZfN:ck0 false [] ZOK Tryz.f104=some ZOK:=by kernel_rfl
def ZfO:=R [1] [I 1 (.box (.s 0)),K 2 0]
def ZfP:=R [1,3] [K 3 0]
def ZfQ:=R [1,3,4] [T 7 7 1,I 8 (C Qn [(.s 7)]),M 4 8]
def ZfR:=R [1,3,14] [M 9 4,W 10 .eql 9 3,M 11 10,U 12 11 false 4,G 13 11 false (.bin .eql (.s 12) (V 4)),I 14 (.pick (.s 11) (.v (.bool true)) (.s 13))]
def ZfS:=R [1,3] [K 3 1]
def ZfT:=R [3,16,17,18] [F 15 6 1,L 16 15,I 17 (.len 1 (.s 16)),K 18 0]
def ZfU:=R [3,16,17,18,19] [B 19 .lss 18 17]
def ZfV:=R [3,6,16,17,18] [I 20 (.ixS 7 (.s 16) (.s 18)),T 21 7 20,I 6 (.box (.v ZT)),N 7 6 21]
def ZfW:=R [3,16,17,18] [M 22 3,T 23 7 6,I 24 (C ZBB [(.s 23)]),B 25 .add 22 24,M 3 25]
def ZfX:=R [3,16,17,18] [W 26 .add 18 1,M 18 26]
def ZcS:PC:=(D ZfU
 (D (E 19
 .skip
 (.exit 0))
 (D (.block 1
 (D ZfV
 ZfW))
 ZfX)))
def ZcT:=R [2] [M 27 3,M 2 27]
def ZY2:PF:=⟨false,
 (D ZfO
 (D ZfP
 (D (D ZfQ
 (D ZfR
 (E 14
 ZfS
 .skip)))
 (D (D ZfT
 (.block 0
 (.loop ZcS)))
 (D ZcT
 .ret))))),
 [.s 2]⟩
theorem Ziy:ck0 false [] ZY2 Tryz.f105=some ZY2:=by kernel_rfl
def ZRB:=R [0,3] [I 3 (.box (.s 1)),I 4 (.mv (.v .nilptr))]
def ZRC:=R [0,3,5] [F 11 1 3,L 12 11,F 13 2 3,T 14 3 13,F 15 0 3,L 16 15,I 17 (.build [(.int .u64 0),(.int .i64 0),(.int .i64 0),(.int .i64 0),(.int .i64 0)] [(1,1,(.s 12)),(2,3,(.s 14)),(0,1,(.s 16))]),I 18 (.box (.s 17)),M 5 18]
def ZRD:=R [0,3,5,80] [F 81 0 3,L 82 81,I 83 (.bin .neq (.s 82) (.v (.int .u64 0))),M 84 83,G 85 84 false (.fadr 5 (.s 3)),G 86 84 false (.ld false 1 (.s 85)),G 87 84 false (.bin .eql (.s 86) (.v (.str []))),U 88 84 false 87,G 89 88 true (.fadr 6 (.s 3)),G 90 88 true (.ld false 1 (.s 89)),G 91 88 true (.len 1 (.s 90)),G 92 88 true (.bin .eql (.s 91) (V 0)),G 93 84 false (.pick (.s 88) (.s 92) (.v (.bool false))),I 94 (.pick (.s 84) (.v (.bool true)) (.s 93)),M 80 94]
def ZRE:=R [0,3,5,95] [F 96 1 3,L 97 96,W 98 .eql 97 0,M 95 98]
def ZRF:=R [0,5,6] [F 99 5 3,L 100 99,I 101 (.build [(.int .i64 0),(.str []),.nils] [(1,1,(.s 100))]),I 6 (.box (.v ZN)),N 3 6 101]
def ZRG:=R [0,5,6] [M 103 5,T 104 3 6,I 105 (C Xe [(.s 104)]),M 102 105,X 106 102 0,X 107 102 1,I 108 (.nilck (.s 103)),F 109 2 108,N 3 109 106]
def ZRH:=R [5] [M 110 0,M 111 5,I 112 (.mkf (.func Jy) [] [(.s 6)]),I 113 (C ZAl [(.s 110),(.s 111),(.s 112)])]
def ZRI:=R [0,3,5,7] [I 7 (.boxnil 1)]
def ZRJ:=R [0,3,5,7,20,21,22] [F 19 6 3,L 20 19,I 21 (.len 1 (.s 20)),K 22 0]
def ZRK:=R [0,3,5,7,20,21,22,23] [B 23 .lss 22 21]
def ZOL:=R [0,3,5,7,9,20,21,22] [I 24 (.ixS 7 (.s 20) (.s 22)),T 25 7 24,I 9 (.box (.v ZT)),N 7 9 25]
def ZOM:=R [0,3,5,7,10,20,21,22] [M 26 0,T 27 7 9,I 28 (C Qr [(.s 26),(.s 27)]),M 10 28]
def ZON:=R [0,3,5,7,10,20,21,22] [L 29 7,M 30 10,I 31 (.bslice true 1 [.nilptr] [(0,(.s 30))]),I 32 (.app 1 8 (.s 29) (.s 31)),N 1 7 32]
def ZD1:=R [0,3,5,7,10,20,21,22] [M 33 5,I 34 (.nilck (.s 33)),F 35 2 34,F 36 0 35,L 37 36,M 38 10,I 39 (.nilck (.s 38)),F 40 2 39,F 41 0 40,L 42 41,B 43 .add 37 42,I 44 (.nilck (.s 33)),F 45 2 44,F 46 0 45,N 1 46 43]
def ZD2:=R [0,3,5,7,10,20,21,22] [M 47 5,I 48 (.nilck (.s 47)),F 49 2 48,F 50 1 49,L 51 50,M 52 10,I 53 (.nilck (.s 52)),F 54 2 53,F 55 1 54,L 56 55,B 57 .add 51 56,I 58 (.nilck (.s 47)),F 59 2 58,F 60 1 59,N 1 60 57]
def ZD3:=R [0,3,5,7,20,21,22] [M 61 5,I 62 (.nilck (.s 61)),F 63 2 62,F 64 2 63,L 65 64,M 66 10,I 67 (.nilck (.s 66)),F 68 2 67,F 69 2 68,L 70 69,B 71 .add 65 70,I 72 (.nilck (.s 61)),F 73 2 72,F 74 2 73,N 1 74 71]
def ZOO:=R [0,3,5,7,20,21,22] [W 75 .add 22 1,M 22 75]
def ZOP:PC:=(D ZRK
 (D (E 23
 .skip
 (.exit 1))
 (D (.block 2
 (D ZOL
 (D ZOM
 (D ZON
 (D ZD1
 (D ZD2
 ZD3))))))
 ZOO)))
def ZOQ:=R [5] [M 76 0,M 77 5,I 78 (.mkf (.func JO) [] [(.s 3),(.s 7)]),I 79 (C ZAl [(.s 76),(.s 77),(.s 78)])]
def ZOR:=R [4] [M 114 5,M 4 114]
def ZJB:PF:=⟨true,
 (D ZRB
 (D ZRC
 (D (.block 0
 (D ZRD
 (E 80
 .skip
 (D ZRE
 (E 95
 (D ZRF
 (D ZRG
 ZRH))
 (D ZRI
 (D (D ZRJ
 (.block 1
 (.loop ZOP)))
 ZOQ)))))))
 (D ZOR
 .ret)))),
 [.s 4]⟩
theorem ZY4:ck0 true [(7,⟨[0,3,5,7],[0],[],[],[],[]⟩),(12,⟨[0,3,5,7,10,20,21,22],[2],[],[],[],[]⟩)] ZJB Tryz.f106=some ZJB:=by kernel_rfl
def ZFy:=R [0,1] [I 4 (.mv (.v (.bool false)))]
def ZFz:=R [0,1,8] [M 7 0,I 8 (.eqs false 3 [] (.s 7) (.v .nilptr))]
def ZF0:=R [4] [I 4 (.mv (.v (.bool false)))]
def ZF1:=R [6] [M 10 0,M 11 1,I 12 (C Xc [(.s 10),(.s 11)]),M 9 12,X 13 9 0,X 14 9 1,M 5 13,M 6 14]
def ZF2:=R [4] [M 15 6,M 4 15]
def ZBf:PF:=⟨false,
 (D ZFy
 (D (D ZFz
 (E 8
 (D ZF0
 .ret)
 .skip))
 (D ZF1
 (D ZF2
 .ret)))),
 [.s 4]⟩
theorem ZJD:ck0 false [] ZBf Tryz.f110=some ZBf:=by kernel_rfl
def ZUR:=R [0] [K 2 0,K 3 0]
def ZUS:=R [0,4] [M 7 0,I 8 (C Yj [(.s 7)]),M 4 8]
def ZUT:=R [0,4,10] [M 9 4,W 10 .neq 9 0]
def ZUU:=R [2,3] [M 11 4,K 2 0,M 3 11]
def ZUV:=R [5] [M 13 0,I 14 (C Xf [(.s 13)]),M 12 14,X 15 12 0,X 16 12 1,M 5 15,M 6 16]
def ZUW:=R [2,3] [M 17 5,M 2 17,K 3 0]
def ZKz:PF:=⟨false,
 (D ZUR
 (D (D ZUS
 (D ZUT
 (E 10
 (D ZUU
 .ret)
 .skip)))
 (D ZUV
 (D ZUW
 .ret)))),
 [.s 2,.s 3]⟩
theorem ZcV:ck0 false [] ZKz Tryz.f111=some ZKz:=by kernel_rfl
def ZY5:=R [0] [I 2 (.mv (.v (.int .u64 0))),K 3 0]
def ZY6:=R [0,4] [M 7 0,I 8 (C Yj [(.s 7)]),M 4 8]
def ZY7:=R [0,4,10] [M 9 4,W 10 .neq 9 0]
def ZY8:=R [2,3] [M 11 4,I 2 (.mv (.v (.int .u64 0))),M 3 11]
def ZY9:=R [6] [M 13 0,I 14 (C Xf [(.s 13)]),M 12 14,X 15 12 0,X 16 12 1,M 5 15,M 6 16]
def ZZA:=R [2,3] [M 17 6,M 2 17,K 3 0]
def ZOS:PF:=⟨false,
 (D ZY5
 (D (D ZY6
 (D ZY7
 (E 10
 (D ZY8
 .ret)
 .skip)))
 (D ZY9
 (D ZZA
 .ret)))),
 [.s 2,.s 3]⟩
theorem ZfZ:ck0 false [] ZOS Tryz.f112=some ZOS:=by kernel_rfl
def ZRL:=R [1,2] [I 1 (.box (.s 0)),I 2 (.box (.v ZM)),K 3 0]
def ZRM:=R [1,2,4] [T 5 3 1,I 6 (C ZB8 [(.s 5)]),M 4 6]
def ZRN:=R [1,2,4,8] [M 7 4,W 8 .neq 7 0]
def ZRO:=R [2,3] [I 9 (.build [(.int .i64 0),(.int .i64 0),(.int .i64 0)] []),M 10 4,N 3 2 9,M 3 10]
def ZRP:=R [2,3] [T 11 3 1,I 12 (C ZC3 [(.s 11)]),N 3 2 12,K 3 0]
def ZJE:PF:=⟨false,
 (D ZRL
 (D (D ZRM
 (D ZRN
 (E 8
 (D ZRO
 .ret)
 .skip)))
 (D ZRP
 .ret))),
 [.c 2 true 3,.s 3]⟩
theorem ZZC:ck0 false [] ZJE Tryz.f113=some ZJE:=by kernel_rfl
def ZUX:=R [1,2,3,4] [I 4 (.box (.s 0))]
def ZUY:=R [1,2,3,4,16] [F 7 0 4,L 8 7,I 9 (.bin .neq (.s 8) (.v (.int .u64 0))),M 10 9,G 11 10 true (.ld false 1 (.s 1)),G 12 10 true (.fadr 0 (.s 4)),G 13 10 true (.ld false 1 (.s 12)),G 14 10 true (.look 0 (.bool false) false (.s 11) (.s 13)),G 15 10 true (.un .not (.s 14)),I 16 (.pick (.s 10) (.s 15) (.v (.bool false)))]
def ZUZ:=R [2,3,4] [L 17 1,F 18 0 4,L 19 18,J (.mupd 0 (.s 17) (.s 19) (.v (.bool true)))]
def ZUa:=R [3,4] [L 20 2,F 21 0 4,L 22 21,I 23 (.bslice false 1 [(.int .u64 0)] [(0,(.s 22))]),I 24 (.app 1 8 (.s 20) (.s 23)),N 1 2 24]
def ZGn:=R [3,26,27,28] [F 25 6 4,L 26 25,I 27 (.len 1 (.s 26)),K 28 0]
def ZUb:=R [3,26,27,28,29] [B 29 .lss 28 27]
def ZUc:=R [3,6,26,27,28] [I 30 (.ixS 7 (.s 26) (.s 28)),T 31 7 30,I 6 (.box (.v ZT)),N 7 6 31]
def ZUd:=R [3,26,27,28] [L 32 3,T 33 7 6,I 34 (.call .norm (.s 32) [(.s 33)])]
def ZUe:=R [3,26,27,28] [W 35 .add 28 1,M 28 35]
def ZBu:PC:=(D ZUb
 (D (E 29
 .skip
 (.exit 0))
 (D (.block 1
 (D ZUc
 ZUd))
 ZUe)))
def ZK0:PF:=⟨false,
 (D ZUX
 (D (D ZUY
 (E 16
 (D ZUZ
 ZUa)
 .skip))
 (D ZGn
 (.block 0
 (.loop ZBu))))),
 []⟩
theorem ZcX:ck0 false [] ZK0 Tryz.f115=some ZK0:=by kernel_rfl
def ZUf:=R [1,2] [I 2 (.box (.s 0)),I 4 (.mv (.v .nils))]
def ZUg:=R [1,2,10] [L 9 2,W 10 .eql 9 0]
def ZUh:=R [4] [I 4 (.mv (.v .nils))]
def ZUi:=R [1,2,5] [L 11 2,M 12 1,B 13 .quo 11 12,I 5 (.box (V 0)),N 1 5 13]
def ZUj:=R [2,5,17] [L 14 2,M 15 1,B 16 .rem 14 15,W 17 .gtr 16 0]
def ZUk:=R [2,5] [L 18 5,W 19 .add 18 1,N 1 5 19]
def ZUl:=R [5,6] [I 20 (.mkf (.func YB) [] [(.s 2),(.s 5)]),M 6 20]
def ZUm:=R [5,6,7] [L 21 5,I 22 (.mkslice 1 8 (.int .i64 0) (.s 21) (.s 21)),M 7 22]
def ZUn:=R [6,7,23,24] [L 23 5,K 24 0]
def ZUo:=R [6,7,23,24,25] [B 25 .lss 24 23]
def ZRQ:=R [6,7,8,23,24] [M 26 24,M 8 26]
def ZRR:=R [6,7,23,24] [M 27 7,M 28 8,M 29 6,M 30 8,I 31 (.call .norm (.s 29) [(.s 30)]),I 32 (.ixS 1 (.s 27) (.s 28)),N 1 32 31]
def ZRS:=R [6,7,23,24] [W 33 .add 24 1,M 24 33]
def ZEx:PC:=(D ZUo
 (D (E 25
 .skip
 (.exit 0))
 (D (.block 1
 (D ZRQ
 ZRR))
 ZRS)))
def ZRT:=R [4] [M 34 7,M 4 34]
def ZK1:PF:=⟨false,
 (D ZUf
 (D (D ZUg
 (E 10
 (D ZUh
 .ret)
 .skip))
 (D ZUi
 (D (D ZUj
 (E 17
 ZUk
 .skip))
 (D ZUl
 (D ZUm
 (D (D ZUn
 (.block 0
 (.loop ZEx)))
 (D ZRT
 .ret)))))))),
 [.s 4]⟩
theorem ZcZ:ck0 false [] ZK1 Tryz.f116=some ZK1:=by kernel_rfl
def Zca:=R [0,1] [I 4 (.mv (.v (.str []))),I 5 (.mv (.v (.str []))),K 6 0]
def Zcb:=R [0,1,9] [M 7 0,I 8 (C ZAm [(.s 7)]),I 9 (.un .not (.s 8))]
def Zcc:=R [4,5,6] [I 4 (.mv (.v (.str []))),I 5 (.mv (.v (.str []))),K 6 2]
def Zcd:=R [0,1,17] [M 10 1,W 11 .lss 10 0,M 12 11,U 13 12 false 1,U 14 12 false 0,G 15 12 false (.len 0 (.s 14)),G 16 12 false (.bin .gtr (.s 13) (.s 15)),I 17 (.pick (.s 12) (.v (.bool true)) (.s 16))]
def Zce:=R [4,5,6] [I 4 (.mv (.v (.str []))),I 5 (.mv (.v (.str []))),K 6 3]
def Zcf:=R [4,5,6] [M 18 0,M 19 1,I 20 (.slcS (.s 18) none (some (.s 19))),M 21 0,M 22 1,I 23 (.slcS (.s 21) (some (.s 22)) none),M 4 20,M 5 23,K 6 0]
def ZSg:PF:=⟨false,
 (D Zca
 (D (D Zcb
 (E 9
 (D Zcc
 .ret)
 .skip))
 (D (D Zcd
 (E 17
 (D Zce
 .ret)
 .skip))
 (D Zcf
 .ret)))),
 [.s 4,.s 5,.s 6]⟩
theorem ZhO:ck0 false [] ZSg Tryz.f117=some ZSg:=by kernel_rfl
def ZZD:=R [0,4,5] [I 4 (.box (.s 1)),I 5 (.box (.s 2)),I 6 (.mv (.v .nils)),K 7 0]
def ZZE:=R [0,4,5,22] [F 15 1 4,L 16 15,W 17 .eql 16 0,M 18 17,G 19 18 true (.fadr 1 (.s 5)),G 20 18 true (.ld false 1 (.s 19)),G 21 18 true (.bin .eql (.s 20) (V 0)),I 22 (.pick (.s 18) (.s 21) (.v (.bool false)))]
def ZZF:=R [6,7] [M 23 0,T 24 7 4,T 25 7 5,I 26 (C ZEG [(.s 23),(.s 24),(.s 25)]),X 27 26 0,X 28 26 1,M 6 27,M 7 28]
def ZZG:=R [0,4,5,8,9] [I 8 (.mv (.v .nils)),I 9 (.mv (.v .nils))]
def ZZH:=R [0,4,5,8,9] [K 10 0]
def ZZI:=R [0,4,5,8,9,33] [F 29 1 4,L 30 29,F 31 1 5,L 32 31,B 33 .geq 30 32]
def ZZJ:=R [0,4,5,8,9,10] [M 35 0,T 36 7 4,I 37 (C YA [(.s 35),(.s 36)]),M 34 37,X 38 34 0,X 39 34 1,M 8 38,M 10 39]
def ZZK:=R [0,4,5,8,9,10,41] [M 40 10,W 41 .neq 40 0]
def ZZL:=R [6,7] [M 42 10,I 6 (.mv (.v .nils)),M 7 42]
def ZZM:=R [0,4,5,8,9,47] [F 43 1 5,L 44 43,F 45 1 4,L 46 45,B 47 .geq 44 46]
def ZUp:=R [0,4,5,8,9,10] [M 49 0,T 50 7 5,I 51 (C YA [(.s 49),(.s 50)]),M 48 51,X 52 48 0,X 53 48 1,M 9 52,M 10 53]
def ZUq:=R [0,4,5,8,9,10,55] [M 54 10,W 55 .neq 54 0]
def ZUr:=R [6,7] [M 56 10,I 6 (.mv (.v .nils)),M 7 56]
def ZUs:=R [0,4,5,8,9,57] [F 58 1 4,L 59 58,F 60 1 5,L 61 60,B 62 .eql 59 61,M 63 62,U 64 63 true 8,G 65 63 true (.len 1 (.s 64)),U 66 63 true 9,G 67 63 true (.len 1 (.s 66)),G 68 63 true (.bin .add (.s 65) (.s 67)),G 69 63 true (.bin .leq (.s 68) (V 4)),I 70 (.pick (.s 63) (.s 69) (.v (.bool false))),M 57 70]
def ZUt:=R [6,7] [I 71 (.bslice false 7 [] []),M 72 8,I 73 (.app 7 80 (.s 71) (.s 72)),M 74 9,I 75 (.app 7 80 (.s 73) (.s 74)),I 76 (C QP [(.s 75)]),I 77 (.bslice false 7 [ZT] [(0,(.s 76))]),M 6 77,K 7 0]
def ZUu:=R [0,4,5,8,9,78] [F 79 1 4,L 80 79,F 81 1 5,L 82 81,B 83 .eql 80 82,M 78 83]
def ZUv:=R [6,7] [T 84 7 4,T 85 7 5,I 86 (.bslice false 7 [ZT,ZT] [(0,(.s 84)),(1,(.s 85))]),M 6 86,K 7 0]
def ZUw:=R [0,4,5,8,9,87] [F 88 1 4,L 89 88,F 90 1 5,L 91 90,B 92 .gtr 89 91,M 87 92]
def ZUx:=R [0,5,8,11] [M 93 8,I 94 (.len 1 (.s 93)),W 95 .sub 94 1,M 11 95]
def ZUy:=R [8,11,12,13] [M 97 0,M 98 8,M 99 11,I 100 (.ixS 7 (.s 98) (.s 99)),T 101 7 100,T 102 7 5,I 103 (C ZAk [(.s 97),(.s 101),(.s 102)]),M 96 103,X 104 96 0,X 105 96 1,M 12 104,M 13 105]
def ZUz:=R [8,11,12,13,107] [M 106 13,W 107 .neq 106 0]
def ZU0:=R [6,7] [M 108 13,I 6 (.mv (.v .nils)),M 7 108]
def ZU1:=R [6,7] [I 109 (.bslice false 7 [] []),M 110 8,M 111 11,I 112 (.slc 7 (.s 110) none (some (.s 111))),I 113 (.app 7 80 (.s 109) (.s 112)),M 114 12,I 115 (.app 7 80 (.s 113) (.s 114)),I 116 (C ZDy [(.s 115)]),M 6 116,K 7 0]
def ZU2:=R [9,10,14] [M 118 0,T 119 7 4,M 120 9,I 121 (.ixS 7 (.s 120) (V 0)),T 122 7 121,I 123 (C ZAk [(.s 118),(.s 119),(.s 122)]),M 117 123,X 124 117 0,X 125 117 1,M 14 124,M 10 125]
def ZU3:=R [9,10,14,127] [M 126 10,W 127 .neq 126 0]
def ZU4:=R [6,7] [M 128 10,I 6 (.mv (.v .nils)),M 7 128]
def ZU5:=R [6,7] [I 129 (.w .imm (.bslice false 7 [] [])),M 130 14,I 131 (.w .app0 (.app 7 80 (.s 129) (.s 130))),M 132 9,I 133 (.w .blind (.slc 7 (.s 132) (some (V 1)) none)),I 134 (.app 7 80 (.s 131) (.s 133)),I 135 (C ZDy [(.s 134)]),M 6 135,K 7 0]
def ZOT:PF:=⟨false,
 (D ZZD
 (D (D ZZE
 (E 22
 (D ZZF
 .ret)
 .skip))
 (D ZZG
 (D ZZH
 (D (D ZZI
 (E 33
 (D ZZJ
 (D ZZK
 (E 41
 (D ZZL
 .ret)
 .skip)))
 .skip))
 (D (D ZZM
 (E 47
 (D ZUp
 (D ZUq
 (E 55
 (D ZUr
 .ret)
 .skip)))
 .skip))
 (D (.block 0
 (D ZUs
 (E 57
 (D ZUt
 .ret)
 (D ZUu
 (E 78
 (D ZUv
 .ret)
 (D ZUw
 (E 87
 (D ZUx
 (D ZUy
 (D (D ZUz
 (E 107
 (D ZU0
 .ret)
 .skip))
 (D ZU1
 .ret))))
 .skip)))))))
 (D ZU2
 (D (D ZU3
 (E 127
 (D ZU4
 .ret)
 .skip))
 (D ZU5
 .ret)))))))))),
 [.s 6,.s 7]⟩
theorem Zfb:ck0 false [(26,⟨[6,7],[],[],[],[(4,.blind),(2,.app0),(0,.imm)],[]⟩)] ZOT Tryz.f118=some ZOT:=by kernel_rfl
def ZRU:=R [3,4,5] [I 3 (.box (.s 0)),I 4 (.box (.s 1)),I 5 (.box (.s 2))]
def ZRV:=R [] [I 6 (.w (.only (.s 3)) (.ld false 1 (.s 3))),L 7 3,I 8 (.nilck (.s 7)),F 9 1 8,L 10 9,I 11 (.mkf (.func Xs) [] [(.s 3),(.s 5),(.s 4)]),I 12 (.bslice true 1 [.nilfunc] [(0,(.s 11))]),I 13 (.w (.grow (.s 3)) (.app 1 8 (.s 10) (.s 12))),I 14 (.nilck (.s 6)),F 15 1 14,N 1 15 13]
def ZJF:PF:=⟨true,
 (D ZRU
 ZRV),
 []⟩
theorem ZZO:ck0 true [(1,⟨[],[6],[],[],[(0,(.only (.s 3))),(7,(.grow (.s 3)))],[]⟩)] ZJF Tryz.f119=some ZJF:=by kernel_rfl
def ZLy:=R [0,1] [I 1 (.box (.v ZN))]
def ZLz:=R [1] [T 2 3 0,N 3 1 2]
def ZEy:PF:=⟨false,
 (D ZLy
 (D ZLz
 .ret)),
 [.c 1 true 3]⟩
theorem ZRX:ck0 false [] ZEy Tryz.f120=some ZEy:=by kernel_rfl
def ZL0:=R [0,1,2] [I 2 (.box (.v ZN))]
def ZL1:=R [1,2,3] [F 6 1 0,L 7 6,I 8 (.build [(.int .i64 0),(.str []),.nils] [(0,1,(.s 7))]),I 3 (.box (.v ZN)),N 3 3 8]
def ZL2:=R [2,3,9,10,11] [L 9 1,I 10 (.len 1 (.s 9)),K 11 0]
def ZL3:=R [2,3,9,10,11,12] [B 12 .lss 11 10]
def ZL4:=R [2,3,5,9,10,11] [I 13 (.ixS 1 (.s 9) (.s 11)),L 14 13,M 5 14]
def ZL5:=R [2,3,9,10,11] [F 15 2 3,L 16 15,M 17 5,I 18 (.nilck (.s 17)),F 19 0 18,L 20 19,M 21 5,I 22 (.nilck (.s 21)),F 23 2 22,T 24 3 23,I 25 (.build [(.int .u64 0),(.int .i64 0),(.int .i64 0),(.int .i64 0)] [(0,1,(.s 20)),(1,3,(.s 24))]),I 26 (.w .imm (.bslice false 4 [ZK] [(0,(.s 25))])),I 27 (.app 4 32 (.s 16) (.s 26)),F 28 2 3,N 1 28 27]
def ZL6:=R [2,3,9,10,11] [W 29 .add 11 1,M 11 29]
def ZL7:PC:=(D ZL3
 (D (E 12
 .skip
 (.exit 0))
 (D (.block 1
 (D ZL4
 ZL5))
 ZL6)))
def ZL8:=R [2] [T 30 3 3,N 3 2 30]
def ZEz:PF:=⟨false,
 (D ZL0
 (D ZL1
 (D (D ZL2
 (.block 0
 (.loop ZL7)))
 (D ZL8
 .ret)))),
 [.c 2 true 3]⟩
theorem ZRZ:ck0 false [(5,⟨[2,3,9,10,11],[],[],[],[(11,.imm)],[]⟩)] ZEz Tryz.f121=some ZEz:=by kernel_rfl
def ZRa:=R [0] [K 2 0]
def ZRb:=R [3,4] [M 6 0,I 7 (C Xf [(.s 6)]),M 5 7,X 8 5 0,X 9 5 1,M 3 8,M 4 9]
def ZRc:=R [19] [M 10 3,W 11 .geq 10 16384,M 12 11,U 13 12 false 4,G 14 12 false (.bin .lss (.s 13) (.v (.int .u64 1))),I 15 (.pick (.s 12) (.v (.bool true)) (.s 14)),M 16 15,U 17 16 false 4,G 18 16 false (.bin .gtr (.s 17) (.v (.int .u64 4294967295))),I 19 (.pick (.s 16) (.v (.bool true)) (.s 18))]
def ZRd:=R [2] [K 2 2]
def ZRe:=R [2] [K 2 0]
def ZJG:PF:=⟨false,
 (D ZRa
 (D (D ZRb
 (D ZRc
 (E 19
 (D ZRd
 .ret)
 .skip)))
 (D ZRe
 .ret))),
 [.s 2]⟩
theorem ZZQ:ck0 false [] ZJG Tryz.f132=some ZJG:=by kernel_rfl
def ZRf:=R [0] [K 2 0,I 3 (.mv (.v (.int .u64 0)))]
def ZRg:=R [2,3] [M 4 0,I 5 (.bin .and (.s 4) (.v (.int .u64 65535))),I 6 (.cint .i64 (.s 5)),M 7 0,I 8 (.bin .shr (.s 7) (.v (.int .u64 16))),M 2 6,M 3 8]
def ZJH:PF:=⟨false,
 (D ZRf
 (D ZRg
 .ret)),
 [.s 2,.s 3]⟩
theorem ZZS:ck0 false [] ZJH Tryz.f133=some ZJH:=by kernel_rfl
def ZZT:=R [1] [I 1 (.box (.s 0)),K 2 0]
def ZZU:=R [1,5] [T 3 3 1,I 4 (C ZBR [(.s 3)]),I 5 (.un .not (.s 4))]
def ZZV:=R [2] [K 2 23]
def ZZW:=R [9] [T 6 3 1,I 7 (C ZC3 [(.s 6)]),I 8 (.fld false 0 1 (.s 7)),W 9 .gtr 8 65536]
def ZZX:=R [2] [K 2 5]
def ZZY:=R [2] [K 2 0]
def ZOU:PF:=⟨false,
 (D ZZT
 (D (D ZZU
 (E 5
 (D ZZV
 .ret)
 .skip))
 (D (D ZZW
 (E 9
 (D ZZX
 .ret)
 .skip))
 (D ZZY
 .ret)))),
 [.s 2]⟩
theorem Zfd:ck0 false [] ZOU Tryz.f134=some ZOU:=by kernel_rfl
def Zfe:=R [1,2] [I 1 (.box (.s 0)),I 2 (.box (.v ZM))]
def Zff:=R [1,2,8] [F 6 0 1,L 7 6,W 8 .eql 7 0]
def Zfg:=R [2] [F 9 1 1,L 10 9,I 11 (C ZFT [(.s 10)]),N 3 2 11]
def Zfh:=R [1,2,3] [I 3 (.onil 3)]
def Zfi:=R [2,3,13,14,15] [F 12 2 1,L 13 12,I 14 (.len 1 (.s 13)),K 15 0]
def Zfj:=R [2,3,13,14,15,16] [B 16 .lss 15 14]
def Zfk:=R [2,3,5,13,14,15] [I 17 (.ixS 4 (.s 13) (.s 15)),T 18 4 17,I 5 (.box (.v ZK)),N 4 5 18]
def Zfl:=R [2,3,13,14,15] [M 19 3,F 20 1 5,T 21 3 20,I 22 (.bslice false 3 [ZM] [(0,(.s 21))]),I 23 (.app 3 24 (.s 19) (.s 22)),M 3 23]
def Zfm:=R [2,3,13,14,15] [W 24 .add 15 1,M 15 24]
def Zfn:PC:=(D Zfj
 (D (E 16
 .skip
 (.exit 0))
 (D (.block 1
 (D Zfk
 Zfl))
 Zfm)))
def Zcg:=R [2] [M 25 3,I 26 (C ZEH [(.s 25)]),N 3 2 26]
def ZZZ:PF:=⟨false,
 (D Zfe
 (D (D Zff
 (E 8
 (D Zfg
 .ret)
 .skip))
 (D Zfh
 (D (D Zfi
 (.block 0
 (.loop Zfn)))
 (D Zcg
 .ret))))),
 [.c 2 true 3]⟩
theorem Zi0:ck0 false [(3,⟨[1,2,3],[0],[],[],[],[]⟩)] ZZZ Tryz.f135=some ZZZ:=by kernel_rfl
def ZOV:=R [0,1,2] [K 4 0]
def ZOW:=R [1,2,9] [M 5 0,L 6 1,L 7 2,B 8 .rem 6 7,B 9 .lss 5 8]
def ZOX:=R [4] [L 10 1,L 11 2,B 12 .quo 10 11,W 13 .add 12 1,M 4 13]
def ZOY:=R [4] [L 14 1,L 15 2,B 16 .quo 14 15,M 4 16]
def ZGo:PF:=⟨false,
 (D ZOV
 (D (D ZOW
 (E 9
 (D ZOX
 .ret)
 .skip))
 (D ZOY
 .ret))),
 [.s 4]⟩
theorem ZU7:ck0 false [] ZGo Tryz.f136=some ZGo:=by kernel_rfl
def ZZa:=R [0] [I 2 (.mv (.v (.bool false)))]
def ZZb:=R [2] [M 3 0,I 4 (.len 0 (.s 3)),W 5 .geq 4 1,M 6 5,U 7 6 true 0,G 8 6 true (.len 0 (.s 7)),G 9 6 true (.bin .leq (.s 8) (V 16)),I 10 (.pick (.s 6) (.s 9) (.v (.bool false))),M 2 10]
def ZOZ:PF:=⟨false,
 (D ZZa
 (D ZZb
 .ret)),
 [.s 2]⟩
theorem Zfp:ck0 false [] ZOZ Tryz.f137=some ZOZ:=by kernel_rfl
def ZU8:=R [0,4,5] [I 4 (.box (.s 1)),I 5 (.box (.s 2)),I 6 (.mv (.v .nils)),K 7 0]
def ZU9:=R [0,4,5,8,9] [T 17 7 4,I 18 (.call .pure (.v (.func (.func Qu) [] [])) [(.s 17)]),T 19 7 5,I 20 (C Qu [(.s 19)]),M 8 18,M 9 20]
def ZVA:=R [0,4,5,32] [M 21 8,M 22 9,B 23 .add 21 22,W 24 .gtr 23 16,M 25 24,U 26 25 true 8,G 27 25 true (.bin .geq (.s 26) (V 8)),I 28 (.pick (.s 25) (.s 27) (.v (.bool false))),M 29 28,U 30 29 true 9,G 31 29 true (.bin .geq (.s 30) (V 8)),I 32 (.pick (.s 29) (.s 31) (.v (.bool false)))]
def ZVB:=R [6,7] [T 33 7 4,T 34 7 5,I 35 (.bslice false 7 [ZT,ZT] [(0,(.s 33)),(1,(.s 34))]),M 6 35,K 7 0]
def ZVC:=R [0,5,10,11] [M 37 0,T 38 7 4,I 39 (C ZAa [(.s 37),(.s 38)]),M 36 39,X 40 36 0,X 41 36 1,M 10 40,M 11 41]
def ZVD:=R [0,5,10,11,43] [M 42 11,W 43 .neq 42 0]
def ZVE:=R [6,7] [M 44 11,I 6 (.mv (.v .nils)),M 7 44]
def ZVF:=R [10,11,12] [M 46 0,T 47 7 5,I 48 (C ZAa [(.s 46),(.s 47)]),M 45 48,X 49 45 0,X 50 45 1,M 12 49,M 11 50]
def ZVG:=R [10,11,12,52] [M 51 11,W 52 .neq 51 0]
def ZVH:=R [6,7] [M 53 11,I 6 (.mv (.v .nils)),M 7 53]
def ZRh:=R [11,13] [M 55 10,M 56 12,I 57 (C ZFU [(.s 55),(.s 56)]),M 54 57,X 58 54 0,X 59 54 1,M 13 58,M 11 59]
def ZRi:=R [11,13,61] [M 60 11,W 61 .neq 60 0]
def ZRj:=R [6,7] [M 62 11,I 6 (.mv (.v .nils)),M 7 62]
def ZRk:=R [13,14] [I 14 (.onil 7)]
def ZRl:=R [14,63,64,65] [M 63 13,I 64 (.len 1 (.s 63)),K 65 0]
def ZRm:=R [14,63,64,65,66] [B 66 .lss 65 64]
def ZRn:=R [14,16,63,64,65] [I 67 (.ixS 1 (.s 63) (.s 65)),L 68 67,M 16 68]
def ZRo:=R [14,63,64,65] [M 69 14,M 70 16,I 71 (.build [(.int .u64 0),(.int .i64 0),(.int .i64 0),(.int .i64 0),(.int .i64 0),(.str []),.nils] [(5,1,(.s 70))]),I 72 (.bslice false 7 [ZT] [(0,(.s 71))]),I 73 (.app 7 80 (.s 69) (.s 72)),M 14 73]
def ZRp:=R [14,63,64,65] [W 74 .add 65 1,M 65 74]
def ZE0:PC:=(D ZRm
 (D (E 66
 .skip
 (.exit 0))
 (D (.block 1
 (D ZRn
 ZRo))
 ZRp)))
def ZRq:=R [6,7] [M 75 14,M 6 75,K 7 0]
def ZK2:PF:=⟨false,
 (D ZU8
 (D ZU9
 (D (D ZVA
 (E 32
 (D ZVB
 .ret)
 .skip))
 (D ZVC
 (D (D ZVD
 (E 43
 (D ZVE
 .ret)
 .skip))
 (D ZVF
 (D (D ZVG
 (E 52
 (D ZVH
 .ret)
 .skip))
 (D ZRh
 (D (D ZRi
 (E 61
 (D ZRj
 .ret)
 .skip))
 (D ZRk
 (D (D ZRl
 (.block 0
 (.loop ZE0)))
 (D ZRq
 .ret)))))))))))),
 [.s 6,.s 7]⟩
theorem Zci:ck0 false [(1,⟨[0,4,5,8,9],[],[(1,.pure)],[],[],[]⟩),(13,⟨[13,14],[0],[],[],[],[]⟩)] ZK2 Tryz.f138=some ZK2:=by kernel_rfl
def Zcj:=R [0] [I 2 (.mv (.v .nils))]
def Zck:=R [0,6] [M 4 0,I 5 (.len 1 (.s 4)),W 6 .leq 5 4]
def Zcl:=R [2] [M 7 0,I 8 (C QP [(.s 7)]),I 9 (.bslice false 7 [ZT] [(0,(.s 8))]),M 2 9]
def Zcm:=R [0,3] [M 10 0,I 11 (.len 1 (.s 10)),W 12 .add 11 1,W 13 .quo 12 2,M 3 13]
def Zcn:=R [2] [M 14 0,M 15 3,I 16 (.slc 7 (.s 14) none (some (.s 15))),I 17 (.call .pure (.v (.func (.func QP) [] [])) [(.s 16)]),M 18 0,M 19 3,I 20 (.slc 7 (.s 18) (some (.s 19)) none),I 21 (C QP [(.s 20)]),I 22 (.bslice false 7 [ZT,ZT] [(0,(.s 17)),(1,(.s 21))]),M 2 22]
def ZSh:PF:=⟨false,
 (D Zcj
 (D (D Zck
 (E 6
 (D Zcl
 .ret)
 .skip))
 (D Zcm
 (D Zcn
 .ret)))),
 [.s 2]⟩
theorem ZhQ:ck0 false [(4,⟨[2],[],[(3,.pure)],[],[],[]⟩)] ZSh Tryz.f139=some ZSh:=by kernel_rfl
def ZL9:=R [0,1,2] [I 3 (.mv (.v (.int .u64 0))),K 4 0]
def ZMA:=R [2,5,6] [L 8 0,I 9 (.nilck (.s 8)),F 10 0 9,L 11 10,L 12 1,I 13 (.call .pure (.s 12) []),I 14 (C Jm [(.s 11),(.s 13)]),M 7 14,X 15 7 0,X 16 7 1,M 5 15,M 6 16]
def ZMB:=R [2,5,6,18] [M 17 6,W 18 .eql 17 0]
def ZMC:=R [5,6] [L 19 2,M 20 5,I 21 (.nilck (.s 19)),F 22 0 21,N 1 22 20]
def ZMD:=R [3,4] [M 23 5,M 24 6,M 3 23,M 4 24]
def ZE1:PF:=⟨false,
 (D ZL9
 (D ZMA
 (D (D ZMB
 (E 18
 ZMC
 .skip))
 (D ZMD
 .ret)))),
 [.s 3,.s 4]⟩
theorem ZRs:ck0 false [(1,⟨[2,5,6],[],[(5,.pure)],[],[],[]⟩)] ZE1 Tryz.f140=some ZE1:=by kernel_rfl
def ZHm:=R [0,3] [I 3 (.box (.s 1)),I 4 (.mv (.v (.int .u64 0))),K 5 0]
def ZHn:=R [0,3,16] [M 15 0,I 16 (.eqs false 3 [] (.s 15) (.v .nilptr))]
def ZHo:=R [4,5] [I 4 (.mv (.v (.int .u64 0))),K 5 1]
def ZHp:=R [0,3,6] [T 17 3 3,I 18 (C ZB8 [(.s 17)]),M 6 18]
def ZHq:=R [0,3,6,20] [M 19 6,W 20 .neq 19 0]
def ZHr:=R [4,5] [M 21 6,I 4 (.mv (.v (.int .u64 0))),M 5 21]
def ZHs:=R [0,3,23,24,25] [F 22 2 3,L 23 22,I 24 (.len 1 (.s 23)),K 25 0]
def ZHt:=R [0,3,23,24,25,26] [B 26 .lss 25 24]
def ZHu:=R [0,3,8,23,24,25] [I 27 (.ixS 4 (.s 23) (.s 25)),T 28 4 27,I 8 (.box (.v ZK)),N 4 8 28]
def ZHv:=R [0,3,8,9,10,23,24,25] [M 30 0,I 31 (.nilck (.s 30)),F 32 2 31,L 33 32,F 34 0 8,L 35 34,I 36 (.look 0 ZN true (.s 33) (.s 35)),M 29 36,X 37 29 0,X 38 29 1,I 9 (.box (.v ZN)),N 3 9 37,M 10 38]
def ZF3:=R [0,3,8,9,23,24,25,40] [M 39 10,I 40 (.un .not (.s 39))]
def ZF4:=R [4,5] [I 4 (.mv (.v (.int .u64 0))),K 5 10]
def ZF5:=R [0,3,8,9,11,12,23,24,25] [T 42 3 9,I 43 (C Xe [(.s 42)]),M 41 43,X 44 41 0,X 45 41 1,I 11 (.box (.v ZM)),N 3 11 44,M 12 45]
def ZF6:=R [0,3,23,24,25,61] [M 46 12,W 47 .neq 46 0,M 48 47,G 49 48 false (.fadr 0 (.s 9)),G 50 48 false (.ld false 1 (.s 49)),G 51 48 false (.fadr 0 (.s 3)),G 52 48 false (.ld false 1 (.s 51)),G 53 48 false (.bin .sub (.s 52) (V 1)),G 54 48 false (.bin .neq (.s 50) (.s 53)),I 55 (.pick (.s 48) (.v (.bool true)) (.s 54)),M 56 55,G 57 56 false (.ld true 3 (.s 11)),G 58 56 false (.fadr 1 (.s 8)),G 59 56 false (.ld true 3 (.s 58)),G 60 56 false (.eqs true 0 [(0,0),(1,0),(2,0)] (.s 57) (.s 59)),I 61 (.pick (.s 56) (.v (.bool true)) (.s 60))]
def ZF7:=R [4,5] [I 4 (.mv (.v (.int .u64 0))),K 5 23]
def ZF8:=R [0,3,23,24,25] [W 62 .add 25 1,M 25 62]
def ZF9:PC:=(D ZHt
 (D (E 26
 .skip
 (.exit 0))
 (D (.block 1
 (D ZHu
 (D ZHv
 (D (D ZF3
 (E 40
 (D ZF4
 .ret)
 .skip))
 (D ZF5
 (D ZF6
 (E 61
 (D ZF7
 .ret)
 .skip)))))))
 ZF8)))
def ZGA:=R [0,3,13,14] [M 64 0,I 65 (.nilck (.s 64)),F 66 1 65,L 67 66,I 68 (C Xg [(.s 67)]),M 63 68,X 69 63 0,X 70 63 1,M 13 69,M 14 70]
def ZGB:=R [0,3,13,14,72] [M 71 14,W 72 .neq 71 0]
def ZGC:=R [4,5] [M 73 14,I 4 (.mv (.v (.int .u64 0))),M 5 73]
def ZAn:=R [0,3,13] [F 74 2 3,L 75 74,I 76 (C Z9 [(.s 75)]),F 77 2 3,N 1 77 76]
def ZAo:=R [0,13] [M 78 0,I 79 (.nilck (.s 78)),F 80 2 79,L 81 80,M 82 13,T 83 3 3,J (.mupd 0 (.s 81) (.s 82) (.s 83))]
def ZAp:=R [13] [M 84 0,I 85 (.nilck (.s 84)),F 86 3 85,L 87 86,W 88 .add 87 1,I 89 (.nilck (.s 84)),F 90 3 89,N 1 90 88]
def ZAq:=R [4,5] [M 91 13,M 4 91,K 5 0]
def ZBz:PF:=⟨false,
 (D ZHm
 (D (D ZHn
 (E 16
 (D ZHo
 .ret)
 .skip))
 (D (D ZHp
 (D ZHq
 (E 20
 (D ZHr
 .ret)
 .skip)))
 (D (D ZHs
 (.block 0
 (.loop ZF9)))
 (D ZGA
 (D (D ZGB
 (E 72
 (D ZGC
 .ret)
 .skip))
 (D ZAn
 (D ZAo
 (D ZAp
 (D ZAq
 .ret)))))))))),
 [.s 4,.s 5]⟩
theorem ZKi:ck0 false [] ZBz Tryz.f141=some ZBz:=by kernel_rfl
def ZVI:=R [1] [I 1 (.box (.s 0)),I 2 (.mv (.v (.bool false)))]
def ZVJ:=R [1,9] [F 7 0 1,L 8 7,W 9 .eql 8 0]
def ZVK:=R [2] [F 10 1 1,L 11 10,I 12 (.len 0 (.s 11)),W 13 .geq 12 1,M 14 13,G 15 14 true (.fadr 1 (.s 1)),G 16 14 true (.ld false 1 (.s 15)),G 17 14 true (.len 0 (.s 16)),G 18 14 true (.bin .leq (.s 17) (V 16)),I 19 (.pick (.s 14) (.s 18) (.v (.bool false))),M 20 19,G 21 20 true (.fadr 2 (.s 1)),G 22 20 true (.ld false 1 (.s 21)),G 23 20 true (.len 1 (.s 22)),G 24 20 true (.bin .eql (.s 23) (V 0)),I 25 (.pick (.s 20) (.s 24) (.v (.bool false))),M 2 25]
def ZVL:=R [1,50] [F 26 0 1,L 27 26,W 28 .lss 27 1,M 29 28,G 30 29 false (.fadr 0 (.s 1)),G 31 29 false (.ld false 1 (.s 30)),G 32 29 false (.bin .gtr (.s 31) (V 16)),I 33 (.pick (.s 29) (.v (.bool true)) (.s 32)),M 34 33,G 35 34 false (.fadr 1 (.s 1)),G 36 34 false (.ld false 1 (.s 35)),G 37 34 false (.bin .neq (.s 36) (.v (.str []))),I 38 (.pick (.s 34) (.v (.bool true)) (.s 37)),M 39 38,G 40 39 false (.fadr 2 (.s 1)),G 41 39 false (.ld false 1 (.s 40)),G 42 39 false (.len 1 (.s 41)),G 43 39 false (.bin .lss (.s 42) (V 2)),I 44 (.pick (.s 39) (.v (.bool true)) (.s 43)),M 45 44,G 46 45 false (.fadr 2 (.s 1)),G 47 45 false (.ld false 1 (.s 46)),G 48 45 false (.len 1 (.s 47)),G 49 45 false (.bin .gtr (.s 48) (V 4)),I 50 (.pick (.s 45) (.v (.bool true)) (.s 49))]
def ZVM:=R [2] [I 2 (.mv (.v (.bool false)))]
def ZVN:=R [1,3,4] [F 52 0 1,L 53 52,W 54 .sub 53 1,I 55 (C ZEI [(.s 54)]),M 51 55,X 56 51 0,X 57 51 1,M 3 56,M 4 57]
def ZVO:=R [3,4,59,60,61] [F 58 2 1,L 59 58,I 60 (.len 1 (.s 59)),K 61 0]
def ZVP:=R [3,4,59,60,61,62] [B 62 .lss 61 60]
def ZVQ:=R [3,4,6,59,60,61] [I 63 (.ixS 4 (.s 59) (.s 61)),T 64 4 63,I 6 (.box (.v ZK)),N 4 6 64]
def ZVR:=R [3,4,59,60,61,112] [F 65 0 6,L 66 65,I 67 (C Yj [(.s 66)]),W 68 .neq 67 0,M 69 68,G 70 69 false (.fadr 1 (.s 6)),G 71 69 false (.fadr 0 (.s 70)),G 72 69 false (.ld false 1 (.s 71)),U 73 69 false 3,G 74 69 false (.bin .lss (.s 72) (.s 73)),I 75 (.pick (.s 69) (.v (.bool true)) (.s 74)),M 76 75,G 77 76 false (.fadr 1 (.s 6)),G 78 76 false (.fadr 0 (.s 77)),G 79 76 false (.ld false 1 (.s 78)),U 80 76 false 4,G 81 76 false (.bin .gtr (.s 79) (.s 80)),I 82 (.pick (.s 76) (.v (.bool true)) (.s 81)),M 83 82,G 84 83 false (.fadr 1 (.s 6)),G 85 83 false (.fadr 1 (.s 84)),G 86 83 false (.ld false 1 (.s 85)),G 87 83 false (.bin .lss (.s 86) (V 0)),I 88 (.pick (.s 83) (.v (.bool true)) (.s 87)),M 89 88,G 90 89 false (.fadr 1 (.s 6)),G 91 89 false (.fadr 1 (.s 90)),G 92 89 false (.ld false 1 (.s 91)),G 93 89 false (.fadr 1 (.s 6)),G 94 89 false (.fadr 0 (.s 93)),G 95 89 false (.ld false 1 (.s 94)),G 96 89 false (.bin .gtr (.s 92) (.s 95)),I 97 (.pick (.s 89) (.v (.bool true)) (.s 96)),M 98 97,G 99 98 false (.fadr 1 (.s 6)),G 100 98 false (.fadr 2 (.s 99)),G 101 98 false (.ld false 1 (.s 100)),G 102 98 false (.bin .lss (.s 101) (V 0)),I 103 (.pick (.s 98) (.v (.bool true)) (.s 102)),M 104 103,G 105 104 false (.fadr 1 (.s 6)),G 106 104 false (.fadr 2 (.s 105)),G 107 104 false (.ld false 1 (.s 106)),G 108 104 false (.fadr 1 (.s 6)),G 109 104 false (.fadr 1 (.s 108)),G 110 104 false (.ld false 1 (.s 109)),G 111 104 false (.bin .gtr (.s 107) (.s 110)),I 112 (.pick (.s 104) (.v (.bool true)) (.s 111))]
def ZRt:=R [2] [I 2 (.mv (.v (.bool false)))]
def ZRu:=R [3,4,59,60,61] [W 113 .add 61 1,M 61 113]
def ZRv:PC:=(D ZVP
 (D (E 62
 .skip
 (.exit 0))
 (D (.block 1
 (D ZVQ
 (D ZVR
 (E 112
 (D ZRt
 .ret)
 .skip))))
 ZRu)))
def ZRw:=R [2] [I 2 (.mv (.v (.bool true)))]
def ZK3:PF:=⟨false,
 (D ZVI
 (D (D ZVJ
 (E 9
 (D ZVK
 .ret)
 .skip))
 (D (D ZVL
 (E 50
 (D ZVM
 .ret)
 .skip))
 (D ZVN
 (D (D ZVO
 (.block 0
 (.loop ZRv)))
 (D ZRw
 .ret)))))),
 [.s 2]⟩
theorem Zcp:ck0 false [] ZK3 Tryz.f147=some ZK3:=by kernel_rfl
def ZZc:=R [0,2] [I 2 (.box (.v ZM))]
def ZZd:=R [0,2,3] [I 3 (.box (.v ZM))]
def ZZe:=R [0,2,3,6,7] [I 6 (.build [.nilfunc,.nilfunc,.nilfunc] [(0,1,(.v (.func (.func ZAI) [] []))),(1,1,(.v (.func (.func Xt) [] []))),(2,1,(.v (.func (.func ZAJ) [] [])))]),K 7 0]
def ZZf:=R [0,2,3,6,7,8] [W 8 .lss 7 3]
def ZZg:=R [0,2,3,4,5,6,7] [M 9 7,I 10 (.ixArr false 3 1 (.s 6) (.s 7)),M 4 9,M 5 10]
def ZZh:=R [0,2,3,6,7] [M 11 4,M 12 0,M 13 5,I 14 (C ZBt [(.s 12),(.s 13)]),I 15 (.ixA 3 1 (.s 3) (.s 11)),N 1 15 14]
def ZZi:=R [0,2,3,6,7] [W 16 .add 7 1,M 7 16]
def ZZj:PC:=(D ZZf
 (D (E 8
 .skip
 (.exit 0))
 (D (.block 1
 (D ZZg
 ZZh))
 ZZi)))
def ZZk:=R [2] [T 17 3 3,I 18 (C Yv [(.s 17)]),N 3 2 18]
def ZOa:PF:=⟨false,
 (D ZZc
 (D ZZd
 (D (D ZZe
 (.block 0
 (.loop ZZj)))
 (D ZZk
 .ret)))),
 [.c 2 true 3]⟩
theorem Zfr:ck0 false [] ZOa Tryz.f148=some ZOa:=by kernel_rfl
def ZVS:=R [0,2] [I 2 (.box (.v ZM))]
def ZVT:=R [0,2,3] [I 3 (.box (.v ZM))]
def ZVU:=R [2,3,8,9,10] [M 8 0,I 9 (.len 1 (.s 8)),K 10 0]
def ZVV:=R [2,3,8,9,10,11] [B 11 .lss 10 9]
def ZVW:=R [2,3,5,8,9,10] [I 12 (.ixS 3 (.s 8) (.s 10)),T 13 3 12,I 5 (.box (.v ZM)),N 3 5 13]
def ZVX:=R [2,3,8,9,10,20,21] [F 14 0 5,L 15 14,F 16 1 5,L 17 16,F 18 2 5,L 19 18,I 20 (.build [(.int .i64 0),(.int .i64 0),(.int .i64 0)] [(0,1,(.s 15)),(1,1,(.s 17)),(2,1,(.s 19))]),K 21 0]
def ZVY:=R [2,3,8,9,10,20,21,22] [W 22 .lss 21 3]
def ZVZ:=R [2,3,6,7,8,9,10,20,21] [M 23 21,I 24 (.ixArr false 3 1 (.s 20) (.s 21)),M 6 23,M 7 24]
def ZVa:=R [2,3,8,9,10,20,21] [M 25 6,I 26 (.ixA 3 1 (.s 3) (.s 25)),L 27 26,M 28 7,B 29 .add 27 28,I 30 (.ixA 3 1 (.s 3) (.s 25)),N 1 30 29]
def ZVb:=R [2,3,8,9,10,20,21] [W 31 .add 21 1,M 21 31]
def ZRx:PC:=(D ZVY
 (D (E 22
 .skip
 (.exit 2))
 (D (.block 3
 (D ZVZ
 ZVa))
 ZVb)))
def ZRy:=R [2,3,8,9,10] [W 32 .add 10 1,M 10 32]
def ZRz:PC:=(D ZVV
 (D (E 11
 .skip
 (.exit 0))
 (D (.block 1
 (D ZVW
 (D ZVX
 (.block 2
 (.loop ZRx)))))
 ZRy)))
def ZR0:=R [2] [T 33 3 3,I 34 (C Yv [(.s 33)]),N 3 2 34]
def ZK4:PF:=⟨false,
 (D ZVS
 (D ZVT
 (D (D ZVU
 (.block 0
 (.loop ZRz)))
 (D ZR0
 .ret)))),
 [.c 2 true 3]⟩
theorem Zcr:ck0 false [] ZK4 Tryz.f149=some ZK4:=by kernel_rfl
def ZZl:=R [0,1] [I 4 (.mv (.v .nils)),K 5 0]
def ZZm:=R [0,1,15] [M 8 0,I 9 (C ZAm [(.s 8)]),I 10 (.un .not (.s 9)),M 11 10,U 12 11 false 1,G 13 11 false (C ZAm [(.s 12)]),G 14 11 false (.un .not (.s 13)),I 15 (.pick (.s 11) (.v (.bool true)) (.s 14))]
def ZZn:=R [4,5] [I 4 (.mv (.v .nils)),K 5 2]
def ZZo:=R [0,1,6] [M 16 0,M 17 1,B 18 .add 16 17,M 6 18]
def ZZp:=R [0,1,6,21] [M 19 6,I 20 (.len 0 (.s 19)),W 21 .leq 20 16]
def ZZq:=R [4,5] [M 22 6,I 23 (.bslice false 1 [(.str [])] [(0,(.s 22))]),M 4 23,K 5 0]
def ZZr:=R [0,1,6,31] [M 24 0,I 25 (.len 0 (.s 24)),W 26 .geq 25 8,M 27 26,U 28 27 true 1,G 29 27 true (.len 0 (.s 28)),G 30 27 true (.bin .geq (.s 29) (V 8)),I 31 (.pick (.s 27) (.s 30) (.v (.bool false)))]
def ZZs:=R [4,5] [M 32 0,M 33 1,I 34 (.bslice false 1 [(.str []),(.str [])] [(0,(.s 32)),(1,(.s 33))]),M 4 34,K 5 0]
def ZZt:=R [6,7] [M 35 6,I 36 (.len 0 (.s 35)),W 37 .add 36 1,W 38 .quo 37 2,M 7 38]
def ZZu:=R [4,5] [M 39 6,M 40 7,I 41 (.slcS (.s 39) none (some (.s 40))),M 42 6,M 43 7,I 44 (.slcS (.s 42) (some (.s 43)) none),I 45 (.bslice false 1 [(.str []),(.str [])] [(0,(.s 41)),(1,(.s 44))]),M 4 45,K 5 0]
def ZOb:PF:=⟨false,
 (D ZZl
 (D (D ZZm
 (E 15
 (D ZZn
 .ret)
 .skip))
 (D ZZo
 (D (D ZZp
 (E 21
 (D ZZq
 .ret)
 .skip))
 (D (D ZZr
 (E 31
 (D ZZs
 .ret)
 .skip))
 (D ZZt
 (D ZZu
 .ret))))))),
 [.s 4,.s 5]⟩
theorem Zft:ck0 false [] ZOb Tryz.f150=some ZOb:=by kernel_rfl
def ZGD:=R [0] [I 2 (.mv (.v (.int .u64 0))),K 3 0]
def ZGE:=R [0,6] [M 5 0,I 6 (.eqs false 3 [] (.s 5) (.v .nilptr))]
def ZGF:=R [2,3] [I 2 (.mv (.v (.int .u64 0))),K 3 1]
def ZGG:=R [0,12] [M 7 0,I 8 (.nilck (.s 7)),F 9 0 8,L 10 9,I 11 (.len 1 (.s 10)),W 12 .eql 11 0]
def ZGH:=R [2,3] [I 2 (.mv (.v (.int .u64 0))),K 3 6]
def ZGI:=R [0,4] [M 13 0,I 14 (.nilck (.s 13)),F 15 0 14,L 16 15,M 17 0,I 18 (.nilck (.s 17)),F 19 0 18,L 20 19,I 21 (.len 1 (.s 20)),W 22 .sub 21 1,I 23 (.ixS 1 (.s 16) (.s 22)),L 24 23,M 4 24]
def ZGJ:=R [0,4] [M 25 0,M 26 0,I 27 (.nilck (.s 26)),F 28 0 27,L 29 28,M 30 0,I 31 (.nilck (.s 30)),F 32 0 31,L 33 32,I 34 (.len 1 (.s 33)),W 35 .sub 34 1,I 36 (.slc 1 (.s 29) none (some (.s 35))),I 37 (.nilck (.s 25)),F 38 0 37,N 1 38 36]
def ZGK:=R [0,4] [M 39 0,I 40 (.nilck (.s 39)),F 41 1 40,L 42 41,M 43 4,I 44 (.ixS 1 (.s 42) (.s 43)),J (.st 1 (.s 44) (.v (.int .u8 1)))]
def ZGL:=R [2,3] [M 45 4,M 46 0,I 47 (.nilck (.s 46)),F 48 2 47,L 49 48,M 50 4,I 51 (.ixS 1 (.s 49) (.s 50)),L 52 51,I 53 (C ZBO [(.s 45),(.s 52)]),X 54 53 0,X 55 53 1,M 2 54,M 3 55]
def ZBg:PF:=⟨false,
 (D ZGD
 (D (D ZGE
 (E 6
 (D ZGF
 .ret)
 .skip))
 (D (D ZGG
 (E 12
 (D ZGH
 .ret)
 .skip))
 (D ZGI
 (D ZGJ
 (D ZGK
 (D ZGL
 .ret))))))),
 [.s 2,.s 3]⟩
theorem ZJJ:ck0 false [] ZBg Tryz.f151=some ZBg:=by kernel_rfl
def ZVc:=R [0] [K 2 0,K 3 0]
def ZVd:=R [0,2,3] [K 2 8,K 3 16]
def ZVe:=R [2,3,4,5] [M 4 0,K 5 0]
def ZVf:=R [2,3,4,5,6] [B 6 .lss 5 4]
def ZVg:=R [2,3,4,5] [M 7 2,W 8 .mul 7 2,M 2 8]
def ZVh:=R [2,3,4,5] [M 9 3,W 10 .mul 9 4,I 11 (.mnx false (.s 10) (V 65536)),M 3 11]
def ZVi:=R [2,3,4,5] [W 12 .add 5 1,M 5 12]
def ZVj:PC:=(D ZVf
 (D (E 6
 .skip
 (.exit 0))
 (D (.block 1
 (D ZVg
 ZVh))
 ZVi)))
def ZVk:=R [2,3] [M 13 2,M 14 3,I 15 (.mnx false (.s 14) (V 65536)),M 2 13,M 3 15]
def ZK5:PF:=⟨false,
 (D ZVc
 (D ZVd
 (D (D ZVe
 (.block 0
 (.loop ZVj)))
 (D ZVk
 .ret)))),
 [.s 2,.s 3]⟩
theorem Zct:ck0 false [] ZK5 Tryz.f153=some ZK5:=by kernel_rfl
def ZOc:=R [] [I 2 (.mv (.v (.bool false)))]
def ZOd:=R [2] [I 2 (.mv (.v (.bool true)))]
def ZGp:PF:=⟨false,
 (D ZOc
 (D ZOd
 .ret)),
 [.s 2]⟩
theorem ZVm:ck0 false [] ZGp Tryz.f154=some ZGp:=by kernel_rfl
def ZME:=R [0] [I 2 (.mv (.v (.bool false)))]
def ZMF:=R [2] [M 3 0,I 4 (.bin .lss (.s 3) (.v (.int .u8 128))),M 5 4,U 6 5 false 0,G 7 5 false (.bin .gtr (.s 6) (.v (.int .u8 191))),I 8 (.pick (.s 5) (.v (.bool true)) (.s 7)),M 2 8]
def ZE2:PF:=⟨false,
 (D ZME
 (D ZMF
 .ret)),
 [.s 2]⟩
theorem ZR2:ck0 false [] ZE2 Tryz.f155=some ZE2:=by kernel_rfl
def ZOe:=R [0] [I 2 (.mv (.v (.bool false)))]
def ZOf:=R [2] [M 3 0,I 4 (.bin .eql (.s 3) (.v (.int .u8 10))),M 2 4]
def ZGq:PF:=⟨false,
 (D ZOe
 (D ZOf
 .ret)),
 [.s 2]⟩
theorem ZVo:ck0 false [] ZGq Tryz.f156=some ZGq:=by kernel_rfl
def ZOg:=R [0,1] [K 4 0]
def ZOh:=R [0,1,5] [K 5 0]
def ZOi:=R [0,1,5,8,9] [M 7 0,I 8 (.len 0 (.s 7)),K 9 0]
def ZOj:=R [0,1,5,8,9,10] [B 10 .lss 9 8]
def ZOk:=R [0,1,5,6,8,9] [M 11 9,M 6 11]
def ZOl:=R [0,1,5,8,9,16] [M 12 1,M 13 0,M 14 6,I 15 (.ixStr (.s 13) (.s 14)),I 16 (.call .norm (.s 12) [(.s 15)])]
def ZOm:=R [0,1,5,8,9] [M 17 5,W 18 .add 17 1,M 5 18]
def ZOn:=R [0,1,5,8,9] [W 19 .add 9 1,M 9 19]
def ZOo:PC:=(D ZOj
 (D (E 10
 .skip
 (.exit 0))
 (D (.block 1
 (D ZOk
 (D ZOl
 (E 16
 ZOm
 .skip))))
 ZOn)))
def ZOp:=R [4] [M 20 5,M 4 20]
def ZGr:PF:=⟨false,
 (D ZOg
 (D ZOh
 (D (D ZOi
 (.block 0
 (.loop ZOo)))
 (D ZOp
 .ret)))),
 [.s 4]⟩
theorem ZVq:ck0 false [] ZGr Tryz.f157=some ZGr:=by kernel_rfl
def ZJK:=R [1,2] [I 1 (.box (.s 0)),I 2 (.box (.v ZM))]
def ZJL:=R [1,2,5] [T 3 3 1,I 4 (.build [(.int .i64 0),(.int .i64 0),(.int .i64 0)] []),I 5 (.eqs false 0 [(0,0),(1,0),(2,0)] (.s 3) (.s 4))]
def ZJM:=R [2] [I 6 (.build [(.int .i64 0),(.int .i64 0),(.int .i64 0)] []),N 3 2 6]
def ZJN:=R [2] [I 7 (.ixA 3 1 (.s 1) (V 0)),L 8 7,I 9 (.ixA 3 1 (.s 1) (V 1)),L 10 9,I 11 (.ixA 3 1 (.s 1) (V 2)),L 12 11,I 13 (.build [(.int .i64 0),(.int .i64 0),(.int .i64 0)] [(0,1,(.s 8)),(1,1,(.s 10)),(2,1,(.s 12))]),N 3 2 13]
def ZDV:PF:=⟨false,
 (D ZJK
 (D (D ZJL
 (E 5
 (D ZJM
 .ret)
 .skip))
 (D ZJN
 .ret))),
 [.c 2 true 3]⟩
theorem ZMH:ck0 false [] ZDV Tryz.f158=some ZDV:=by kernel_rfl
end Go.Q15
